/- Secrets: Other of the program. / Secrets: with more amounts left out no Range is narrower (SecretsMore). / Secrets: what can be known (SecretsKnown). / Plain facts on memory: slices that read as lists, worlds that extend other worlds / How the form's readings of data give cells: slices, ints / What a law's row asks behind the walk: the call returned true and the world only has more -/
import Derived.Test.YtlffjnmbpoemnaaBk16
import Derived.WalkKit
import Derived.WalkSpells
import Derived.WalkLawsBesides
import Derived.Deep.QuietTactic
import Derived.BigQuiet
import Derived.Lib.Hide
import Derived.Deep.Slices
import Derived.Lib.SmallJoins
import Derived.OpenShut
import Derived.WideKeyArgs
import Derived.Deep.OwnRows
import Derived.ProofKit
import Derived.JoinedOf
set_option linter.unusedSimpArgs false
set_option linter.unusedVariables false
namespace Go.Proofs.Ytlffjnmbpoemnaa
open Go.RowKit

theorem push_at {s : Sheet} {m : List Int} {r c : Nat} {y : Nat → Nat → Int} {d a : Int} {up : Bool} {most : Int} (hlo : loV s m r c ≤ a ∧ a ≤ hiV s m r c) (hL : IsLo s m r c (loV s m r c)) (hH : IsHi s m r c (hiV s m r c)) (hu : up = true → most = a - s.A r c) (hd : up = false → most = s.A r c - a) (h : PushOut s m r c up most y d) : y r c = a := by
  obtain ⟨hy, hdd, h1, h2, h3⟩ := h
  cases up
  · have h2 := h2 rfl
    have hd := hd rfl
    rcases h3 with h3 | h3
    · omega
    · obtain ⟨⟨x, hx, ex⟩, _⟩ := hL
      have := h3.2 rfl x hx
      omega
  · have h1 := h1 rfl
    have hu := hu rfl
    rcases h3 with h3 | h3
    · omega
    · obtain ⟨⟨x, hx, ex⟩, _⟩ := hH
      have := h3.1 rfl x hx
      omega
/-- What Other gives. -/
def OtherOut (s : Sheet) (m : List Int) (r c a : Int) (v : AV) (h : List AB) : Prop := h = [] ∧ ((checkO s m r c a ≠ 0 ∧ v = .tup 2 (ofL [nilS, AI (checkO s m r c a)])) ∨ (checkO s m r c a = 0 ∧ ∃ y, Ag s m y ∧ y r.toNat c.toNat = a ∧ v = .tup 2 (ofL [aMat s.R s.C y, AI 0])))
set_option maxHeartbeats 16000000
set_option maxRecDepth 100000
theorem push01 (f : ShF) (s : Sheet) (z em : Bool) (m : List Int) (r0 c0 : Nat) (x : Nat → Nat → Int) : ACall Try.prog 58 [.ptr 0 0, AI 0] [.box 5 (ofL [iSt f s z em m, .own 1 1, AI r0, AI c0, AI 1]), .rwg 1 1 (fun _ _ => .own 2 s.C), rowF s.C (x 0)] (fun v h => v = AI 0 ∧ h = [.box 5 (ofL [iSt f s z em m, .own 1 1, AI r0, AI c0, AI 1]), .rwg 1 1 (fun _ _ => .own 2 s.C), rowF s.C (x 0)]) := by
  (refine fcall_of mixed Try.func58 rfl (by decide) (hs := {}) ?k (ac := ?ac) ?c (rs := ?rs) ?r ?l ?H; (case k => kernel_rfl); (case c => (conv => (lhs; cbv))); (case r => (conv => (lhs; cbv))); (case l => exact Nat.le_of_ble_eq_true rfl))
  (repeat' ((try (conv => whnf)); first | (with_reducible first | refine FCond.tA ?_ | refine FCond.fA ?_) | ((with_reducible refine FCond.i (fun hq => ?_) (fun hq => ?_)) <;> (try simp only [zA, zE, zD, zJ, zB, zI, Int.not_le, Int.not_lt] at hq)) | (with_reducible first | refine Fits.in64 (by omega) ?_ | refine FIdx.nat (by omega) ?_ | refine FIdx.int (by omega) ?_ | refine FTo.nat (by omega) ?_ | refine FTo.int (by omega) ?_) | ((with_reducible refine Need.mk ?_ ?_); focus exact needA) | (with_reducible refine FApp.grow ?_) | (with_reducible refine FOr.pub ?_)))
  all_goals (try (conv => whnf))
  refine FLoop.of (ACalls.mono _) (X := Unit) (fun _ => [(0, .ptr 0 0), (1, AI 0), (5, AI 0)]) (fun _ => [.box 5 (ofL [iSt f s z em m, .own 1 1, AI r0, AI c0, AI 1]), .rwg 1 1 (fun _ _ => .own 2 s.C), rowF s.C (x 0)]) (fun _ => True) (fun _ => 0) () ⟨True.intro, [0, 1, 2], (Cut.of (Nat.le_of_ble_eq_true rfl) rfl rfl (CutL.turned rfl LnB.A (CutL.turned rfl (LnB.rwg1 (Ln.ownE rfl rfl) (Nat.le_refl _)) (CutL.turned rfl LnB.A CutL.done)))), allA⟩ ?_
  rintro _ _
  (repeat' ((try (conv => whnf)); first | (with_reducible first | refine FCond.tA ?_ | refine FCond.fA ?_) | ((with_reducible refine FCond.i (fun hq => ?_) (fun hq => ?_)) <;> (try simp only [zA, zE, zD, zJ, zB, zI, Int.not_le, Int.not_lt] at hq)) | (with_reducible first | refine Fits.in64 (by omega) ?_ | refine FIdx.nat (by omega) ?_ | refine FIdx.int (by omega) ?_ | refine FTo.nat (by omega) ?_ | refine FTo.int (by omega) ?_) | ((with_reducible refine Need.mk ?_ ?_); focus exact needA) | (with_reducible refine FApp.grow ?_) | (with_reducible refine FOr.pub ?_)))
  all_goals (try (conv => whnf))
  exact ⟨⟨AI 0, [.box 5 (ofL [iSt f s z em m, .own 1 1, AI r0, AI c0, AI 1]), .rwg 1 1 (fun _ _ => .own 2 s.C), rowF s.C (x 0)], [0, 1, 2], (Cut.of (Nat.le_of_ble_eq_true rfl) rfl rfl (CutL.turned rfl LnB.A (CutL.turned rfl (LnB.rwg1 (Ln.ownE rfl rfl) (Nat.le_refl _)) (CutL.turned rfl LnB.A CutL.done)))), Ln.A, rfl, rfl⟩⟩
theorem other1 (f : ShF) (s : Sheet) (hn : Near s) (hk : s.ok = true) (z em : Bool) (m : List Int) (hm : MaskOk s m) (hm2 : m.length ≤ 1000) (r0 c0 : Nat) (hr0 : r0 < s.R) (hc0 : c0 < s.C) (a : Int) (ha : in64 a) (hp : checkP s m r0 c0 = 0) (hM0 : checkM s m = 0) (hR : s.R = 1) : ACall Try.prog 28 [aSh f s, aInts z em m, AI r0, AI c0, AI a] [] (fun v h => OtherOut s m r0 c0 a v h) := by
  have hs := sheet_d hk
  have c4 := hs.c4
  have hml := hm.len
  have hR' : s.amounts.length = 1 := hR
  have hrow := hs.row r0 hr0
  have hA0 : 0 ≤ (s.amounts.getD r0 []).getD c0 0 ∧ (s.amounts.getD r0 []).getD c0 0 ≤ 10000 := hs.amt r0 c0 hr0 hc0
  have hAA : s.A r0 c0 = (s.amounts.getD r0 []).getD c0 0 := rfl
  have cP := spot_ok f s hn z em m hm2 r0 c0
  rw [show spotV f s z em m r0 c0 = .tup 2 (ofL [iSt f s z em m, AI 0]) from by unfold spotV; rw [if_pos hM0, hp]] at cP
  have cS := span_ok f s hs (by omega) z em m hm r0 c0 hr0 hc0
  have hle := lo_le hs m hr0 hc0
  have hL := lo_is hs m hr0 hc0
  have hH := hi_is hs m hr0 hc0
  have cb1 := begin_ok f s hs (by omega) z em m r0 c0 (-1)
  have cb2 := begin_ok f s hs (by omega) z em m r0 c0 1
  rw [hR] at cb1 cb2
  have hcO : checkO s m r0 c0 a = if inB a (loV s m r0 c0) (hiV s m r0 c0) then 0 else 3 := by unfold checkO; rw [if_pos hp]; rfl
  (refine fcall_of mixed Try.func28 rfl (by decide) (hs := {}) ?k (ac := ?ac) ?c (rs := ?rs) ?r ?l ?H; (case k => kernel_rfl); (case c => (conv => (lhs; cbv))); (case r => (conv => (lhs; cbv))); (case l => exact Nat.le_of_ble_eq_true rfl))
  by_cases hin : loV s m r0 c0 ≤ a ∧ a ≤ hiV s m r0 c0
  · have hco : checkO s m r0 c0 a = 0 := by rw [hcO, show inB a (loV s m r0 c0) (hiV s m r0 c0) = true from decide_eq_true hin]; rfl
    cases ho : outS m r0 c0
    · have hsh := shown_lo hs m hr0 hc0 ho
      have haA : a = (s.amounts.getD r0 []).getD c0 0 := by omega
      have ha0 : a - (s.amounts.getD r0 []).getD c0 0 = 0 := by omega
      (repeat' ((try (conv => whnf)); first | (with_reducible first | refine FCond.tA ?_ | refine FCond.fA ?_) | ((with_reducible refine FCond.i (fun hq => ?_) (fun hq => ?_)) <;> (try simp only [zA, zE, zD, zJ, zB, zI, Int.not_le, Int.not_lt] at hq)) | (with_reducible first | refine Fits.in64 (by omega) ?_ | refine FIdx.nat (by omega) ?_ | refine FIdx.int (by omega) ?_ | refine FTo.nat (by omega) ?_ | refine FTo.int (by omega) ?_) | ((with_reducible refine Need.mk ?_ ?_); focus exact needA) | (with_reducible refine FApp.grow ?_) | (refine FCall.pure (cP) ⟨Ln.sameB _ rfl, Ln.sameB _ rfl, Ln.sameB _ rfl, Ln.sameB _ rfl, True.intro⟩ rfl ?_) | (refine FCall.pure (cS) ⟨Ln.sameB _ rfl, Ln.sameB _ rfl, Ln.sameB _ rfl, True.intro⟩ rfl ?_) | (with_reducible refine FOr.pub ?_)))
      all_goals (try (conv => whnf))
      ((refine FCall.give [] [] (cb2) rfl rfl True.intro ⟨Ln.A, Ln.A, Ln.A, Ln.A, True.intro⟩ ?_); rintro _ _ ⟨rfl, rfl⟩; (refine ⟨by first | exact Nat.le_of_ble_eq_true rfl | omega, .inl rfl, ?_⟩))
      (repeat' ((try (conv => whnf)); first | (with_reducible first | refine FCond.tA ?_ | refine FCond.fA ?_) | ((with_reducible refine FCond.i (fun hq => ?_) (fun hq => ?_)) <;> (try simp only [zA, zE, zD, zJ, zB, zI, Int.not_le, Int.not_lt] at hq)) | (with_reducible first | refine Fits.in64 (by omega) ?_ | refine FIdx.nat (by omega) ?_ | refine FIdx.int (by omega) ?_ | refine FTo.nat (by omega) ?_ | refine FTo.int (by omega) ?_) | ((with_reducible refine Need.mk ?_ ?_); focus exact needA) | (with_reducible refine FApp.grow ?_) | (with_reducible refine FOr.pub ?_)))
      all_goals (try (conv => whnf))
      refine FCall.give [2, 3, 4] [] (push01 f s z em m r0 c0 s.A) rfl rfl ⟨⟨_, rfl, trivial, LnB.boxN ⟨⟨⟨⟨⟨True.intro, Ln.A⟩, Ln.ownE rfl rfl⟩, Ln.A⟩, Ln.A⟩, Ln.A⟩⟩, ⟨_, rfl, trivial, LnB.rwg1 (Ln.ownE rfl rfl) (Nat.le_refl _)⟩, ⟨_, rfl, trivial, LnB.A⟩, True.intro⟩ ⟨Ln.A, Ln.int ha0, True.intro⟩ ?_
      rintro _ _ ⟨rfl, rfl⟩
      refine ⟨Nat.le_of_ble_eq_true rfl, .inl rfl, ?_⟩
      (repeat' ((try (conv => whnf)); first | (with_reducible first | refine FCond.tA ?_ | refine FCond.fA ?_) | ((with_reducible refine FCond.i (fun hq => ?_) (fun hq => ?_)) <;> (try simp only [zA, zE, zD, zJ, zB, zI, Int.not_le, Int.not_lt] at hq)) | (with_reducible first | refine Fits.in64 (by omega) ?_ | refine FIdx.nat (by omega) ?_ | refine FIdx.int (by omega) ?_ | refine FTo.nat (by omega) ?_ | refine FTo.int (by omega) ?_) | ((with_reducible refine Need.mk ?_ ?_); focus exact needA) | (with_reducible refine FApp.grow ?_) | (with_reducible refine FOr.pub ?_)))
      all_goals (try (conv => whnf))
      exact ⟨⟨.tup 2 (ofL [aMat s.R s.C s.A, AI 0]), [], [], Cut.nil _, Ln.tupN ⟨⟨True.intro, by rw [hR]; exact Ln.mat (x := s.A) (goneB rfl) rfl (Nat.le_refl _) (below1 (Ln.pubE (goneB rfl) rfl (Nat.le_refl _) rfl (fun _ _ _ _ => rfl)))⟩, Ln.A⟩, rfl, .inr ⟨hco, s.A, Ag.self hs m, haA.symm, rfl⟩⟩⟩
    · by_cases hlt : a < (s.amounts.getD r0 []).getD c0 0
      · (repeat' ((try (conv => whnf)); first | (with_reducible first | refine FCond.tA ?_ | refine FCond.fA ?_) | ((with_reducible refine FCond.i (fun hq => ?_) (fun hq => ?_)) <;> (try simp only [zA, zE, zD, zJ, zB, zI, Int.not_le, Int.not_lt] at hq)) | (with_reducible first | refine Fits.in64 (by omega) ?_ | refine FIdx.nat (by omega) ?_ | refine FIdx.int (by omega) ?_ | refine FTo.nat (by omega) ?_ | refine FTo.int (by omega) ?_) | ((with_reducible refine Need.mk ?_ ?_); focus exact needA) | (with_reducible refine FApp.grow ?_) | (refine FCall.pure (cP) ⟨Ln.sameB _ rfl, Ln.sameB _ rfl, Ln.sameB _ rfl, Ln.sameB _ rfl, True.intro⟩ rfl ?_) | (refine FCall.pure (cS) ⟨Ln.sameB _ rfl, Ln.sameB _ rfl, Ln.sameB _ rfl, True.intro⟩ rfl ?_) | (with_reducible refine FOr.pub ?_)))
        all_goals (try (conv => whnf))
        ((refine FCall.give [] [] (cb1) rfl rfl True.intro ⟨Ln.A, Ln.A, Ln.A, Ln.A, True.intro⟩ ?_); rintro _ _ ⟨rfl, rfl⟩; (refine ⟨by first | exact Nat.le_of_ble_eq_true rfl | omega, .inl rfl, ?_⟩))
        (repeat' ((try (conv => whnf)); first | (with_reducible first | refine FCond.tA ?_ | refine FCond.fA ?_) | ((with_reducible refine FCond.i (fun hq => ?_) (fun hq => ?_)) <;> (try simp only [zA, zE, zD, zJ, zB, zI, Int.not_le, Int.not_lt] at hq)) | (with_reducible first | refine Fits.in64 (by omega) ?_ | refine FIdx.nat (by omega) ?_ | refine FIdx.int (by omega) ?_ | refine FTo.nat (by omega) ?_ | refine FTo.int (by omega) ?_) | ((with_reducible refine Need.mk ?_ ?_); focus exact needA) | (with_reducible refine FApp.grow ?_) | (with_reducible refine FOr.pub ?_)))
        all_goals (try (conv => whnf))
        refine FCall.give [2, 3, 4] [] (push1D f s hs z em m hm r0 c0 hr0 hc0 ho (s.A r0 c0 - a) (by omega) hR) rfl rfl ⟨⟨_, rfl, trivial, LnB.boxN ⟨⟨⟨⟨⟨True.intro, Ln.A⟩, Ln.ownE rfl rfl⟩, Ln.A⟩, Ln.A⟩, Ln.A⟩⟩, ⟨_, rfl, trivial, LnB.rwg1 (Ln.ownE rfl rfl) (Nat.le_refl _)⟩, ⟨_, rfl, trivial, LnB.A⟩, True.intro⟩ ⟨Ln.A, Ln.int (by omega), True.intro⟩ ?_
        rintro _ _ ⟨y, d, rfl, rfl, hP⟩
        refine ⟨Nat.le_of_ble_eq_true rfl, .inl rfl, ?_⟩
        have hat := push_at hin hL hH (fun h => by cases h) (fun _ => by omega) hP
        (repeat' ((try (conv => whnf)); first | (with_reducible first | refine FCond.tA ?_ | refine FCond.fA ?_) | ((with_reducible refine FCond.i (fun hq => ?_) (fun hq => ?_)) <;> (try simp only [zA, zE, zD, zJ, zB, zI, Int.not_le, Int.not_lt] at hq)) | (with_reducible first | refine Fits.in64 (by omega) ?_ | refine FIdx.nat (by omega) ?_ | refine FIdx.int (by omega) ?_ | refine FTo.nat (by omega) ?_ | refine FTo.int (by omega) ?_) | ((with_reducible refine Need.mk ?_ ?_); focus exact needA) | (with_reducible refine FApp.grow ?_) | (with_reducible refine FOr.pub ?_)))
        all_goals (try (conv => whnf))
        exact ⟨⟨.tup 2 (ofL [aMat s.R s.C y, AI 0]), [], [], Cut.nil _, Ln.tupN ⟨⟨True.intro, by rw [hR]; exact Ln.mat (x := y) (goneB rfl) rfl (Nat.le_refl _) (below1 (Ln.pubE (goneB rfl) rfl (Nat.le_refl _) rfl (fun _ _ _ _ => rfl)))⟩, Ln.A⟩, rfl, .inr ⟨hco, y, hP.1, hat, rfl⟩⟩⟩
      · (repeat' ((try (conv => whnf)); first | (with_reducible first | refine FCond.tA ?_ | refine FCond.fA ?_) | ((with_reducible refine FCond.i (fun hq => ?_) (fun hq => ?_)) <;> (try simp only [zA, zE, zD, zJ, zB, zI, Int.not_le, Int.not_lt] at hq)) | (with_reducible first | refine Fits.in64 (by omega) ?_ | refine FIdx.nat (by omega) ?_ | refine FIdx.int (by omega) ?_ | refine FTo.nat (by omega) ?_ | refine FTo.int (by omega) ?_) | ((with_reducible refine Need.mk ?_ ?_); focus exact needA) | (with_reducible refine FApp.grow ?_) | (refine FCall.pure (cP) ⟨Ln.sameB _ rfl, Ln.sameB _ rfl, Ln.sameB _ rfl, Ln.sameB _ rfl, True.intro⟩ rfl ?_) | (refine FCall.pure (cS) ⟨Ln.sameB _ rfl, Ln.sameB _ rfl, Ln.sameB _ rfl, True.intro⟩ rfl ?_) | (with_reducible refine FOr.pub ?_)))
        all_goals (try (conv => whnf))
        ((refine FCall.give [] [] (cb2) rfl rfl True.intro ⟨Ln.A, Ln.A, Ln.A, Ln.A, True.intro⟩ ?_); rintro _ _ ⟨rfl, rfl⟩; (refine ⟨by first | exact Nat.le_of_ble_eq_true rfl | omega, .inl rfl, ?_⟩))
        (repeat' ((try (conv => whnf)); first | (with_reducible first | refine FCond.tA ?_ | refine FCond.fA ?_) | ((with_reducible refine FCond.i (fun hq => ?_) (fun hq => ?_)) <;> (try simp only [zA, zE, zD, zJ, zB, zI, Int.not_le, Int.not_lt] at hq)) | (with_reducible first | refine Fits.in64 (by omega) ?_ | refine FIdx.nat (by omega) ?_ | refine FIdx.int (by omega) ?_ | refine FTo.nat (by omega) ?_ | refine FTo.int (by omega) ?_) | ((with_reducible refine Need.mk ?_ ?_); focus exact needA) | (with_reducible refine FApp.grow ?_) | (with_reducible refine FOr.pub ?_)))
        all_goals (try (conv => whnf))
        refine FCall.give [2, 3, 4] [] (push1U f s hs z em m hm r0 c0 hr0 hc0 ho (a - s.A r0 c0) (by omega) hR) rfl rfl ⟨⟨_, rfl, trivial, LnB.boxN ⟨⟨⟨⟨⟨True.intro, Ln.A⟩, Ln.ownE rfl rfl⟩, Ln.A⟩, Ln.A⟩, Ln.A⟩⟩, ⟨_, rfl, trivial, LnB.rwg1 (Ln.ownE rfl rfl) (Nat.le_refl _)⟩, ⟨_, rfl, trivial, LnB.A⟩, True.intro⟩ ⟨Ln.A, Ln.int (by omega), True.intro⟩ ?_
        rintro _ _ ⟨y, d, rfl, rfl, hP⟩
        refine ⟨Nat.le_of_ble_eq_true rfl, .inl rfl, ?_⟩
        have hat := push_at hin hL hH (fun _ => rfl) (fun h => by cases h) hP
        (repeat' ((try (conv => whnf)); first | (with_reducible first | refine FCond.tA ?_ | refine FCond.fA ?_) | ((with_reducible refine FCond.i (fun hq => ?_) (fun hq => ?_)) <;> (try simp only [zA, zE, zD, zJ, zB, zI, Int.not_le, Int.not_lt] at hq)) | (with_reducible first | refine Fits.in64 (by omega) ?_ | refine FIdx.nat (by omega) ?_ | refine FIdx.int (by omega) ?_ | refine FTo.nat (by omega) ?_ | refine FTo.int (by omega) ?_) | ((with_reducible refine Need.mk ?_ ?_); focus exact needA) | (with_reducible refine FApp.grow ?_) | (with_reducible refine FOr.pub ?_)))
        all_goals (try (conv => whnf))
        exact ⟨⟨.tup 2 (ofL [aMat s.R s.C y, AI 0]), [], [], Cut.nil _, Ln.tupN ⟨⟨True.intro, by rw [hR]; exact Ln.mat (x := y) (goneB rfl) rfl (Nat.le_refl _) (below1 (Ln.pubE (goneB rfl) rfl (Nat.le_refl _) rfl (fun _ _ _ _ => rfl)))⟩, Ln.A⟩, rfl, .inr ⟨hco, y, hP.1, hat, rfl⟩⟩⟩
  · have hco : checkO s m r0 c0 a = 3 := by rw [hcO, show inB a (loV s m r0 c0) (hiV s m r0 c0) = false from decide_eq_false hin]; rfl
    (repeat' ((try (conv => whnf)); first | (with_reducible first | refine FCond.tA ?_ | refine FCond.fA ?_) | ((with_reducible refine FCond.i (fun hq => ?_) (fun hq => ?_)) <;> (try simp only [zA, zE, zD, zJ, zB, zI, Int.not_le, Int.not_lt] at hq)) | (with_reducible first | refine Fits.in64 (by omega) ?_ | refine FIdx.nat (by omega) ?_ | refine FIdx.int (by omega) ?_ | refine FTo.nat (by omega) ?_ | refine FTo.int (by omega) ?_) | ((with_reducible refine Need.mk ?_ ?_); focus exact needA) | (with_reducible refine FApp.grow ?_) | (refine FCall.pure (cP) ⟨Ln.sameB _ rfl, Ln.sameB _ rfl, Ln.sameB _ rfl, Ln.sameB _ rfl, True.intro⟩ rfl ?_) | (refine FCall.pure (cS) ⟨Ln.sameB _ rfl, Ln.sameB _ rfl, Ln.sameB _ rfl, True.intro⟩ rfl ?_) | (with_reducible refine FOr.pub ?_)))
    all_goals (try (conv => whnf))
    all_goals exact ⟨⟨.tup 2 (ofL [nilS, AI 3]), [], [], Cut.nil _, Ln.A, rfl, .inl ⟨by rw [hco]; decide, by rw [hco]⟩⟩⟩
theorem push02 (f : ShF) (s : Sheet) (z em : Bool) (m : List Int) (r0 c0 : Nat) (x : Nat → Nat → Int) : ACall Try.prog 58 [.ptr 0 0, AI 0] [.box 5 (ofL [iSt f s z em m, .own 1 2, AI r0, AI c0, AI 1]), .rwg 2 1 (fun k _ => match k with | 0 => .own 2 s.C | _ => .own 3 s.C), rowF s.C (x 0), rowF s.C (x 1)] (fun v h => v = AI 0 ∧ h = [.box 5 (ofL [iSt f s z em m, .own 1 2, AI r0, AI c0, AI 1]), .rwg 2 1 (fun k _ => match k with | 0 => .own 2 s.C | _ => .own 3 s.C), rowF s.C (x 0), rowF s.C (x 1)]) := by
  (refine fcall_of mixed Try.func58 rfl (by decide) (hs := {}) ?k (ac := ?ac) ?c (rs := ?rs) ?r ?l ?H; (case k => kernel_rfl); (case c => (conv => (lhs; cbv))); (case r => (conv => (lhs; cbv))); (case l => exact Nat.le_of_ble_eq_true rfl))
  (repeat' ((try (conv => whnf)); first | (with_reducible first | refine FCond.tA ?_ | refine FCond.fA ?_) | ((with_reducible refine FCond.i (fun hq => ?_) (fun hq => ?_)) <;> (try simp only [zA, zE, zD, zJ, zB, zI, Int.not_le, Int.not_lt] at hq)) | (with_reducible first | refine Fits.in64 (by omega) ?_ | refine FIdx.nat (by omega) ?_ | refine FIdx.int (by omega) ?_ | refine FTo.nat (by omega) ?_ | refine FTo.int (by omega) ?_) | ((with_reducible refine Need.mk ?_ ?_); focus exact needA) | (with_reducible refine FApp.grow ?_) | (with_reducible refine FOr.pub ?_)))
  all_goals (try (conv => whnf))
  refine FLoop.of (ACalls.mono _) (X := Unit) (fun _ => [(0, .ptr 0 0), (1, AI 0), (5, AI 0)]) (fun _ => [.box 5 (ofL [iSt f s z em m, .own 1 2, AI r0, AI c0, AI 1]), .rwg 2 1 (fun k _ => match k with | 0 => .own 2 s.C | _ => .own 3 s.C), rowF s.C (x 0), rowF s.C (x 1)]) (fun _ => True) (fun _ => 0) () ⟨True.intro, [0, 1, 2, 3], (Cut.of (Nat.le_of_ble_eq_true rfl) rfl rfl (CutL.turned rfl LnB.A (CutL.turned rfl (LnB.rwg2 (Ln.ownE rfl rfl) (Ln.ownE rfl rfl) (Nat.le_refl _)) (CutL.turned rfl LnB.A (CutL.turned rfl LnB.A CutL.done))))), allA⟩ ?_
  rintro _ _
  (repeat' ((try (conv => whnf)); first | (with_reducible first | refine FCond.tA ?_ | refine FCond.fA ?_) | ((with_reducible refine FCond.i (fun hq => ?_) (fun hq => ?_)) <;> (try simp only [zA, zE, zD, zJ, zB, zI, Int.not_le, Int.not_lt] at hq)) | (with_reducible first | refine Fits.in64 (by omega) ?_ | refine FIdx.nat (by omega) ?_ | refine FIdx.int (by omega) ?_ | refine FTo.nat (by omega) ?_ | refine FTo.int (by omega) ?_) | ((with_reducible refine Need.mk ?_ ?_); focus exact needA) | (with_reducible refine FApp.grow ?_) | (with_reducible refine FOr.pub ?_)))
  all_goals (try (conv => whnf))
  exact ⟨⟨AI 0, [.box 5 (ofL [iSt f s z em m, .own 1 2, AI r0, AI c0, AI 1]), .rwg 2 1 (fun k _ => match k with | 0 => .own 2 s.C | _ => .own 3 s.C), rowF s.C (x 0), rowF s.C (x 1)], [0, 1, 2, 3], (Cut.of (Nat.le_of_ble_eq_true rfl) rfl rfl (CutL.turned rfl LnB.A (CutL.turned rfl (LnB.rwg2 (Ln.ownE rfl rfl) (Ln.ownE rfl rfl) (Nat.le_refl _)) (CutL.turned rfl LnB.A (CutL.turned rfl LnB.A CutL.done))))), Ln.A, rfl, rfl⟩⟩
theorem other2 (f : ShF) (s : Sheet) (hn : Near s) (hk : s.ok = true) (z em : Bool) (m : List Int) (hm : MaskOk s m) (hm2 : m.length ≤ 1000) (r0 c0 : Nat) (hr0 : r0 < s.R) (hc0 : c0 < s.C) (a : Int) (ha : in64 a) (hp : checkP s m r0 c0 = 0) (hM0 : checkM s m = 0) (hR : s.R = 2) : ACall Try.prog 28 [aSh f s, aInts z em m, AI r0, AI c0, AI a] [] (fun v h => OtherOut s m r0 c0 a v h) := by
  have hs := sheet_d hk
  have c4 := hs.c4
  have hml := hm.len
  have hR' : s.amounts.length = 2 := hR
  have hrow := hs.row r0 hr0
  have hA0 : 0 ≤ (s.amounts.getD r0 []).getD c0 0 ∧ (s.amounts.getD r0 []).getD c0 0 ≤ 10000 := hs.amt r0 c0 hr0 hc0
  have hAA : s.A r0 c0 = (s.amounts.getD r0 []).getD c0 0 := rfl
  have cP := spot_ok f s hn z em m hm2 r0 c0
  rw [show spotV f s z em m r0 c0 = .tup 2 (ofL [iSt f s z em m, AI 0]) from by unfold spotV; rw [if_pos hM0, hp]] at cP
  have cS := span_ok f s hs (by omega) z em m hm r0 c0 hr0 hc0
  have hle := lo_le hs m hr0 hc0
  have hL := lo_is hs m hr0 hc0
  have hH := hi_is hs m hr0 hc0
  have cb1 := begin_ok f s hs (by omega) z em m r0 c0 (-1)
  have cb2 := begin_ok f s hs (by omega) z em m r0 c0 1
  rw [hR] at cb1 cb2
  have hcO : checkO s m r0 c0 a = if inB a (loV s m r0 c0) (hiV s m r0 c0) then 0 else 3 := by unfold checkO; rw [if_pos hp]; rfl
  (refine fcall_of mixed Try.func28 rfl (by decide) (hs := {}) ?k (ac := ?ac) ?c (rs := ?rs) ?r ?l ?H; (case k => kernel_rfl); (case c => (conv => (lhs; cbv))); (case r => (conv => (lhs; cbv))); (case l => exact Nat.le_of_ble_eq_true rfl))
  by_cases hin : loV s m r0 c0 ≤ a ∧ a ≤ hiV s m r0 c0
  · have hco : checkO s m r0 c0 a = 0 := by rw [hcO, show inB a (loV s m r0 c0) (hiV s m r0 c0) = true from decide_eq_true hin]; rfl
    cases ho : outS m r0 c0
    · have hsh := shown_lo hs m hr0 hc0 ho
      have haA : a = (s.amounts.getD r0 []).getD c0 0 := by omega
      have ha0 : a - (s.amounts.getD r0 []).getD c0 0 = 0 := by omega
      (repeat' ((try (conv => whnf)); first | (with_reducible first | refine FCond.tA ?_ | refine FCond.fA ?_) | ((with_reducible refine FCond.i (fun hq => ?_) (fun hq => ?_)) <;> (try simp only [zA, zE, zD, zJ, zB, zI, Int.not_le, Int.not_lt] at hq)) | (with_reducible first | refine Fits.in64 (by omega) ?_ | refine FIdx.nat (by omega) ?_ | refine FIdx.int (by omega) ?_ | refine FTo.nat (by omega) ?_ | refine FTo.int (by omega) ?_) | ((with_reducible refine Need.mk ?_ ?_); focus exact needA) | (with_reducible refine FApp.grow ?_) | (refine FCall.pure (cP) ⟨Ln.sameB _ rfl, Ln.sameB _ rfl, Ln.sameB _ rfl, Ln.sameB _ rfl, True.intro⟩ rfl ?_) | (refine FCall.pure (cS) ⟨Ln.sameB _ rfl, Ln.sameB _ rfl, Ln.sameB _ rfl, True.intro⟩ rfl ?_) | (with_reducible refine FOr.pub ?_)))
      all_goals (try (conv => whnf))
      ((refine FCall.give [] [] (cb2) rfl rfl True.intro ⟨Ln.A, Ln.A, Ln.A, Ln.A, True.intro⟩ ?_); rintro _ _ ⟨rfl, rfl⟩; (refine ⟨by first | exact Nat.le_of_ble_eq_true rfl | omega, .inl rfl, ?_⟩))
      (repeat' ((try (conv => whnf)); first | (with_reducible first | refine FCond.tA ?_ | refine FCond.fA ?_) | ((with_reducible refine FCond.i (fun hq => ?_) (fun hq => ?_)) <;> (try simp only [zA, zE, zD, zJ, zB, zI, Int.not_le, Int.not_lt] at hq)) | (with_reducible first | refine Fits.in64 (by omega) ?_ | refine FIdx.nat (by omega) ?_ | refine FIdx.int (by omega) ?_ | refine FTo.nat (by omega) ?_ | refine FTo.int (by omega) ?_) | ((with_reducible refine Need.mk ?_ ?_); focus exact needA) | (with_reducible refine FApp.grow ?_) | (with_reducible refine FOr.pub ?_)))
      all_goals (try (conv => whnf))
      refine FCall.give [2, 3, 4, 5] [] (push02 f s z em m r0 c0 s.A) rfl rfl ⟨⟨_, rfl, trivial, LnB.boxN ⟨⟨⟨⟨⟨True.intro, Ln.A⟩, Ln.ownE rfl rfl⟩, Ln.A⟩, Ln.A⟩, Ln.A⟩⟩, ⟨_, rfl, trivial, LnB.rwg2 (Ln.ownE rfl rfl) (Ln.ownE rfl rfl) (Nat.le_refl _)⟩, ⟨_, rfl, trivial, LnB.A⟩, ⟨_, rfl, trivial, LnB.A⟩, True.intro⟩ ⟨Ln.A, Ln.int ha0, True.intro⟩ ?_
      rintro _ _ ⟨rfl, rfl⟩
      refine ⟨Nat.le_of_ble_eq_true rfl, .inl rfl, ?_⟩
      (repeat' ((try (conv => whnf)); first | (with_reducible first | refine FCond.tA ?_ | refine FCond.fA ?_) | ((with_reducible refine FCond.i (fun hq => ?_) (fun hq => ?_)) <;> (try simp only [zA, zE, zD, zJ, zB, zI, Int.not_le, Int.not_lt] at hq)) | (with_reducible first | refine Fits.in64 (by omega) ?_ | refine FIdx.nat (by omega) ?_ | refine FIdx.int (by omega) ?_ | refine FTo.nat (by omega) ?_ | refine FTo.int (by omega) ?_) | ((with_reducible refine Need.mk ?_ ?_); focus exact needA) | (with_reducible refine FApp.grow ?_) | (with_reducible refine FOr.pub ?_)))
      all_goals (try (conv => whnf))
      exact ⟨⟨.tup 2 (ofL [aMat s.R s.C s.A, AI 0]), [], [], Cut.nil _, Ln.tupN ⟨⟨True.intro, by rw [hR]; exact Ln.mat (x := s.A) (goneB rfl) rfl (Nat.le_refl _) (below2 (Ln.pubE (goneB rfl) rfl (Nat.le_refl _) rfl (fun _ _ _ _ => rfl)) (Ln.pubE (goneB rfl) rfl (Nat.le_refl _) rfl (fun _ _ _ _ => rfl)))⟩, Ln.A⟩, rfl, .inr ⟨hco, s.A, Ag.self hs m, haA.symm, rfl⟩⟩⟩
    · by_cases hlt : a < (s.amounts.getD r0 []).getD c0 0
      · (repeat' ((try (conv => whnf)); first | (with_reducible first | refine FCond.tA ?_ | refine FCond.fA ?_) | ((with_reducible refine FCond.i (fun hq => ?_) (fun hq => ?_)) <;> (try simp only [zA, zE, zD, zJ, zB, zI, Int.not_le, Int.not_lt] at hq)) | (with_reducible first | refine Fits.in64 (by omega) ?_ | refine FIdx.nat (by omega) ?_ | refine FIdx.int (by omega) ?_ | refine FTo.nat (by omega) ?_ | refine FTo.int (by omega) ?_) | ((with_reducible refine Need.mk ?_ ?_); focus exact needA) | (with_reducible refine FApp.grow ?_) | (refine FCall.pure (cP) ⟨Ln.sameB _ rfl, Ln.sameB _ rfl, Ln.sameB _ rfl, Ln.sameB _ rfl, True.intro⟩ rfl ?_) | (refine FCall.pure (cS) ⟨Ln.sameB _ rfl, Ln.sameB _ rfl, Ln.sameB _ rfl, True.intro⟩ rfl ?_) | (with_reducible refine FOr.pub ?_)))
        all_goals (try (conv => whnf))
        ((refine FCall.give [] [] (cb1) rfl rfl True.intro ⟨Ln.A, Ln.A, Ln.A, Ln.A, True.intro⟩ ?_); rintro _ _ ⟨rfl, rfl⟩; (refine ⟨by first | exact Nat.le_of_ble_eq_true rfl | omega, .inl rfl, ?_⟩))
        (repeat' ((try (conv => whnf)); first | (with_reducible first | refine FCond.tA ?_ | refine FCond.fA ?_) | ((with_reducible refine FCond.i (fun hq => ?_) (fun hq => ?_)) <;> (try simp only [zA, zE, zD, zJ, zB, zI, Int.not_le, Int.not_lt] at hq)) | (with_reducible first | refine Fits.in64 (by omega) ?_ | refine FIdx.nat (by omega) ?_ | refine FIdx.int (by omega) ?_ | refine FTo.nat (by omega) ?_ | refine FTo.int (by omega) ?_) | ((with_reducible refine Need.mk ?_ ?_); focus exact needA) | (with_reducible refine FApp.grow ?_) | (with_reducible refine FOr.pub ?_)))
        all_goals (try (conv => whnf))
        refine FCall.give [2, 3, 4, 5] [] (push2D f s hs z em m hm r0 c0 hr0 hc0 ho (s.A r0 c0 - a) (by omega) hR) rfl rfl ⟨⟨_, rfl, trivial, LnB.boxN ⟨⟨⟨⟨⟨True.intro, Ln.A⟩, Ln.ownE rfl rfl⟩, Ln.A⟩, Ln.A⟩, Ln.A⟩⟩, ⟨_, rfl, trivial, LnB.rwg2 (Ln.ownE rfl rfl) (Ln.ownE rfl rfl) (Nat.le_refl _)⟩, ⟨_, rfl, trivial, LnB.A⟩, ⟨_, rfl, trivial, LnB.A⟩, True.intro⟩ ⟨Ln.A, Ln.int (by omega), True.intro⟩ ?_
        rintro _ _ ⟨y, d, rfl, rfl, hP⟩
        refine ⟨Nat.le_of_ble_eq_true rfl, .inl rfl, ?_⟩
        have hat := push_at hin hL hH (fun h => by cases h) (fun _ => by omega) hP
        (repeat' ((try (conv => whnf)); first | (with_reducible first | refine FCond.tA ?_ | refine FCond.fA ?_) | ((with_reducible refine FCond.i (fun hq => ?_) (fun hq => ?_)) <;> (try simp only [zA, zE, zD, zJ, zB, zI, Int.not_le, Int.not_lt] at hq)) | (with_reducible first | refine Fits.in64 (by omega) ?_ | refine FIdx.nat (by omega) ?_ | refine FIdx.int (by omega) ?_ | refine FTo.nat (by omega) ?_ | refine FTo.int (by omega) ?_) | ((with_reducible refine Need.mk ?_ ?_); focus exact needA) | (with_reducible refine FApp.grow ?_) | (with_reducible refine FOr.pub ?_)))
        all_goals (try (conv => whnf))
        exact ⟨⟨.tup 2 (ofL [aMat s.R s.C y, AI 0]), [], [], Cut.nil _, Ln.tupN ⟨⟨True.intro, by rw [hR]; exact Ln.mat (x := y) (goneB rfl) rfl (Nat.le_refl _) (below2 (Ln.pubE (goneB rfl) rfl (Nat.le_refl _) rfl (fun _ _ _ _ => rfl)) (Ln.pubE (goneB rfl) rfl (Nat.le_refl _) rfl (fun _ _ _ _ => rfl)))⟩, Ln.A⟩, rfl, .inr ⟨hco, y, hP.1, hat, rfl⟩⟩⟩
      · (repeat' ((try (conv => whnf)); first | (with_reducible first | refine FCond.tA ?_ | refine FCond.fA ?_) | ((with_reducible refine FCond.i (fun hq => ?_) (fun hq => ?_)) <;> (try simp only [zA, zE, zD, zJ, zB, zI, Int.not_le, Int.not_lt] at hq)) | (with_reducible first | refine Fits.in64 (by omega) ?_ | refine FIdx.nat (by omega) ?_ | refine FIdx.int (by omega) ?_ | refine FTo.nat (by omega) ?_ | refine FTo.int (by omega) ?_) | ((with_reducible refine Need.mk ?_ ?_); focus exact needA) | (with_reducible refine FApp.grow ?_) | (refine FCall.pure (cP) ⟨Ln.sameB _ rfl, Ln.sameB _ rfl, Ln.sameB _ rfl, Ln.sameB _ rfl, True.intro⟩ rfl ?_) | (refine FCall.pure (cS) ⟨Ln.sameB _ rfl, Ln.sameB _ rfl, Ln.sameB _ rfl, True.intro⟩ rfl ?_) | (with_reducible refine FOr.pub ?_)))
        all_goals (try (conv => whnf))
        ((refine FCall.give [] [] (cb2) rfl rfl True.intro ⟨Ln.A, Ln.A, Ln.A, Ln.A, True.intro⟩ ?_); rintro _ _ ⟨rfl, rfl⟩; (refine ⟨by first | exact Nat.le_of_ble_eq_true rfl | omega, .inl rfl, ?_⟩))
        (repeat' ((try (conv => whnf)); first | (with_reducible first | refine FCond.tA ?_ | refine FCond.fA ?_) | ((with_reducible refine FCond.i (fun hq => ?_) (fun hq => ?_)) <;> (try simp only [zA, zE, zD, zJ, zB, zI, Int.not_le, Int.not_lt] at hq)) | (with_reducible first | refine Fits.in64 (by omega) ?_ | refine FIdx.nat (by omega) ?_ | refine FIdx.int (by omega) ?_ | refine FTo.nat (by omega) ?_ | refine FTo.int (by omega) ?_) | ((with_reducible refine Need.mk ?_ ?_); focus exact needA) | (with_reducible refine FApp.grow ?_) | (with_reducible refine FOr.pub ?_)))
        all_goals (try (conv => whnf))
        refine FCall.give [2, 3, 4, 5] [] (push2U f s hs z em m hm r0 c0 hr0 hc0 ho (a - s.A r0 c0) (by omega) hR) rfl rfl ⟨⟨_, rfl, trivial, LnB.boxN ⟨⟨⟨⟨⟨True.intro, Ln.A⟩, Ln.ownE rfl rfl⟩, Ln.A⟩, Ln.A⟩, Ln.A⟩⟩, ⟨_, rfl, trivial, LnB.rwg2 (Ln.ownE rfl rfl) (Ln.ownE rfl rfl) (Nat.le_refl _)⟩, ⟨_, rfl, trivial, LnB.A⟩, ⟨_, rfl, trivial, LnB.A⟩, True.intro⟩ ⟨Ln.A, Ln.int (by omega), True.intro⟩ ?_
        rintro _ _ ⟨y, d, rfl, rfl, hP⟩
        refine ⟨Nat.le_of_ble_eq_true rfl, .inl rfl, ?_⟩
        have hat := push_at hin hL hH (fun _ => rfl) (fun h => by cases h) hP
        (repeat' ((try (conv => whnf)); first | (with_reducible first | refine FCond.tA ?_ | refine FCond.fA ?_) | ((with_reducible refine FCond.i (fun hq => ?_) (fun hq => ?_)) <;> (try simp only [zA, zE, zD, zJ, zB, zI, Int.not_le, Int.not_lt] at hq)) | (with_reducible first | refine Fits.in64 (by omega) ?_ | refine FIdx.nat (by omega) ?_ | refine FIdx.int (by omega) ?_ | refine FTo.nat (by omega) ?_ | refine FTo.int (by omega) ?_) | ((with_reducible refine Need.mk ?_ ?_); focus exact needA) | (with_reducible refine FApp.grow ?_) | (with_reducible refine FOr.pub ?_)))
        all_goals (try (conv => whnf))
        exact ⟨⟨.tup 2 (ofL [aMat s.R s.C y, AI 0]), [], [], Cut.nil _, Ln.tupN ⟨⟨True.intro, by rw [hR]; exact Ln.mat (x := y) (goneB rfl) rfl (Nat.le_refl _) (below2 (Ln.pubE (goneB rfl) rfl (Nat.le_refl _) rfl (fun _ _ _ _ => rfl)) (Ln.pubE (goneB rfl) rfl (Nat.le_refl _) rfl (fun _ _ _ _ => rfl)))⟩, Ln.A⟩, rfl, .inr ⟨hco, y, hP.1, hat, rfl⟩⟩⟩
  · have hco : checkO s m r0 c0 a = 3 := by rw [hcO, show inB a (loV s m r0 c0) (hiV s m r0 c0) = false from decide_eq_false hin]; rfl
    (repeat' ((try (conv => whnf)); first | (with_reducible first | refine FCond.tA ?_ | refine FCond.fA ?_) | ((with_reducible refine FCond.i (fun hq => ?_) (fun hq => ?_)) <;> (try simp only [zA, zE, zD, zJ, zB, zI, Int.not_le, Int.not_lt] at hq)) | (with_reducible first | refine Fits.in64 (by omega) ?_ | refine FIdx.nat (by omega) ?_ | refine FIdx.int (by omega) ?_ | refine FTo.nat (by omega) ?_ | refine FTo.int (by omega) ?_) | ((with_reducible refine Need.mk ?_ ?_); focus exact needA) | (with_reducible refine FApp.grow ?_) | (refine FCall.pure (cP) ⟨Ln.sameB _ rfl, Ln.sameB _ rfl, Ln.sameB _ rfl, Ln.sameB _ rfl, True.intro⟩ rfl ?_) | (refine FCall.pure (cS) ⟨Ln.sameB _ rfl, Ln.sameB _ rfl, Ln.sameB _ rfl, True.intro⟩ rfl ?_) | (with_reducible refine FOr.pub ?_)))
    all_goals (try (conv => whnf))
    all_goals exact ⟨⟨.tup 2 (ofL [nilS, AI 3]), [], [], Cut.nil _, Ln.A, rfl, .inl ⟨by rw [hco]; decide, by rw [hco]⟩⟩⟩
theorem push03 (f : ShF) (s : Sheet) (z em : Bool) (m : List Int) (r0 c0 : Nat) (x : Nat → Nat → Int) : ACall Try.prog 58 [.ptr 0 0, AI 0] [.box 5 (ofL [iSt f s z em m, .own 1 3, AI r0, AI c0, AI 1]), .rwg 3 1 (fun k _ => match k with | 0 => .own 2 s.C | 1 => .own 3 s.C | _ => .own 4 s.C), rowF s.C (x 0), rowF s.C (x 1), rowF s.C (x 2)] (fun v h => v = AI 0 ∧ h = [.box 5 (ofL [iSt f s z em m, .own 1 3, AI r0, AI c0, AI 1]), .rwg 3 1 (fun k _ => match k with | 0 => .own 2 s.C | 1 => .own 3 s.C | _ => .own 4 s.C), rowF s.C (x 0), rowF s.C (x 1), rowF s.C (x 2)]) := by
  (refine fcall_of mixed Try.func58 rfl (by decide) (hs := {}) ?k (ac := ?ac) ?c (rs := ?rs) ?r ?l ?H; (case k => kernel_rfl); (case c => (conv => (lhs; cbv))); (case r => (conv => (lhs; cbv))); (case l => exact Nat.le_of_ble_eq_true rfl))
  (repeat' ((try (conv => whnf)); first | (with_reducible first | refine FCond.tA ?_ | refine FCond.fA ?_) | ((with_reducible refine FCond.i (fun hq => ?_) (fun hq => ?_)) <;> (try simp only [zA, zE, zD, zJ, zB, zI, Int.not_le, Int.not_lt] at hq)) | (with_reducible first | refine Fits.in64 (by omega) ?_ | refine FIdx.nat (by omega) ?_ | refine FIdx.int (by omega) ?_ | refine FTo.nat (by omega) ?_ | refine FTo.int (by omega) ?_) | ((with_reducible refine Need.mk ?_ ?_); focus exact needA) | (with_reducible refine FApp.grow ?_) | (with_reducible refine FOr.pub ?_)))
  all_goals (try (conv => whnf))
  refine FLoop.of (ACalls.mono _) (X := Unit) (fun _ => [(0, .ptr 0 0), (1, AI 0), (5, AI 0)]) (fun _ => [.box 5 (ofL [iSt f s z em m, .own 1 3, AI r0, AI c0, AI 1]), .rwg 3 1 (fun k _ => match k with | 0 => .own 2 s.C | 1 => .own 3 s.C | _ => .own 4 s.C), rowF s.C (x 0), rowF s.C (x 1), rowF s.C (x 2)]) (fun _ => True) (fun _ => 0) () ⟨True.intro, [0, 1, 2, 3, 4], (Cut.of (Nat.le_of_ble_eq_true rfl) rfl rfl (CutL.turned rfl LnB.A (CutL.turned rfl (LnB.rwg3 (Ln.ownE rfl rfl) (Ln.ownE rfl rfl) (Ln.ownE rfl rfl) (Nat.le_refl _)) (CutL.turned rfl LnB.A (CutL.turned rfl LnB.A (CutL.turned rfl LnB.A CutL.done)))))), allA⟩ ?_
  rintro _ _
  (repeat' ((try (conv => whnf)); first | (with_reducible first | refine FCond.tA ?_ | refine FCond.fA ?_) | ((with_reducible refine FCond.i (fun hq => ?_) (fun hq => ?_)) <;> (try simp only [zA, zE, zD, zJ, zB, zI, Int.not_le, Int.not_lt] at hq)) | (with_reducible first | refine Fits.in64 (by omega) ?_ | refine FIdx.nat (by omega) ?_ | refine FIdx.int (by omega) ?_ | refine FTo.nat (by omega) ?_ | refine FTo.int (by omega) ?_) | ((with_reducible refine Need.mk ?_ ?_); focus exact needA) | (with_reducible refine FApp.grow ?_) | (with_reducible refine FOr.pub ?_)))
  all_goals (try (conv => whnf))
  exact ⟨⟨AI 0, [.box 5 (ofL [iSt f s z em m, .own 1 3, AI r0, AI c0, AI 1]), .rwg 3 1 (fun k _ => match k with | 0 => .own 2 s.C | 1 => .own 3 s.C | _ => .own 4 s.C), rowF s.C (x 0), rowF s.C (x 1), rowF s.C (x 2)], [0, 1, 2, 3, 4], (Cut.of (Nat.le_of_ble_eq_true rfl) rfl rfl (CutL.turned rfl LnB.A (CutL.turned rfl (LnB.rwg3 (Ln.ownE rfl rfl) (Ln.ownE rfl rfl) (Ln.ownE rfl rfl) (Nat.le_refl _)) (CutL.turned rfl LnB.A (CutL.turned rfl LnB.A (CutL.turned rfl LnB.A CutL.done)))))), Ln.A, rfl, rfl⟩⟩
theorem other3 (f : ShF) (s : Sheet) (hn : Near s) (hk : s.ok = true) (z em : Bool) (m : List Int) (hm : MaskOk s m) (hm2 : m.length ≤ 1000) (r0 c0 : Nat) (hr0 : r0 < s.R) (hc0 : c0 < s.C) (a : Int) (ha : in64 a) (hp : checkP s m r0 c0 = 0) (hM0 : checkM s m = 0) (hR : s.R = 3) : ACall Try.prog 28 [aSh f s, aInts z em m, AI r0, AI c0, AI a] [] (fun v h => OtherOut s m r0 c0 a v h) := by
  have hs := sheet_d hk
  have c4 := hs.c4
  have hml := hm.len
  have hR' : s.amounts.length = 3 := hR
  have hrow := hs.row r0 hr0
  have hA0 : 0 ≤ (s.amounts.getD r0 []).getD c0 0 ∧ (s.amounts.getD r0 []).getD c0 0 ≤ 10000 := hs.amt r0 c0 hr0 hc0
  have hAA : s.A r0 c0 = (s.amounts.getD r0 []).getD c0 0 := rfl
  have cP := spot_ok f s hn z em m hm2 r0 c0
  rw [show spotV f s z em m r0 c0 = .tup 2 (ofL [iSt f s z em m, AI 0]) from by unfold spotV; rw [if_pos hM0, hp]] at cP
  have cS := span_ok f s hs (by omega) z em m hm r0 c0 hr0 hc0
  have hle := lo_le hs m hr0 hc0
  have hL := lo_is hs m hr0 hc0
  have hH := hi_is hs m hr0 hc0
  have cb1 := begin_ok f s hs (by omega) z em m r0 c0 (-1)
  have cb2 := begin_ok f s hs (by omega) z em m r0 c0 1
  rw [hR] at cb1 cb2
  have hcO : checkO s m r0 c0 a = if inB a (loV s m r0 c0) (hiV s m r0 c0) then 0 else 3 := by unfold checkO; rw [if_pos hp]; rfl
  (refine fcall_of mixed Try.func28 rfl (by decide) (hs := {}) ?k (ac := ?ac) ?c (rs := ?rs) ?r ?l ?H; (case k => kernel_rfl); (case c => (conv => (lhs; cbv))); (case r => (conv => (lhs; cbv))); (case l => exact Nat.le_of_ble_eq_true rfl))
  by_cases hin : loV s m r0 c0 ≤ a ∧ a ≤ hiV s m r0 c0
  · have hco : checkO s m r0 c0 a = 0 := by rw [hcO, show inB a (loV s m r0 c0) (hiV s m r0 c0) = true from decide_eq_true hin]; rfl
    cases ho : outS m r0 c0
    · have hsh := shown_lo hs m hr0 hc0 ho
      have haA : a = (s.amounts.getD r0 []).getD c0 0 := by omega
      have ha0 : a - (s.amounts.getD r0 []).getD c0 0 = 0 := by omega
      (repeat' ((try (conv => whnf)); first | (with_reducible first | refine FCond.tA ?_ | refine FCond.fA ?_) | ((with_reducible refine FCond.i (fun hq => ?_) (fun hq => ?_)) <;> (try simp only [zA, zE, zD, zJ, zB, zI, Int.not_le, Int.not_lt] at hq)) | (with_reducible first | refine Fits.in64 (by omega) ?_ | refine FIdx.nat (by omega) ?_ | refine FIdx.int (by omega) ?_ | refine FTo.nat (by omega) ?_ | refine FTo.int (by omega) ?_) | ((with_reducible refine Need.mk ?_ ?_); focus exact needA) | (with_reducible refine FApp.grow ?_) | (refine FCall.pure (cP) ⟨Ln.sameB _ rfl, Ln.sameB _ rfl, Ln.sameB _ rfl, Ln.sameB _ rfl, True.intro⟩ rfl ?_) | (refine FCall.pure (cS) ⟨Ln.sameB _ rfl, Ln.sameB _ rfl, Ln.sameB _ rfl, True.intro⟩ rfl ?_) | (with_reducible refine FOr.pub ?_)))
      all_goals (try (conv => whnf))
      ((refine FCall.give [] [] (cb2) rfl rfl True.intro ⟨Ln.A, Ln.A, Ln.A, Ln.A, True.intro⟩ ?_); rintro _ _ ⟨rfl, rfl⟩; (refine ⟨by first | exact Nat.le_of_ble_eq_true rfl | omega, .inl rfl, ?_⟩))
      (repeat' ((try (conv => whnf)); first | (with_reducible first | refine FCond.tA ?_ | refine FCond.fA ?_) | ((with_reducible refine FCond.i (fun hq => ?_) (fun hq => ?_)) <;> (try simp only [zA, zE, zD, zJ, zB, zI, Int.not_le, Int.not_lt] at hq)) | (with_reducible first | refine Fits.in64 (by omega) ?_ | refine FIdx.nat (by omega) ?_ | refine FIdx.int (by omega) ?_ | refine FTo.nat (by omega) ?_ | refine FTo.int (by omega) ?_) | ((with_reducible refine Need.mk ?_ ?_); focus exact needA) | (with_reducible refine FApp.grow ?_) | (with_reducible refine FOr.pub ?_)))
      all_goals (try (conv => whnf))
      refine FCall.give [2, 3, 4, 5, 6] [] (push03 f s z em m r0 c0 s.A) rfl rfl ⟨⟨_, rfl, trivial, LnB.boxN ⟨⟨⟨⟨⟨True.intro, Ln.A⟩, Ln.ownE rfl rfl⟩, Ln.A⟩, Ln.A⟩, Ln.A⟩⟩, ⟨_, rfl, trivial, LnB.rwg3 (Ln.ownE rfl rfl) (Ln.ownE rfl rfl) (Ln.ownE rfl rfl) (Nat.le_refl _)⟩, ⟨_, rfl, trivial, LnB.A⟩, ⟨_, rfl, trivial, LnB.A⟩, ⟨_, rfl, trivial, LnB.A⟩, True.intro⟩ ⟨Ln.A, Ln.int ha0, True.intro⟩ ?_
      rintro _ _ ⟨rfl, rfl⟩
      refine ⟨Nat.le_of_ble_eq_true rfl, .inl rfl, ?_⟩
      (repeat' ((try (conv => whnf)); first | (with_reducible first | refine FCond.tA ?_ | refine FCond.fA ?_) | ((with_reducible refine FCond.i (fun hq => ?_) (fun hq => ?_)) <;> (try simp only [zA, zE, zD, zJ, zB, zI, Int.not_le, Int.not_lt] at hq)) | (with_reducible first | refine Fits.in64 (by omega) ?_ | refine FIdx.nat (by omega) ?_ | refine FIdx.int (by omega) ?_ | refine FTo.nat (by omega) ?_ | refine FTo.int (by omega) ?_) | ((with_reducible refine Need.mk ?_ ?_); focus exact needA) | (with_reducible refine FApp.grow ?_) | (with_reducible refine FOr.pub ?_)))
      all_goals (try (conv => whnf))
      exact ⟨⟨.tup 2 (ofL [aMat s.R s.C s.A, AI 0]), [], [], Cut.nil _, Ln.tupN ⟨⟨True.intro, by rw [hR]; exact Ln.mat (x := s.A) (goneB rfl) rfl (Nat.le_refl _) (below3 (Ln.pubE (goneB rfl) rfl (Nat.le_refl _) rfl (fun _ _ _ _ => rfl)) (Ln.pubE (goneB rfl) rfl (Nat.le_refl _) rfl (fun _ _ _ _ => rfl)) (Ln.pubE (goneB rfl) rfl (Nat.le_refl _) rfl (fun _ _ _ _ => rfl)))⟩, Ln.A⟩, rfl, .inr ⟨hco, s.A, Ag.self hs m, haA.symm, rfl⟩⟩⟩
    · by_cases hlt : a < (s.amounts.getD r0 []).getD c0 0
      · (repeat' ((try (conv => whnf)); first | (with_reducible first | refine FCond.tA ?_ | refine FCond.fA ?_) | ((with_reducible refine FCond.i (fun hq => ?_) (fun hq => ?_)) <;> (try simp only [zA, zE, zD, zJ, zB, zI, Int.not_le, Int.not_lt] at hq)) | (with_reducible first | refine Fits.in64 (by omega) ?_ | refine FIdx.nat (by omega) ?_ | refine FIdx.int (by omega) ?_ | refine FTo.nat (by omega) ?_ | refine FTo.int (by omega) ?_) | ((with_reducible refine Need.mk ?_ ?_); focus exact needA) | (with_reducible refine FApp.grow ?_) | (refine FCall.pure (cP) ⟨Ln.sameB _ rfl, Ln.sameB _ rfl, Ln.sameB _ rfl, Ln.sameB _ rfl, True.intro⟩ rfl ?_) | (refine FCall.pure (cS) ⟨Ln.sameB _ rfl, Ln.sameB _ rfl, Ln.sameB _ rfl, True.intro⟩ rfl ?_) | (with_reducible refine FOr.pub ?_)))
        all_goals (try (conv => whnf))
        ((refine FCall.give [] [] (cb1) rfl rfl True.intro ⟨Ln.A, Ln.A, Ln.A, Ln.A, True.intro⟩ ?_); rintro _ _ ⟨rfl, rfl⟩; (refine ⟨by first | exact Nat.le_of_ble_eq_true rfl | omega, .inl rfl, ?_⟩))
        (repeat' ((try (conv => whnf)); first | (with_reducible first | refine FCond.tA ?_ | refine FCond.fA ?_) | ((with_reducible refine FCond.i (fun hq => ?_) (fun hq => ?_)) <;> (try simp only [zA, zE, zD, zJ, zB, zI, Int.not_le, Int.not_lt] at hq)) | (with_reducible first | refine Fits.in64 (by omega) ?_ | refine FIdx.nat (by omega) ?_ | refine FIdx.int (by omega) ?_ | refine FTo.nat (by omega) ?_ | refine FTo.int (by omega) ?_) | ((with_reducible refine Need.mk ?_ ?_); focus exact needA) | (with_reducible refine FApp.grow ?_) | (with_reducible refine FOr.pub ?_)))
        all_goals (try (conv => whnf))
        refine FCall.give [2, 3, 4, 5, 6] [] (push3D f s hs z em m hm r0 c0 hr0 hc0 ho (s.A r0 c0 - a) (by omega) hR) rfl rfl ⟨⟨_, rfl, trivial, LnB.boxN ⟨⟨⟨⟨⟨True.intro, Ln.A⟩, Ln.ownE rfl rfl⟩, Ln.A⟩, Ln.A⟩, Ln.A⟩⟩, ⟨_, rfl, trivial, LnB.rwg3 (Ln.ownE rfl rfl) (Ln.ownE rfl rfl) (Ln.ownE rfl rfl) (Nat.le_refl _)⟩, ⟨_, rfl, trivial, LnB.A⟩, ⟨_, rfl, trivial, LnB.A⟩, ⟨_, rfl, trivial, LnB.A⟩, True.intro⟩ ⟨Ln.A, Ln.int (by omega), True.intro⟩ ?_
        rintro _ _ ⟨y, d, rfl, rfl, hP⟩
        refine ⟨Nat.le_of_ble_eq_true rfl, .inl rfl, ?_⟩
        have hat := push_at hin hL hH (fun h => by cases h) (fun _ => by omega) hP
        (repeat' ((try (conv => whnf)); first | (with_reducible first | refine FCond.tA ?_ | refine FCond.fA ?_) | ((with_reducible refine FCond.i (fun hq => ?_) (fun hq => ?_)) <;> (try simp only [zA, zE, zD, zJ, zB, zI, Int.not_le, Int.not_lt] at hq)) | (with_reducible first | refine Fits.in64 (by omega) ?_ | refine FIdx.nat (by omega) ?_ | refine FIdx.int (by omega) ?_ | refine FTo.nat (by omega) ?_ | refine FTo.int (by omega) ?_) | ((with_reducible refine Need.mk ?_ ?_); focus exact needA) | (with_reducible refine FApp.grow ?_) | (with_reducible refine FOr.pub ?_)))
        all_goals (try (conv => whnf))
        exact ⟨⟨.tup 2 (ofL [aMat s.R s.C y, AI 0]), [], [], Cut.nil _, Ln.tupN ⟨⟨True.intro, by rw [hR]; exact Ln.mat (x := y) (goneB rfl) rfl (Nat.le_refl _) (below3 (Ln.pubE (goneB rfl) rfl (Nat.le_refl _) rfl (fun _ _ _ _ => rfl)) (Ln.pubE (goneB rfl) rfl (Nat.le_refl _) rfl (fun _ _ _ _ => rfl)) (Ln.pubE (goneB rfl) rfl (Nat.le_refl _) rfl (fun _ _ _ _ => rfl)))⟩, Ln.A⟩, rfl, .inr ⟨hco, y, hP.1, hat, rfl⟩⟩⟩
      · (repeat' ((try (conv => whnf)); first | (with_reducible first | refine FCond.tA ?_ | refine FCond.fA ?_) | ((with_reducible refine FCond.i (fun hq => ?_) (fun hq => ?_)) <;> (try simp only [zA, zE, zD, zJ, zB, zI, Int.not_le, Int.not_lt] at hq)) | (with_reducible first | refine Fits.in64 (by omega) ?_ | refine FIdx.nat (by omega) ?_ | refine FIdx.int (by omega) ?_ | refine FTo.nat (by omega) ?_ | refine FTo.int (by omega) ?_) | ((with_reducible refine Need.mk ?_ ?_); focus exact needA) | (with_reducible refine FApp.grow ?_) | (refine FCall.pure (cP) ⟨Ln.sameB _ rfl, Ln.sameB _ rfl, Ln.sameB _ rfl, Ln.sameB _ rfl, True.intro⟩ rfl ?_) | (refine FCall.pure (cS) ⟨Ln.sameB _ rfl, Ln.sameB _ rfl, Ln.sameB _ rfl, True.intro⟩ rfl ?_) | (with_reducible refine FOr.pub ?_)))
        all_goals (try (conv => whnf))
        ((refine FCall.give [] [] (cb2) rfl rfl True.intro ⟨Ln.A, Ln.A, Ln.A, Ln.A, True.intro⟩ ?_); rintro _ _ ⟨rfl, rfl⟩; (refine ⟨by first | exact Nat.le_of_ble_eq_true rfl | omega, .inl rfl, ?_⟩))
        (repeat' ((try (conv => whnf)); first | (with_reducible first | refine FCond.tA ?_ | refine FCond.fA ?_) | ((with_reducible refine FCond.i (fun hq => ?_) (fun hq => ?_)) <;> (try simp only [zA, zE, zD, zJ, zB, zI, Int.not_le, Int.not_lt] at hq)) | (with_reducible first | refine Fits.in64 (by omega) ?_ | refine FIdx.nat (by omega) ?_ | refine FIdx.int (by omega) ?_ | refine FTo.nat (by omega) ?_ | refine FTo.int (by omega) ?_) | ((with_reducible refine Need.mk ?_ ?_); focus exact needA) | (with_reducible refine FApp.grow ?_) | (with_reducible refine FOr.pub ?_)))
        all_goals (try (conv => whnf))
        refine FCall.give [2, 3, 4, 5, 6] [] (push3U f s hs z em m hm r0 c0 hr0 hc0 ho (a - s.A r0 c0) (by omega) hR) rfl rfl ⟨⟨_, rfl, trivial, LnB.boxN ⟨⟨⟨⟨⟨True.intro, Ln.A⟩, Ln.ownE rfl rfl⟩, Ln.A⟩, Ln.A⟩, Ln.A⟩⟩, ⟨_, rfl, trivial, LnB.rwg3 (Ln.ownE rfl rfl) (Ln.ownE rfl rfl) (Ln.ownE rfl rfl) (Nat.le_refl _)⟩, ⟨_, rfl, trivial, LnB.A⟩, ⟨_, rfl, trivial, LnB.A⟩, ⟨_, rfl, trivial, LnB.A⟩, True.intro⟩ ⟨Ln.A, Ln.int (by omega), True.intro⟩ ?_
        rintro _ _ ⟨y, d, rfl, rfl, hP⟩
        refine ⟨Nat.le_of_ble_eq_true rfl, .inl rfl, ?_⟩
        have hat := push_at hin hL hH (fun _ => rfl) (fun h => by cases h) hP
        (repeat' ((try (conv => whnf)); first | (with_reducible first | refine FCond.tA ?_ | refine FCond.fA ?_) | ((with_reducible refine FCond.i (fun hq => ?_) (fun hq => ?_)) <;> (try simp only [zA, zE, zD, zJ, zB, zI, Int.not_le, Int.not_lt] at hq)) | (with_reducible first | refine Fits.in64 (by omega) ?_ | refine FIdx.nat (by omega) ?_ | refine FIdx.int (by omega) ?_ | refine FTo.nat (by omega) ?_ | refine FTo.int (by omega) ?_) | ((with_reducible refine Need.mk ?_ ?_); focus exact needA) | (with_reducible refine FApp.grow ?_) | (with_reducible refine FOr.pub ?_)))
        all_goals (try (conv => whnf))
        exact ⟨⟨.tup 2 (ofL [aMat s.R s.C y, AI 0]), [], [], Cut.nil _, Ln.tupN ⟨⟨True.intro, by rw [hR]; exact Ln.mat (x := y) (goneB rfl) rfl (Nat.le_refl _) (below3 (Ln.pubE (goneB rfl) rfl (Nat.le_refl _) rfl (fun _ _ _ _ => rfl)) (Ln.pubE (goneB rfl) rfl (Nat.le_refl _) rfl (fun _ _ _ _ => rfl)) (Ln.pubE (goneB rfl) rfl (Nat.le_refl _) rfl (fun _ _ _ _ => rfl)))⟩, Ln.A⟩, rfl, .inr ⟨hco, y, hP.1, hat, rfl⟩⟩⟩
  · have hco : checkO s m r0 c0 a = 3 := by rw [hcO, show inB a (loV s m r0 c0) (hiV s m r0 c0) = false from decide_eq_false hin]; rfl
    (repeat' ((try (conv => whnf)); first | (with_reducible first | refine FCond.tA ?_ | refine FCond.fA ?_) | ((with_reducible refine FCond.i (fun hq => ?_) (fun hq => ?_)) <;> (try simp only [zA, zE, zD, zJ, zB, zI, Int.not_le, Int.not_lt] at hq)) | (with_reducible first | refine Fits.in64 (by omega) ?_ | refine FIdx.nat (by omega) ?_ | refine FIdx.int (by omega) ?_ | refine FTo.nat (by omega) ?_ | refine FTo.int (by omega) ?_) | ((with_reducible refine Need.mk ?_ ?_); focus exact needA) | (with_reducible refine FApp.grow ?_) | (refine FCall.pure (cP) ⟨Ln.sameB _ rfl, Ln.sameB _ rfl, Ln.sameB _ rfl, Ln.sameB _ rfl, True.intro⟩ rfl ?_) | (refine FCall.pure (cS) ⟨Ln.sameB _ rfl, Ln.sameB _ rfl, Ln.sameB _ rfl, True.intro⟩ rfl ?_) | (with_reducible refine FOr.pub ?_)))
    all_goals (try (conv => whnf))
    all_goals exact ⟨⟨.tup 2 (ofL [nilS, AI 3]), [], [], Cut.nil _, Ln.A, rfl, .inl ⟨by rw [hco]; decide, by rw [hco]⟩⟩⟩
theorem other_ok (f : ShF) (s : Sheet) (hn : Near s) (h3 : s.ok = true → s.R ≤ 3) (z em : Bool) (m : List Int) (hm : m.length ≤ 1000) (r c a : Int) (ha : in64 a) : ACall Try.prog 28 [aSh f s, aInts z em m, AI r, AI c, AI a] [] (fun v h => OtherOut s m r c a v h) := by
  by_cases h0 : checkP s m r c = 0
  · have hp := checkP_0 h0
    have hM0 : checkM s m = 0 := by unfold checkM; rw [hp.ok, if_pos rfl, if_pos]; unfold checkP at h0; by_cases hm0 : checkM s m = 0; exact (checkM_0 hm0).2; rw [if_neg hm0] at h0; exact (hm0 h0).elim
    obtain ⟨r', rfl⟩ := Int.eq_ofNat_of_zero_le hp.r.1
    obtain ⟨c', rfl⟩ := Int.eq_ofNat_of_zero_le hp.c.1
    have hR := h3 hp.ok
    have r1 := hp.sh.r1
    have hR3 : s.R = 1 ∨ s.R = 2 ∨ s.R = 3 := by omega
    rcases hR3 with h | h | h
    · exact other1 f s hn hp.ok z em m hp.m hm r' c' (by have := hp.r; omega) (by have := hp.c; omega) a ha h0 hM0 h
    · exact other2 f s hn hp.ok z em m hp.m hm r' c' (by have := hp.r; omega) (by have := hp.c; omega) a ha h0 hM0 h
    · exact other3 f s hn hp.ok z em m hp.m hm r' c' (by have := hp.r; omega) (by have := hp.c; omega) a ha h0 hM0 h
  · have cP := spot_ok f s hn z em m hm r c
    have hco : checkO s m r c a = checkP s m r c := by unfold checkO; rw [if_neg h0]
    (refine fcall_of mixed Try.func28 rfl (by decide) (hs := {}) ?k (ac := ?ac) ?c (rs := ?rs) ?r ?l ?H; (case k => kernel_rfl); (case c => (conv => (lhs; cbv))); (case r => (conv => (lhs; cbv))); (case l => exact Nat.le_of_ble_eq_true rfl))
    by_cases hM0 : checkM s m = 0
    · rw [show spotV f s z em m r c = .tup 2 (ofL [iSt f s z em m, AI (checkP s m r c)]) from by unfold spotV; rw [if_pos hM0]] at cP
      (repeat' ((try (conv => whnf)); first | (with_reducible first | refine FCond.tA ?_ | refine FCond.fA ?_) | ((with_reducible refine FCond.i (fun hq => ?_) (fun hq => ?_)) <;> (try simp only [zA, zE, zD, zJ, zB, zI, Int.not_le, Int.not_lt] at hq)) | (with_reducible first | refine Fits.in64 (by omega) ?_ | refine FIdx.nat (by omega) ?_ | refine FIdx.int (by omega) ?_ | refine FTo.nat (by omega) ?_ | refine FTo.int (by omega) ?_) | ((with_reducible refine Need.mk ?_ ?_); focus exact needA) | (with_reducible refine FApp.grow ?_) | (refine FCall.pure (cP) ⟨Ln.sameB _ rfl, Ln.sameB _ rfl, Ln.sameB _ rfl, Ln.sameB _ rfl, True.intro⟩ rfl ?_) | (with_reducible refine FOr.pub ?_)))
      all_goals (try (conv => whnf))
      all_goals exact ⟨⟨.tup 2 (ofL [nilS, AI (checkP s m r c)]), [], [], Cut.nil _, Ln.A, rfl, .inl ⟨by rw [hco]; exact h0, by rw [hco]⟩⟩⟩
    · rw [show spotV f s z em m r c = .tup 2 (ofL [.nilp, AI (checkP s m r c)]) from by unfold spotV; rw [if_neg hM0]] at cP
      (repeat' ((try (conv => whnf)); first | (with_reducible first | refine FCond.tA ?_ | refine FCond.fA ?_) | ((with_reducible refine FCond.i (fun hq => ?_) (fun hq => ?_)) <;> (try simp only [zA, zE, zD, zJ, zB, zI, Int.not_le, Int.not_lt] at hq)) | (with_reducible first | refine Fits.in64 (by omega) ?_ | refine FIdx.nat (by omega) ?_ | refine FIdx.int (by omega) ?_ | refine FTo.nat (by omega) ?_ | refine FTo.int (by omega) ?_) | ((with_reducible refine Need.mk ?_ ?_); focus exact needA) | (with_reducible refine FApp.grow ?_) | (refine FCall.pure (cP) ⟨Ln.sameB _ rfl, Ln.sameB _ rfl, Ln.sameB _ rfl, Ln.sameB _ rfl, True.intro⟩ rfl ?_) | (with_reducible refine FOr.pub ?_)))
      all_goals (try (conv => whnf))
      all_goals exact ⟨⟨.tup 2 (ofL [nilS, AI (checkP s m r c)]), [], [], Cut.nil _, Ln.A, rfl, .inl ⟨by rw [hco]; exact h0, by rw [hco]⟩⟩⟩
end Go.Proofs.Ytlffjnmbpoemnaa

namespace Go.Proofs.Ytlffjnmbpoemnaa
open Go.RowKit

/-- What is left out by one or the other. -/
def bothS (s : Sheet) (m mo : List Int) : List Int := (List.range s.R).map fun r => (((m.getD r 0).toNat ||| (mo.getD r 0).toNat : Nat) : Int)
theorem valid_d {s : Sheet} {m : List Int} (h : validS s m = true) : Near s ∧ s.ok = true ∧ SheetOk s ∧ MaskOk s m ∧ m.length ≤ 20 ∧ s.R ≤ 3 ∧ s.C ≤ 3 := by
  unfold validS at h
  simp only [Bool.and_eq_true, Bool.not_eq_true', decide_eq_true_eq] at h
  obtain ⟨⟨h1, h2⟩, h3⟩ := h
  obtain ⟨hk, hm⟩ := checkM_0 h3
  have hf := far_d h1
  exact ⟨hf.1, hk, sheet_d hk, mask_d hm, h2, hf.2 hk⟩
theorem rangeV_0 {s : Sheet} {m : List Int} {r c : Nat} (h : checkP s m r c = 0) : rangeV s m r c = .tup 2 (ofL [spanA (loV s m r c) (hiV s m r c), AI 0]) := by
  unfold rangeV; rw [if_pos h, h]; rfl
def boV : Nat → AV
  | 0 => nilS
  | r + 1 => .own 2 (r + 1)
set_option maxHeartbeats 8000000
set_option maxRecDepth 100000
end Go.Proofs.Ytlffjnmbpoemnaa

namespace Go.Proofs.Ytlffjnmbpoemnaa
open Go.RowKit

/-- Amounts as rows. -/
def mkL (R C : Nat) (y : Nat → Nat → Int) : List (List Int) := (List.range R).map fun r => (List.range C).map (y r)
theorem mkL_len (R C : Nat) (y : Nat → Nat → Int) : (mkL R C y).length = R := by simp [mkL]
theorem mkL_row {R C r : Nat} (y : Nat → Nat → Int) (hr : r < R) : (mkL R C y).getD r [] = (List.range C).map (y r) := by unfold mkL; simp [List.getD, hr]
theorem mkL_at {R C r c : Nat} (y : Nat → Nat → Int) (hr : r < R) (hc : c < C) : at2 (mkL R C y) r c = y r c := by
  unfold at2; rw [mkL_row y hr]; simp [List.getD, hc]
theorem Ln.matL {σ : Nat → Nat → Prop} {Bp : Nat → Prop} {H : List AB} (R C : Nat) (y : Nat → Nat → Int) : Ln σ Bp H (aMat R C y) (aRows false false (fun _ => false) (fun _ => false) (mkL R C y)) := by
  refine Ln.le _ _ True.intro ?_
  show LeV _ (.sl false false (mkL R C y).length 1 _)
  rw [mkL_len]
  refine LeV.sl (fun h => h) fun k hk o ho => ?_
  show LeV (.sl false false C 1 _) (.sl false false ((mkL R C y).getD k []).length 1 _)
  have hl : ((mkL R C y).getD k []).length = C := by rw [mkL_row y hk]; simp
  rw [hl]
  exact LeV.sl (fun h => h) fun j hj o ho => LeV.of (int_eq (mkL_at y hk hj))
theorem agree_ag {s : Sheet} {m : List Int} {l : List (List Int)} (h : agreeB s m l = true) : Ag s m (at2 l) ∧ l.length = s.R ∧ ∀ r, r < s.R → (l.getD r []).length = s.C := by
  unfold agreeB at h
  simp only [Bool.and_eq_true, decide_eq_true_eq] at h
  obtain ⟨⟨⟨h1, h2⟩, h3⟩, h4⟩ := h
  have line : ∀ r, r < s.R → lineB s m l r = true := fun r hr => List.all_eq_true.1 h2 r (List.mem_range.2 hr)
  have cell : ∀ r c, r < s.R → c < s.C → cellB s m l r c = true := fun r c hr hc => by
    have := line r hr
    unfold lineB at this
    simp only [Bool.and_eq_true] at this
    exact List.all_eq_true.1 this.2 c (List.mem_range.2 hc)
  refine ⟨⟨fun r c hr hc => ?_, fun r c hr hc ho => ?_, fun r hr => ?_, fun c hc => ?_⟩, h1, fun r hr => ?_⟩
  · have := cell r c hr hc
    unfold cellB at this
    simp only [Bool.and_eq_true, inB, decide_eq_true_eq] at this
    exact this.1.1
  · have := cell r c hr hc
    unfold cellB at this
    rw [ho] at this
    simp only [Bool.and_eq_true, Bool.false_or, decide_eq_true_eq] at this
    exact this.2
  · exact ((eqTo_iff.1 h3) r hr).symm
  · exact ((eqTo_iff.1 h4) c hc).symm
  · have := line r hr
    unfold lineB at this
    simp only [Bool.and_eq_true, decide_eq_true_eq] at this
    exact this.1
theorem ag_agree {s : Sheet} (hs : SheetOk s) {m : List Int} {y : Nat → Nat → Int} (h : Ag s m y) : agreeB s m (mkL s.R s.C y) = true := by
  unfold agreeB
  rw [decide_eq_true (mkL_len s.R s.C y), rall_yes fun r hr => ?_, eqTo_yes fun r hr => ?_, eqTo_yes fun c hc => ?_]
  · rfl
  · show colTo s.amounts s.R c = colTo (mkL s.R s.C y) s.R c
    unfold colTo
    rw [sumTo_congr (f := fun i => at2 (mkL s.R s.C y) i c) (g := fun i => y i c) fun i hi => mkL_at y hi hc, h.col c hc]; rfl
  · unfold rowSum
    rw [sumTo_congr (f := at2 (mkL s.R s.C y) r) (g := y r) fun i hi => mkL_at y hr hi, h.row r hr]; rfl
  · unfold lineB
    rw [decide_eq_true (by rw [mkL_row y hr]; simp), Bool.true_and]
    refine rall_yes fun c hc => ?_
    unfold cellB
    rw [mkL_at y hr hc]
    have a := h.nn r c hr hc
    have b := h.le hs hr hc
    rw [show inB (y r c) 0 40000 = true from decide_eq_true ⟨a, b⟩, Bool.true_and]
    cases ho : outS m r c
    · rw [decide_eq_true (h.un r c hr hc ho)]; rfl
    · rfl
def l3 (a b c : Int) : Nat → Int
  | 0 => a
  | 1 => b
  | _ => c
set_option maxHeartbeats 16000000
set_option maxRecDepth 100000
theorem known_any (f : ShF) (s : Sheet) (z e : Bool) (m : List Int) (z2 e2 : Bool) (rz re : Nat → Bool) (l : List (List Int)) (hl : l.length ≤ 9223372036854775807) (r c a : Int) (ha : in64 a) : ACall Try.prog 7 [aSh f s, aInts z e m, .agg 4 (ofL [aRows z2 e2 rz re l, AI r, AI c, AI a])] [] (fun v h => v = .bool true ∧ h = []) := by
  have cV := valid_ok f s z e m
  (refine fcall_of mixed Try.func7 rfl (by decide) (hs := {}) ?k (ac := ?ac) ?c (rs := ?rs) ?r ?l ?H; (case k => kernel_rfl); (case c => (conv => (lhs; cbv))); (case r => (conv => (lhs; cbv))); (case l => exact Nat.le_of_ble_eq_true rfl))
  cases hv : validS s m
  · rw [hv] at cV
    (repeat' ((try (conv => whnf)); first | (with_reducible first | refine FCond.tA ?_ | refine FCond.fA ?_) | ((with_reducible refine FCond.i (fun hq => ?_) (fun hq => ?_)) <;> (try simp only [zA, zE, zD, zJ, zB, zI, Int.not_le, Int.not_lt] at hq)) | (with_reducible first | refine Fits.in64 (by omega) ?_ | refine FIdx.nat (by omega) ?_ | refine FIdx.int (by omega) ?_ | refine FTo.nat (by omega) ?_ | refine FTo.int (by omega) ?_) | ((with_reducible refine Need.mk ?_ ?_); focus exact needA) | (with_reducible refine FApp.grow ?_) | (refine FCall.pure (cV) ⟨Ln.sameB _ rfl, Ln.sameB _ rfl, True.intro⟩ rfl ?_) | (refine FCall.pure works_ok True.intro rfl ?_) | (with_reducible refine FOr.pub ?_)))
    all_goals (try (conv => whnf))
    all_goals ((refine ⟨⟨_, [], [], Cut.nil _, Ln.sameB _ rfl, ?_, rfl⟩⟩); rfl)
  rw [hv] at cV
  obtain ⟨hn, hk, hs, hm, hm20, hR3, hC3⟩ := valid_d hv
  have cP := refCheckP_ok f s hn z e m (by omega) r c
  rcases Decidable.em (¬ checkP s m r c = 0) with hp | hp
  · (repeat' ((try (conv => whnf)); first | (with_reducible first | refine FCond.tA ?_ | refine FCond.fA ?_) | ((with_reducible refine FCond.i (fun hq => ?_) (fun hq => ?_)) <;> (try simp only [zA, zE, zD, zJ, zB, zI, Int.not_le, Int.not_lt] at hq)) | (with_reducible first | refine Fits.in64 (by omega) ?_ | refine FIdx.nat (by omega) ?_ | refine FIdx.int (by omega) ?_ | refine FTo.nat (by omega) ?_ | refine FTo.int (by omega) ?_) | ((with_reducible refine Need.mk ?_ ?_); focus exact needA) | (with_reducible refine FApp.grow ?_) | (refine FCall.pure (cV) ⟨Ln.sameB _ rfl, Ln.sameB _ rfl, True.intro⟩ rfl ?_) | (refine FCall.pure works_ok True.intro rfl ?_) | (refine FCall.pure (cP) ⟨Ln.sameB _ rfl, Ln.sameB _ rfl, Ln.sameB _ rfl, Ln.sameB _ rfl, True.intro⟩ rfl ?_) | (with_reducible refine FOr.pub ?_)))
    all_goals (try (conv => whnf))
    all_goals ((refine ⟨⟨_, [], [], Cut.nil _, Ln.sameB _ rfl, ?_, rfl⟩⟩); rfl)
  have hp : checkP s m r c = 0 := Decidable.not_not.1 hp
  rw [hp] at cP
  have hpp := checkP_0 hp
  obtain ⟨r', rfl⟩ := Int.eq_ofNat_of_zero_le hpp.r.1
  obtain ⟨c', rfl⟩ := Int.eq_ofNat_of_zero_le hpp.c.1
  have hr' : r' < s.R := by have := hpp.r; omega
  have hc' : c' < s.C := by have := hpp.c; omega
  have hRl : s.R = s.amounts.length := rfl
  have hrow := hs.row r' hr'
  have cR := pRange_ok f s hn (fun _ => hR3) z e m (by omega) r' c'
  rw [rangeV_0 hp] at cR
  have hle : 0 ≤ loV s m r' c' ∧ loV s m r' c' ≤ (s.amounts.getD r' []).getD c' 0 ∧ (s.amounts.getD r' []).getD c' 0 ≤ hiV s m r' c' ∧ hiV s m r' c' ≤ 40000 := lo_le hs m hr' hc'
  have hco : ∀ v, checkO s m r' c' v = if inB v (loV s m r' c') (hiV s m r' c') then 0 else 3 := fun v => by unfold checkO; rw [if_pos hp]; rfl
  have cA := agrees_ok f s hs z e m hm z2 e2 rz re l
  apply cutG
  · intro rest
    by_cases hl20 : l.length ≤ 20
    · cases hag : agreeB s m l
      · rw [hag] at cA
        (repeat' ((try (conv => whnf)); first | (with_reducible first | refine FCond.tA ?_ | refine FCond.fA ?_) | ((with_reducible refine FCond.i (fun hq => ?_) (fun hq => ?_)) <;> (try simp only [zA, zE, zD, zJ, zB, zI, Int.not_le, Int.not_lt] at hq)) | (with_reducible first | refine Fits.in64 (by omega) ?_ | refine FIdx.nat (by omega) ?_ | refine FIdx.int (by omega) ?_ | refine FTo.nat (by omega) ?_ | refine FTo.int (by omega) ?_) | ((with_reducible refine Need.mk ?_ ?_); focus exact needA) | (with_reducible refine FApp.grow ?_) | (refine FCall.pure (cV) ⟨Ln.sameB _ rfl, Ln.sameB _ rfl, True.intro⟩ rfl ?_) | (refine FCall.pure (cP) ⟨Ln.sameB _ rfl, Ln.sameB _ rfl, Ln.sameB _ rfl, Ln.sameB _ rfl, True.intro⟩ rfl ?_) | (refine FCall.pure (cR) ⟨Ln.sameB _ rfl, Ln.sameB _ rfl, Ln.sameB _ rfl, Ln.sameB _ rfl, True.intro⟩ rfl ?_) | (refine FCall.pure (cA) ⟨Ln.sameB _ rfl, Ln.sameB _ rfl, Ln.sameB _ rfl, True.intro⟩ rfl ?_) | (with_reducible refine FOr.pub ?_)))
        all_goals (try (conv => whnf))
        exact FLoop.of (ACalls.mono _) (X := Nat) (fun i => [(1, aInts z e m), (3, .ptr 0 0), (7, AI r'), (8, AI c'), (9, .ptr 1 0), (11, .sl false true 3 1 (fun k _ => AI (l3 (loV s m r' c') (hiV s m r' c') a k))), (12, AI i)]) (fun i => [.box 3 (cSh f s), .box 2 (ofL [AI (loV s m r' c'), AI (hiV s m r' c')])]) (fun i => i ≤ 3) (fun i => 3 - i) 0 ⟨Nat.zero_le _, [0, 2], Cut.A, ⟨Ln.A, Ln.A, Ln.A, Ln.A, Ln.A, Ln.sl _ _ _ _ _ _ _ (fun h => h) (below3 (fun o ho => by obtain rfl : o = 0 := Nat.lt_one_iff.1 ho; rfl) (fun o ho => by obtain rfl : o = 0 := Nat.lt_one_iff.1 ho; rfl) (fun o ho => by obtain rfl : o = 0 := Nat.lt_one_iff.1 ho; rfl)), Ln.A, True.intro⟩⟩ rest.h
      · rw [hag] at cA
        obtain ⟨hAg, hlR, hlC⟩ := agree_ag hag
        have hlc := hlC r' hr'
        have b1 : loV s m r' c' ≤ (l.getD r' []).getD c' 0 := (lo_is hs m hr' hc').2 _ hAg
        have b2 : (l.getD r' []).getD c' 0 ≤ hiV s m r' c' := (hi_is hs m hr' hc').2 _ hAg
        (repeat' ((try (conv => whnf)); first | (with_reducible first | refine FCond.tA ?_ | refine FCond.fA ?_) | ((with_reducible refine FCond.i (fun hq => ?_) (fun hq => ?_)) <;> (try simp only [zA, zE, zD, zJ, zB, zI, Int.not_le, Int.not_lt] at hq)) | (with_reducible first | refine Fits.in64 (by omega) ?_ | refine FIdx.nat (by omega) ?_ | refine FIdx.int (by omega) ?_ | refine FTo.nat (by omega) ?_ | refine FTo.int (by omega) ?_) | ((with_reducible refine Need.mk ?_ ?_); focus exact needA) | (with_reducible refine FApp.grow ?_) | (refine FCall.pure (cV) ⟨Ln.sameB _ rfl, Ln.sameB _ rfl, True.intro⟩ rfl ?_) | (refine FCall.pure (cP) ⟨Ln.sameB _ rfl, Ln.sameB _ rfl, Ln.sameB _ rfl, Ln.sameB _ rfl, True.intro⟩ rfl ?_) | (refine FCall.pure (cR) ⟨Ln.sameB _ rfl, Ln.sameB _ rfl, Ln.sameB _ rfl, Ln.sameB _ rfl, True.intro⟩ rfl ?_) | (refine FCall.pure (cA) ⟨Ln.sameB _ rfl, Ln.sameB _ rfl, Ln.sameB _ rfl, True.intro⟩ rfl ?_) | (with_reducible refine FOr.pub ?_)))
        all_goals (try (conv => whnf))
        exact FLoop.of (ACalls.mono _) (X := Nat) (fun i => [(1, aInts z e m), (3, .ptr 0 0), (7, AI r'), (8, AI c'), (9, .ptr 1 0), (11, .sl false true 3 1 (fun k _ => AI (l3 (loV s m r' c') (hiV s m r' c') a k))), (12, AI i)]) (fun i => [.box 3 (cSh f s), .box 2 (ofL [AI (loV s m r' c'), AI (hiV s m r' c')])]) (fun i => i ≤ 3) (fun i => 3 - i) 0 ⟨Nat.zero_le _, [0, 2], Cut.A, ⟨Ln.A, Ln.A, Ln.A, Ln.A, Ln.A, Ln.sl _ _ _ _ _ _ _ (fun h => h) (below3 (fun o ho => by obtain rfl : o = 0 := Nat.lt_one_iff.1 ho; rfl) (fun o ho => by obtain rfl : o = 0 := Nat.lt_one_iff.1 ho; rfl) (fun o ho => by obtain rfl : o = 0 := Nat.lt_one_iff.1 ho; rfl)), Ln.A, True.intro⟩⟩ rest.h
    · (repeat' ((try (conv => whnf)); first | (with_reducible first | refine FCond.tA ?_ | refine FCond.fA ?_) | ((with_reducible refine FCond.i (fun hq => ?_) (fun hq => ?_)) <;> (try simp only [zA, zE, zD, zJ, zB, zI, Int.not_le, Int.not_lt] at hq)) | (with_reducible first | refine Fits.in64 (by omega) ?_ | refine FIdx.nat (by omega) ?_ | refine FIdx.int (by omega) ?_ | refine FTo.nat (by omega) ?_ | refine FTo.int (by omega) ?_) | ((with_reducible refine Need.mk ?_ ?_); focus exact needA) | (with_reducible refine FApp.grow ?_) | (refine FCall.pure (cV) ⟨Ln.sameB _ rfl, Ln.sameB _ rfl, True.intro⟩ rfl ?_) | (refine FCall.pure (cP) ⟨Ln.sameB _ rfl, Ln.sameB _ rfl, Ln.sameB _ rfl, Ln.sameB _ rfl, True.intro⟩ rfl ?_) | (refine FCall.pure (cR) ⟨Ln.sameB _ rfl, Ln.sameB _ rfl, Ln.sameB _ rfl, Ln.sameB _ rfl, True.intro⟩ rfl ?_) | (with_reducible refine FOr.pub ?_)))
      all_goals (try (conv => whnf))
      exact FLoop.of (ACalls.mono _) (X := Nat) (fun i => [(1, aInts z e m), (3, .ptr 0 0), (7, AI r'), (8, AI c'), (9, .ptr 1 0), (11, .sl false true 3 1 (fun k _ => AI (l3 (loV s m r' c') (hiV s m r' c') a k))), (12, AI i)]) (fun i => [.box 3 (cSh f s), .box 2 (ofL [AI (loV s m r' c'), AI (hiV s m r' c')])]) (fun i => i ≤ 3) (fun i => 3 - i) 0 ⟨Nat.zero_le _, [0, 2], Cut.A, ⟨Ln.A, Ln.A, Ln.A, Ln.A, Ln.A, Ln.sl _ _ _ _ _ _ _ (fun h => h) (below3 (fun o ho => by obtain rfl : o = 0 := Nat.lt_one_iff.1 ho; rfl) (fun o ho => by obtain rfl : o = 0 := Nat.lt_one_iff.1 ho; rfl) (fun o ho => by obtain rfl : o = 0 := Nat.lt_one_iff.1 ho; rfl)), Ln.A, True.intro⟩⟩ rest.h
  intro i hi
  by_cases hlt : i < 3
  · obtain ⟨v, hv⟩ : ∃ v, l3 (loV s m r' c') (hiV s m r' c') a i = v := ⟨_, rfl⟩
    have hv64 : in64 v := by
      rw [← hv]
      rcases (show i = 0 ∨ i = 1 ∨ i = 2 by omega) with rfl | rfl | rfl
      · show in64 (loV s m r' c'); unfold in64; omega
      · show in64 (hiV s m r' c'); unfold in64; omega
      · exact ha
    have hcov := hco v
    (repeat' ((try (conv => whnf)); first | (with_reducible first | refine FCond.tA ?_ | refine FCond.fA ?_) | ((with_reducible refine FCond.i (fun hq => ?_) (fun hq => ?_)) <;> (try simp only [zA, zE, zD, zJ, zB, zI, Int.not_le, Int.not_lt] at hq)) | (with_reducible first | refine Fits.in64 (by omega) ?_ | refine FIdx.nat (by omega) ?_ | refine FIdx.int (by omega) ?_ | refine FTo.nat (by omega) ?_ | refine FTo.int (by omega) ?_) | ((with_reducible refine Need.mk ?_ ?_); focus exact needA) | (with_reducible refine FApp.grow ?_) | (with_reducible refine FOr.pub ?_)))
    all_goals (try (conv => whnf))
    rw [hv]
    refine FCall.give [] [] (other_ok f s hn (fun _ => hR3) z e m (by omega) r' c' v hv64) rfl rfl True.intro ⟨Ln.A, Ln.A, Ln.A, Ln.A, Ln.A, True.intro⟩ ?_
    rintro _ _ ⟨rfl, ⟨h1, rfl⟩ | ⟨h1, y, hy, hya, rfl⟩⟩
    · have hin : ¬ (loV s m r' c' ≤ v ∧ v ≤ hiV s m r' c') := fun h => h1 (by rw [hcov, show inB v (loV s m r' c') (hiV s m r' c') = true from decide_eq_true h]; rfl)
      have hc3 : checkO s m r' c' v = 3 := by rw [hcov, show inB v (loV s m r' c') (hiV s m r' c') = false from decide_eq_false hin]; rfl
      rw [hc3]
      refine ⟨Nat.zero_le _, .inl rfl, ?_⟩
      (repeat' ((try (conv => whnf)); first | (with_reducible first | refine FCond.tA ?_ | refine FCond.fA ?_) | ((with_reducible refine FCond.i (fun hq => ?_) (fun hq => ?_)) <;> (try simp only [zA, zE, zD, zJ, zB, zI, Int.not_le, Int.not_lt] at hq)) | (with_reducible first | refine Fits.in64 (by omega) ?_ | refine FIdx.nat (by omega) ?_ | refine FIdx.int (by omega) ?_ | refine FTo.nat (by omega) ?_ | refine FTo.int (by omega) ?_) | ((with_reducible refine Need.mk ?_ ?_); focus exact needA) | (with_reducible refine FApp.grow ?_) | (with_reducible refine FOr.pub ?_)))
      all_goals (try (conv => whnf))
      all_goals first | exact ⟨⟨i + 1, hlt, by show 3 - (i + 1) < 3 - i; omega, [0, 1], Cut.A, allA⟩⟩ | (exfalso; omega) | fail
    · have hin : loV s m r' c' ≤ v ∧ v ≤ hiV s m r' c' := by
        by_cases h : loV s m r' c' ≤ v ∧ v ≤ hiV s m r' c'
        · exact h
        · rw [hcov, show inB v (loV s m r' c') (hiV s m r' c') = false from decide_eq_false h] at h1; cases h1
      have cB := agrees_ok f s hs z e m hm false false (fun _ => false) (fun _ => false) (mkL s.R s.C y)
      rw [ag_agree hs hy] at cB
      have hya : y r' c' = v := hya
      refine ⟨Nat.zero_le _, .inl rfl, ?_⟩
      (repeat' ((try (conv => whnf)); first | (with_reducible first | refine FCond.tA ?_ | refine FCond.fA ?_) | ((with_reducible refine FCond.i (fun hq => ?_) (fun hq => ?_)) <;> (try simp only [zA, zE, zD, zJ, zB, zI, Int.not_le, Int.not_lt] at hq)) | (with_reducible first | refine Fits.in64 (by omega) ?_ | refine FIdx.nat (by omega) ?_ | refine FIdx.int (by omega) ?_ | refine FTo.nat (by omega) ?_ | refine FTo.int (by omega) ?_) | ((with_reducible refine Need.mk ?_ ?_); focus exact needA) | (with_reducible refine FApp.grow ?_) | (refine FCall.pure cB ⟨Ln.A, Ln.A, Ln.matL _ _ _, True.intro⟩ rfl ?_) | (with_reducible refine FOr.pub ?_)))
      all_goals (try (conv => whnf))
      all_goals first | exact ⟨⟨i + 1, hlt, by show 3 - (i + 1) < 3 - i; omega, [0, 1], Cut.A, allA⟩⟩ | (exfalso; omega) | fail
  · obtain rfl : i = 3 := by omega
    (repeat' ((try (conv => whnf)); first | (with_reducible first | refine FCond.tA ?_ | refine FCond.fA ?_) | ((with_reducible refine FCond.i (fun hq => ?_) (fun hq => ?_)) <;> (try simp only [zA, zE, zD, zJ, zB, zI, Int.not_le, Int.not_lt] at hq)) | (with_reducible first | refine Fits.in64 (by omega) ?_ | refine FIdx.nat (by omega) ?_ | refine FIdx.int (by omega) ?_ | refine FTo.nat (by omega) ?_ | refine FTo.int (by omega) ?_) | ((with_reducible refine Need.mk ?_ ?_); focus exact needA) | (with_reducible refine FApp.grow ?_) | (refine FCall.pure works_ok True.intro rfl ?_) | (with_reducible refine FOr.pub ?_)))
    all_goals (try (conv => whnf))
    all_goals ((refine ⟨⟨_, [], [], Cut.nil _, Ln.sameB _ rfl, ?_, rfl⟩⟩); rfl)
end Go.Proofs.Ytlffjnmbpoemnaa

namespace Go.Proofs.Ytlffjnmbpoemnaa
open Go.RowKit

theorem add_of_add (a : Addr) (i j : Nat) : (a.add i).add j = a.add (i + j) := by
  unfold Addr.add
  by_cases hi : i = 0 <;> by_cases hj : j = 0 <;> simp [hi, hj, Nat.add_assoc]

/-- w' has all that w has, unchanged. -/
abbrev Ext (w w' : World) : Prop := Below w.heap.size w w'

theorem Ext.refl (w : World) : Ext w w := Below.refl _ w
theorem Ext.trans {a b c : World} (h : Ext a b) (k : Ext b c) : Ext a c := Below.trans h (k.mono h.size)
theorem Ext.of_alloc (w : World) (o : Obj) : Ext w (w.alloc o) := (Below.refl _ w).alloc (Nat.le_refl _) o
theorem Ext.alloc {a w : World} (h : Ext a w) (o : Obj) : Ext a (w.alloc o) := Below.alloc h h.size o
theorem Ext.drew {a w : World} (h : Ext a w) : Ext a w.drew := Below.drew h
theorem Ext.cellOf {w w' : World} (h : Ext w w') {p : Addr} (hp : p.block < w.heap.size) : w'.cell? p = w.cell? p := Below.cell h hp

/-- The n elements (size cells each) of a slice at A are the cells xs. -/
def Sl (w : World) (size : Nat) (A : Option Addr) (n : Nat) (xs : List Value) : Prop :=
  xs.length = n * size ∧ (0 < n → ∃ b off, A = some ⟨b, off, none⟩ ∧ b < w.heap.size ∧ ∀ (j : Nat) (u : Value), xs[j]? = some u → w.cell? ⟨b, off + j, none⟩ = some u)

theorem Sl.ext {w w' : World} {size n : Nat} {A : Option Addr} {xs : List Value} (h : Sl w size A n xs) (e : Ext w w') : Sl w' size A n xs :=
  ⟨h.1, fun hn => by
    obtain ⟨b, off, hA, hb, hc⟩ := h.2 hn
    exact ⟨b, off, hA, Nat.lt_of_lt_of_le hb e.size, fun j u hu => (e.cellOf (p := ⟨b, off + j, none⟩) hb).trans (hc j u hu)⟩⟩
theorem Sl.nil (w : World) (size : Nat) (A : Option Addr) : Sl w size A 0 [] := ⟨by simp, fun h => absurd h (by omega)⟩
theorem own_lt {w : World} {g : Nat} {o : Obj} (hh : w.heap[g]? = some o) : g < w.heap.size := by
  rcases Nat.lt_or_ge g w.heap.size with hlt | hge
  · exact hlt
  · rw [Array.getElem?_eq_none hge] at hh; cases hh
theorem Sl.of_own {w : World} {base size n c : Nat} {e : TypeId} {A : Option Addr} {xs : List Value} (h : w.ownsRow base e size (.slice A n c) n xs) : Sl w size A n xs := by
  refine ⟨h.1, fun hn => ?_⟩
  rcases h.2 with ⟨hv, hx⟩ | ⟨g, cap, cur, hv, hb, hh, _⟩
  · injection hv with hA hn'
    omega
  · injection hv with hA
    subst hA
    refine ⟨g, 0, rfl, own_lt hh, fun j u hu => ?_⟩
    have h1 := h.cells (g := g) rfl j u hu
    unfold Addr.add at h1
    split at h1
    · rename_i h0; subst h0; exact h1
    · simpa using h1
theorem Sl.at {w : World} {size n : Nat} {A : Option Addr} {xs : List Value} (h : Sl w size A n xs) {k : Nat} (hk : k < n) :
    ∃ b off, A = some ⟨b, off, none⟩ ∧ b < w.heap.size ∧ ∀ i, i < size → ∃ u, xs[k * size + i]? = some u ∧ w.cell? ⟨b, off + (k * size + i), none⟩ = some u := by
  obtain ⟨b, off, hA, hb, hc⟩ := h.2 (by omega)
  refine ⟨b, off, hA, hb, fun i hi => ?_⟩
  have hlt : k * size + i < xs.length := by
    rw [h.1]
    have : (k + 1) * size ≤ n * size := Nat.mul_le_mul_right _ hk
    rw [Nat.add_mul] at this
    omega
  exact ⟨xs[k * size + i], List.getElem?_eq_getElem hlt, hc _ _ (List.getElem?_eq_getElem hlt)⟩

/-- A slice of ints. -/
def Ints (w : World) (A : Option Addr) (l : List Int) : Prop :=
  ∀ k, k < l.length → ∃ b off, A = some ⟨b, off, none⟩ ∧ b < w.heap.size ∧ w.cell? ⟨b, off + k, none⟩ = some (.int .i64 (l.getD k 0))
theorem Ints.ext {w w' : World} {A : Option Addr} {l : List Int} (h : Ints w A l) (e : Ext w w') : Ints w' A l := fun k hk => by
  obtain ⟨b, off, hA, hb, hc⟩ := h k hk
  exact ⟨b, off, hA, Nat.lt_of_lt_of_le hb e.size, (e.cellOf (p := ⟨b, off + k, none⟩) hb).trans hc⟩
theorem Ints.of_own {w : World} {base n c : Nat} {e : TypeId} {A : Option Addr} {l : List Int} (h : w.ownsRow base e 1 (.slice A n c) n (l.map (.int .i64))) : n = l.length ∧ Ints w A l := by
  have hl : n = l.length := by have := h.1; simp at this; omega
  refine ⟨hl, fun k hk => ?_⟩
  obtain ⟨b, off, hA, hb, hc⟩ := (Sl.of_own h).at (k := k) (by omega)
  obtain ⟨u, hu, hcu⟩ := hc 0 (by omega)
  refine ⟨b, off, hA, hb, ?_⟩
  simp at hu hcu
  obtain ⟨a, ha, rfl⟩ := hu
  rw [hcu]
  simp [List.getD, ha]

theorem Ints.get {w : World} {A : Option Addr} {l : List Int} (h : Ints w A l) {k : Nat} (hk : k < l.length) :
    ∃ b off x, A = some ⟨b, off, none⟩ ∧ b < w.heap.size ∧ w.cell? ⟨b, off + k, none⟩ = some (.int .i64 x) ∧ Hid (l.getD k 0 = x) := by
  obtain ⟨b, off, h1, h2, h3⟩ := h k hk
  exact ⟨b, off, _, h1, h2, h3, rfl⟩

theorem Ext.box {w wr : World} {cs : Array Value} {T : TypeId} (h : Ext (w.alloc (.cells cs T)) wr) (i : Nat) : wr.cell? ⟨w.heap.size, i, none⟩ = cs[i]? := by
  rw [h.cellOf (by simp), World.cell?_alloc_at _ _ _ _ rfl]
theorem Ext.lt {w wr : World} {o : Obj} (h : Ext (w.alloc o) wr) : w.heap.size < wr.heap.size := by have := h.size; simp at this; omega
theorem Ext.le {w wr : World} (h : Ext w wr) : w.heap.size ≤ wr.heap.size := h.size

theorem Ext.grown {w w' : World} (h : Ext w w') (row : Option Nat) : w.grownBy w' row := ⟨h.os, h.tape, h.output, h.size, fun i hi _ => h.block i hi⟩
/-- Block g is just the cells cs of element type t, none frozen. -/
def Blk (w : World) (g : Nat) (t : TypeId) (cs : Array Value) : Prop := w.heap[g]? = some (.cells cs t (0, 0))
theorem Blk.lt {w : World} {g : Nat} {t : TypeId} {cs : Array Value} (h : Blk w g t cs) : g < w.heap.size := own_lt h
theorem Blk.cell {w : World} {g : Nat} {t : TypeId} {cs : Array Value} (h : Blk w g t cs) (i : Nat) : w.cell? ⟨g, i, none⟩ = cs[i]? := by
  unfold Blk at h; simp [World.cell?, h]
theorem Blk.new (w : World) (t : TypeId) (cs : Array Value) : Blk (w.alloc (.cells cs t)) w.heap.size t cs := heap_alloc_new w _
theorem Blk.ext {w w' : World} {g : Nat} {t : TypeId} {cs : Array Value} (h : Blk w g t cs) (e : Ext w w') : Blk w' g t cs := (e.block g h.lt).trans h
theorem Blk.alloc {w : World} {g : Nat} {t : TypeId} {cs : Array Value} (h : Blk w g t cs) (o : Obj) : Blk (w.alloc o) g t cs := h.ext (Ext.of_alloc _ _)
theorem Blk.set {w : World} {g : Nat} {t : TypeId} {cs : Array Value} (h : Blk w g t cs) (i : Nat) (u : Value) : Blk (w.setCell ⟨g, i, none⟩ u) g t (cs.setIfInBounds i u) := by
  unfold Blk at h ⊢
  simp [World.setCell, Array.getElem?_modify, h]
theorem Blk.grown {w w' : World} {g : Nat} {t : TypeId} {cs : Array Value} {row : Option Nat} (h : Blk w g t cs) (hb : w.grownBy w' row) (hg : some g ≠ row) : Blk w' g t cs := (hb.block g h.lt hg).trans h
theorem Blk.ne {w : World} {g g' : Nat} {t t' : TypeId} {cs cs' : Array Value} (h : Blk w g t cs) (h' : Blk w g' t' cs') (hne : t ≠ t') : g ≠ g' := by
  rintro rfl
  unfold Blk at h h'
  rw [h] at h'
  injection h' with h'
  injection h' with _ ht
  exact hne ht
end Go.Proofs.Ytlffjnmbpoemnaa

namespace Go.Proofs.Ytlffjnmbpoemnaa
open Go.RowKit Go.ChangeShapes Go.WideShapes Go.Deep

section
variable {H : Type} {enc : TypeId × Value → H} {P : Program} {w : World} {base : Nat} {held : Bool}

/-- A slice's elements, cell by cell. -/
theorem rd_slice {t e : TypeId} {sz n : Nat} {v : Value} {y : DataW H × List MemPlace} (ht : P.underlying t = some (.slice e)) (hc : P.cellsOf e = sz) (hsz : 0 < sz) (h : DataW.trod enc P w base (fun _ => true) held n t [v] = some y) :
    ∃ A len cap, v = .slice A len cap ∧ len ≤ 9223372036854775807 ∧ (A = none → len = 0) ∧ ∀ i, i < len → ∃ b off m cs z, A = some ⟨b, off, none⟩ ∧ b < w.heap.size ∧ cs.length = sz ∧ (∀ j, j < sz → w.cell? ⟨b, off + i * sz + j, none⟩ = cs[j]?) ∧
      DataW.trod enc P w base (fun _ => true) held m e cs = some z := by
  rcases open_slice ht h with ⟨h0, _⟩ | ⟨a, len, cap, m, n', D, Pl, h0, hb, hl, hm, hmm, _, hx⟩
  · injection h0 with h0
    exact ⟨none, 0, 0, h0, by omega, fun _ => rfl, fun i hi => by omega⟩
  · injection h0 with h0
    have hmx : maxLen = 9223372036854775807 := rfl
    refine ⟨some a, len, cap, h0, by omega, (fun h => by cases h), fun i hi => ?_⟩
    simp only [if_true] at hmm
    obtain ⟨cs, h1, h2⟩ := hx i (by omega)
    obtain ⟨_, hlen, hcell⟩ := World.cells?_some h1
    rw [hc] at hlen hcell
    have hc0 := hcell 0 hsz
    rw [List.getElem?_eq_getElem (by omega)] at hc0
    obtain ⟨b, off, spot⟩ := a
    have hadd : ∀ (x y : Nat), ((⟨b, off, spot⟩ : Addr).add x).add y = (⟨b, off, spot⟩ : Addr).add (x + y) := fun x y => add_of_add _ _ _
    have hsp : spot = none := by
      obtain ⟨cs0, g1, _⟩ := hx 0 (by omega)
      obtain ⟨_, glen, gcell⟩ := World.cells?_some g1
      rw [hc] at glen gcell
      have g0 := gcell 0 hsz
      rw [List.getElem?_eq_getElem (by omega)] at g0
      have := World.cell?_spot g0
      simpa [hadd, Addr.add] using this
    subst hsp
    have hform : ∀ x, (⟨b, off, none⟩ : Addr).add x = ⟨b, off + x, none⟩ := fun x => by
      unfold Addr.add
      by_cases hx0 : x = 0 <;> simp [hx0]
    refine ⟨b, off, n', cs, _, rfl, ?_, hlen, fun j hj => ?_, h2⟩
    · have := World.block_lt_of_cell? w _ hc0
      rw [hadd, hform] at this
      exact this
    · have := hcell j hj
      rw [hadd, hform] at this
      rw [← this, Nat.add_assoc]

theorem rd_int {t : TypeId} {n : Nat} {cs : List Value} {y : DataW H × List MemPlace} (ht : P.underlying t = some (.int .i64)) (h : DataW.trod enc P w base (fun _ => true) held n t cs = some y) : ∃ i : Int, cs = [.int .i64 i] ∧ -9223372036854775808 ≤ i ∧ i ≤ 9223372036854775807 := by
  obtain ⟨i, h1, _, h3⟩ := DataW.trod_int ht h
  refine ⟨i, h1, ?_⟩
  simpa [Lit.wf, IntKind.min, IntKind.max, IntKind.signed, IntKind.bits] using h3

def I64 (x : Int) : Prop := -9223372036854775808 ≤ x ∧ x ≤ 9223372036854775807

/-- A world that only has more. -/
theorem since_of_ext {W W' : World} (h : Ext W W') : W.Since W.heap.size W' := ⟨h.os, h.tape, h.output, h.size, fun k hk => h.block k hk⟩
/-- An argument reads as before in a world that only has more. -/
theorem stays {t : TypeId} (hl : laidOutB P = true) (hr : P.readableRec t = true) (hrow : t < P.types.size) {W W' : World} {sp' : Nat → Bool} {v : Value} {d : DataW H} {ps : List MemPlace}
    (h : DataW.Trod enc P W 0 (fun _ => true) true t v d ps) (hE : Ext W W') (hlt : ∀ p ∈ ps, p.block < W.heap.size) (hs : ∀ p ∈ ps, sp' p.block = true) : DataW.Trod enc P W' 0 sp' true t v d ps :=
  WideElems.Trod_stays hl hr hrow h (fun p hp => (since_of_ext hE).sameAt (hlt p hp)) hs
end
end Go.Proofs.Ytlffjnmbpoemnaa

namespace Go.Proofs.Ytlffjnmbpoemnaa
open Go.RowKit Go.ChangeShapes Go.WideShapes Go.Deep Go.ChangeAt

section
variable {H : Type} {enc : TypeId × Value → H} {P : Program}
theorem staysAll (hl : laidOutB P = true) {W W' : World} (hE : Ext W W') {sp' : Nat → Bool} : ∀ {ts : List TypeId} {vs : List Value} {ds : List (DataW H)} {ps : List MemPlace}, (∀ t ∈ ts, P.readableRec t = true ∧ t < P.types.size) →
    DataW.TrodAll enc P W 0 (fun _ => true) true ts vs ds ps → (∀ p ∈ ps, p.block < W.heap.size) → (∀ p ∈ ps, sp' p.block = true) → DataW.TrodAll enc P W' 0 sp' true ts vs ds ps := by
  intro ts
  induction ts with
  | nil =>
    intro vs ds ps _ h _ _
    obtain ⟨rfl, rfl, rfl⟩ := trodAll_nil h
    exact trodAll_mk0
  | cons t ts ih =>
    intro vs ds ps ht h hlt hs
    obtain ⟨v, vs', d, ds', p, q, rfl, rfl, rfl, h0, hr⟩ := trodAll_cons h
    exact trodAll_cons_mk (stays hl (ht t List.mem_cons_self).1 (ht t List.mem_cons_self).2 h0 hE (fun x hx => hlt x (List.mem_append_left _ hx)) (fun x hx => hs x (List.mem_append_left _ hx)))
      (ih (fun t' h' => ht t' (List.mem_cons_of_mem _ h')) hr (fun x hx => hlt x (List.mem_append_right _ hx)) (fun x hx => hs x (List.mem_append_right _ hx)))

theorem trodLen {w : World} {base : Nat} {spare : Nat → Bool} {held : Bool} : ∀ {ts : List TypeId} {vs : List Value} {ds : List (DataW H)} {ps : List MemPlace}, DataW.TrodAll enc P w base spare held ts vs ds ps → ds.length = ts.length := by
  intro ts
  induction ts with
  | nil =>
    intro vs ds ps h
    obtain ⟨rfl, rfl, rfl⟩ := trodAll_nil h
    rfl
  | cons t ts ih =>
    intro vs ds ps h
    obtain ⟨v, vs', d, ds', p, q, rfl, rfl, rfl, h0, hr⟩ := trodAll_cons h
    simp [ih hr]

theorem law_post {f : Func} {s : ChangeSpec} {W W' : World} {args : Array Value} {ds gs : List (DataW H)} {before : List MemPlace} {tb : TypeId} (hl : laidOutB P = true) (hts : ∀ t ∈ f.params.toList, P.readableRec t = true ∧ t < P.types.size)
    (hv : s.vars = []) (hb : P.underlying tb = some .bool) (hrt : f.resultTypes = #[tb]) (hspec : ∀ l : List (DataW H), l.length = f.params.toList.length → s.fn H (l ++ []) = { results := [.lit (.bool true)], args := l, vars := [] })
    (hW : DataW.Whole enc P f.params.toList s.vars false W args.toList ds gs before) (hE : Ext W W') : s.post enc P f false true false false W args (.bool true) W' := by
  have hW' := hW
  obtain ⟨p, q, hA, hV, rfl, _, _⟩ := hW
  rw [hv] at hV
  obtain ⟨rfl, rfl⟩ := trodVars_none hV
  have hlt : ∀ x ∈ p, x.block < W.heap.size := fun x hx => hW'.lt x (by simp [hx])
  have hlen := trodLen hA
  have hs := hspec ds hlen
  refine ⟨ds, [], _, [], p, [], hW', ?_, ?_, ?_, (since_of_ext hE).frame _, fun h => by cases h⟩
  · rw [hs, hrt]
    exact trodAll_cons_mk (shut_bool hb _) trodAll_mk0
  · rw [hs]
    exact staysAll hl hE hts hA hlt (fun x hx => by simpa using hlt x hx)
  · rw [hs, hv]
    rfl
end
end Go.Proofs.Ytlffjnmbpoemnaa
