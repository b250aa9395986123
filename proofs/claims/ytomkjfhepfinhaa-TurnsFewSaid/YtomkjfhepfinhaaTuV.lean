/- Turns: the laws' helpers: sameInts, Far, valid, Example, works, keeps. -/
import Derived.Test.YtomkjfhepfinhaaTuU
set_option linter.unusedSimpArgs false
set_option linter.unusedVariables false
namespace Go.Proofs.Ytomkjfhepfinhaa
open Go.RowKit

theorem same_step {a b : List Int} {i : Nat} (hl : a.length = b.length) (hi : i < a.length) (h : a.take i = b.take i) (e : a.getD i 0 = b.getD i 0) : a.take (i + 1) = b.take (i + 1) := by
  have hb : i < b.length := by omega
  rw [List.take_add_one, List.take_add_one, h]
  simp only [List.getD, List.getElem?_eq_getElem hi, List.getElem?_eq_getElem hb, Option.getD_some] at e
  rw [List.getElem?_eq_getElem hi, List.getElem?_eq_getElem hb, e]
set_option maxHeartbeats 4000000 in
set_option maxRecDepth 100000 in
theorem sameInts_ok (z e z2 e2 : Bool) (a b : List Int) (h1 : a.length ≤ 1000000) : ACall Try.prog 33 [aInts z e a, aInts z2 e2 b] [] (fun r h => r = .bool (decide (a = b)) ∧ h = []) := by
  (refine fcall_of mixed Try.func33 rfl (by decide) (hs := {}) ?k (ac := ?ac) ?c (rs := ?rs) ?r ?l ?H; (case k => kernel_rfl); (case c => (conv => (lhs; cbv))); (case r => (conv => (lhs; cbv))); (case l => exact Nat.le_of_ble_eq_true rfl))
  (repeat' ((try (conv => whnf)); first | (with_reducible refine FCond.t (by first | assumption | (rw [decide_eq_true_eq]; omega) | (simp only [zA, zB, zC, zD, zE, zF, zG, ne_eq, *]; done) | (simp only [zA, zB, zC, zD, zE, zF, zG, ne_eq]; omega) | decide) ?_) | (with_reducible refine FCond.f (by first | assumption | (rw [decide_eq_false_iff_not]; omega) | (simp only [zE, zH, zI, zJ, zA, *]; done) | (simp only [zE, zH, zI, zJ, zA]; omega) | decide) ?_) | ((with_reducible refine FCond.i (fun hq => ?_) (fun hq => ?_)) <;> (try simp only [zA, zE, zD, zJ, zB, zI, Int.not_le, Int.not_lt] at hq)) | (with_reducible refine Fits.in64 (by omega) ?_) | (with_reducible refine FIdx.nat (by omega) ?_) | (with_reducible refine FIdx.int (by omega) ?_) | (with_reducible refine FTo.nat (by omega) ?_) | (with_reducible refine FTo.int (by omega) ?_) | ((with_reducible refine Need.mk ?_ ?_); focus (first | omega | (unfold maxLen; omega) | (simp only [maxLen, List.length_cons, List.length_map, List.length_range, true_or, or_true, true_and, and_true] <;> omega) | ((conv => whnf); exact ⟨rfl⟩) | ((conv => whnf); (repeat ((first | with_reducible refine FCond.t (by first | rfl | first | assumption | (rw [decide_eq_true_eq]; omega) | (simp only [zA, zB, zC, zD, zE, zF, zG, ne_eq, *]; done) | (simp only [zA, zB, zC, zD, zE, zF, zG, ne_eq]; omega) | decide) ?_ | with_reducible refine FCond.f (by first | rfl | first | assumption | (rw [decide_eq_false_iff_not]; omega) | (simp only [zE, zH, zI, zJ, zA, *]; done) | (simp only [zE, zH, zI, zJ, zA]; omega) | decide) ?_ | with_reducible refine Need.mk (by omega) ?_ | with_reducible refine FIdx.nat (by omega) ?_ | with_reducible refine FIdx.int (by omega) ?_); (conv => whnf))); exact ⟨rfl⟩))) | (with_reducible refine FApp.grow ?_)))
  all_goals (try (conv => whnf))
  · (refine ⟨⟨_, [], [], Cut.nil _, Ln.sameB _ rfl, ?_, rfl⟩⟩)
    rw [decide_eq_false fun h => hq (by rw [h])]
  · have hl : a.length = b.length := by omega
    refine FLoop.of (ACalls.mono _) (X := Nat) (fun i => [(0, aInts z e a), (1, aInts z2 e2 b), (5, AI i)]) (fun _ => []) (fun i => i ≤ a.length ∧ a.take i = b.take i) (fun i => a.length - i) 0 ⟨⟨by omega, rfl⟩, [], Cut.nil _, by (repeat (first | exact True.intro | exact Ln.sameB _ rfl | exact Ln.sameB _ (by assumption) | exact Ln.slz _ _ _ _ _ _ _ (by decide) | exact Ln.bot _ | exact Ln.own _ _ _ rfl | exact Ln.ptr _ _ _ rfl | exact Ln.rp _ _ _ _ _ rfl | (refine Ln.int ?_; first | rfl | omega) | (refine Ln.ownE rfl ?_; omega) | (refine Ln.bool ?_; first | assumption | (simp; done)) | exact Ln.pub _ _ _ _ _ _ (goneB rfl) rfl (by omega) (fun _ _ _ _ => rfl) | refine Ln.fnN ?_ | refine Ln.aggN ?_ | refine Ln.tupN ?_ | refine ⟨?_, ?_⟩))⟩ ?_
    rintro i ⟨hi, hL⟩
    by_cases hlt : i < a.length
    · (repeat' ((try (conv => whnf)); first | (with_reducible refine FCond.t (by first | assumption | (rw [decide_eq_true_eq]; omega) | (simp only [zA, zB, zC, zD, zE, zF, zG, ne_eq, *]; done) | (simp only [zA, zB, zC, zD, zE, zF, zG, ne_eq]; omega) | decide) ?_) | (with_reducible refine FCond.f (by first | assumption | (rw [decide_eq_false_iff_not]; omega) | (simp only [zE, zH, zI, zJ, zA, *]; done) | (simp only [zE, zH, zI, zJ, zA]; omega) | decide) ?_) | ((with_reducible refine FCond.i (fun hq => ?_) (fun hq => ?_)) <;> (try simp only [zA, zE, zD, zJ, zB, zI, Int.not_le, Int.not_lt] at hq)) | (with_reducible refine Fits.in64 (by omega) ?_) | (with_reducible refine FIdx.nat (by omega) ?_) | (with_reducible refine FIdx.int (by omega) ?_) | (with_reducible refine FTo.nat (by omega) ?_) | (with_reducible refine FTo.int (by omega) ?_) | ((with_reducible refine Need.mk ?_ ?_); focus (first | omega | (unfold maxLen; omega) | (simp only [maxLen, List.length_cons, List.length_map, List.length_range, true_or, or_true, true_and, and_true] <;> omega) | ((conv => whnf); exact ⟨rfl⟩) | ((conv => whnf); (repeat ((first | with_reducible refine FCond.t (by first | rfl | first | assumption | (rw [decide_eq_true_eq]; omega) | (simp only [zA, zB, zC, zD, zE, zF, zG, ne_eq, *]; done) | (simp only [zA, zB, zC, zD, zE, zF, zG, ne_eq]; omega) | decide) ?_ | with_reducible refine FCond.f (by first | rfl | first | assumption | (rw [decide_eq_false_iff_not]; omega) | (simp only [zE, zH, zI, zJ, zA, *]; done) | (simp only [zE, zH, zI, zJ, zA]; omega) | decide) ?_ | with_reducible refine Need.mk (by omega) ?_ | with_reducible refine FIdx.nat (by omega) ?_ | with_reducible refine FIdx.int (by omega) ?_); (conv => whnf))); exact ⟨rfl⟩))) | (with_reducible refine FApp.grow ?_)))
      all_goals (try (conv => whnf))
      · (refine ⟨⟨_, [], [], Cut.nil _, Ln.sameB _ rfl, ?_, rfl⟩⟩)
        rw [decide_eq_false fun h => hq (by rw [h])]
      · (refine ⟨⟨(i + 1), ?inv, ?mu, [], Cut.nil _, by (repeat (first | exact True.intro | exact Ln.sameB _ rfl | exact Ln.sameB _ (by assumption) | exact Ln.slz _ _ _ _ _ _ _ (by decide) | exact Ln.bot _ | exact Ln.own _ _ _ rfl | exact Ln.ptr _ _ _ rfl | exact Ln.rp _ _ _ _ _ rfl | (refine Ln.int ?_; first | rfl | omega) | (refine Ln.ownE rfl ?_; omega) | (refine Ln.bool ?_; first | assumption | (simp; done)) | exact Ln.pub _ _ _ _ _ _ (goneB rfl) rfl (by omega) (fun _ _ _ _ => rfl) | refine Ln.fnN ?_ | refine Ln.aggN ?_ | refine Ln.tupN ?_ | refine ⟨?_, ?_⟩))⟩⟩)
        case inv => exact ⟨by omega, same_step hl hlt hL hq⟩
        case mu => show _ < _; omega
    · (repeat' ((try (conv => whnf)); first | (with_reducible refine FCond.t (by first | assumption | (rw [decide_eq_true_eq]; omega) | (simp only [zA, zB, zC, zD, zE, zF, zG, ne_eq, *]; done) | (simp only [zA, zB, zC, zD, zE, zF, zG, ne_eq]; omega) | decide) ?_) | (with_reducible refine FCond.f (by first | assumption | (rw [decide_eq_false_iff_not]; omega) | (simp only [zE, zH, zI, zJ, zA, *]; done) | (simp only [zE, zH, zI, zJ, zA]; omega) | decide) ?_) | ((with_reducible refine FCond.i (fun hq => ?_) (fun hq => ?_)) <;> (try simp only [zA, zE, zD, zJ, zB, zI, Int.not_le, Int.not_lt] at hq)) | (with_reducible refine Fits.in64 (by omega) ?_) | (with_reducible refine FIdx.nat (by omega) ?_) | (with_reducible refine FIdx.int (by omega) ?_) | (with_reducible refine FTo.nat (by omega) ?_) | (with_reducible refine FTo.int (by omega) ?_) | ((with_reducible refine Need.mk ?_ ?_); focus (first | omega | (unfold maxLen; omega) | (simp only [maxLen, List.length_cons, List.length_map, List.length_range, true_or, or_true, true_and, and_true] <;> omega) | ((conv => whnf); exact ⟨rfl⟩) | ((conv => whnf); (repeat ((first | with_reducible refine FCond.t (by first | rfl | first | assumption | (rw [decide_eq_true_eq]; omega) | (simp only [zA, zB, zC, zD, zE, zF, zG, ne_eq, *]; done) | (simp only [zA, zB, zC, zD, zE, zF, zG, ne_eq]; omega) | decide) ?_ | with_reducible refine FCond.f (by first | rfl | first | assumption | (rw [decide_eq_false_iff_not]; omega) | (simp only [zE, zH, zI, zJ, zA, *]; done) | (simp only [zE, zH, zI, zJ, zA]; omega) | decide) ?_ | with_reducible refine Need.mk (by omega) ?_ | with_reducible refine FIdx.nat (by omega) ?_ | with_reducible refine FIdx.int (by omega) ?_); (conv => whnf))); exact ⟨rfl⟩))) | (with_reducible refine FApp.grow ?_)))
      (try (conv => whnf))
      (refine ⟨⟨_, [], [], Cut.nil _, Ln.sameB _ rfl, ?_, rfl⟩⟩)
      rw [List.take_of_length_le (by omega), List.take_of_length_le (by omega)] at hL
      rw [decide_eq_true hL]
def farP (t : Task) : Bool := decide (20 < t.hands.length ∨ 20 < t.parts.length ∨ (t.check = 0 ∧ 6 < t.parts.length))
def validP (t : Task) : Bool := decide (t.hands.length ≤ 20 ∧ t.parts.length ≤ 6 ∧ t.ok = true)
theorem check_iff {t : Task} : t.check = 0 ↔ t.ok = true := by
  constructor
  · intro h
    by_cases e : t.ok = true
    · exact e
    · rw [check_40 e] at h; cases h
  · exact check_0
set_option maxHeartbeats 4000000 in
set_option maxRecDepth 100000 in
theorem far_ok (f : TFl) (t : Task) : ACall Try.prog 27 [aTask f t] [] (fun r h => r = .bool (farP t) ∧ h = []) := by
  (refine fcall_of mixed Try.func27 rfl (by decide) (hs := {}) ?k (ac := ?ac) ?c (rs := ?rs) ?r ?l ?H; (case k => kernel_rfl); (case c => (conv => (lhs; cbv))); (case r => (conv => (lhs; cbv))); (case l => exact Nat.le_of_ble_eq_true rfl))
  (repeat' ((try (conv => whnf)); first | (with_reducible refine FCond.t (by first | assumption | (rw [decide_eq_true_eq]; omega) | (simp only [zA, zB, zC, zD, zE, zF, zG, ne_eq, *]; done) | (simp only [zA, zB, zC, zD, zE, zF, zG, ne_eq]; omega) | decide) ?_) | (with_reducible refine FCond.f (by first | assumption | (rw [decide_eq_false_iff_not]; omega) | (simp only [zE, zH, zI, zJ, zA, *]; done) | (simp only [zE, zH, zI, zJ, zA]; omega) | decide) ?_) | ((with_reducible refine FCond.i (fun hq => ?_) (fun hq => ?_)) <;> (try simp only [zA, zE, zD, zJ, zB, zI, Int.not_le, Int.not_lt] at hq)) | (with_reducible refine Fits.in64 (by omega) ?_) | (with_reducible refine FIdx.nat (by omega) ?_) | (with_reducible refine FIdx.int (by omega) ?_) | (with_reducible refine FTo.nat (by omega) ?_) | (with_reducible refine FTo.int (by omega) ?_) | ((with_reducible refine Need.mk ?_ ?_); focus (first | omega | (unfold maxLen; omega) | (simp only [maxLen, List.length_cons, List.length_map, List.length_range, true_or, or_true, true_and, and_true] <;> omega) | ((conv => whnf); exact ⟨rfl⟩) | ((conv => whnf); (repeat ((first | with_reducible refine FCond.t (by first | rfl | first | assumption | (rw [decide_eq_true_eq]; omega) | (simp only [zA, zB, zC, zD, zE, zF, zG, ne_eq, *]; done) | (simp only [zA, zB, zC, zD, zE, zF, zG, ne_eq]; omega) | decide) ?_ | with_reducible refine FCond.f (by first | rfl | first | assumption | (rw [decide_eq_false_iff_not]; omega) | (simp only [zE, zH, zI, zJ, zA, *]; done) | (simp only [zE, zH, zI, zJ, zA]; omega) | decide) ?_ | with_reducible refine Need.mk (by omega) ?_ | with_reducible refine FIdx.nat (by omega) ?_ | with_reducible refine FIdx.int (by omega) ?_); (conv => whnf))); exact ⟨rfl⟩))) | (with_reducible refine FApp.grow ?_) | (refine FCall.pure ((refCheck_ok _ _ (by omega) (by omega))) ⟨Ln.sameB _ rfl, True.intro⟩ rfl ?_)))
  all_goals (try (conv => whnf))
  all_goals
    (refine ⟨⟨_, [], [], Cut.nil _, Ln.sameB _ rfl, ?_, rfl⟩⟩)
    refine congrArg AV.bool ?_
    unfold farP
    rw [Bool.eq_iff_iff]
    simp only [decide_eq_true_eq, Bool.false_eq_true, true_iff, false_iff]
    omega
set_option maxHeartbeats 4000000 in
set_option maxRecDepth 100000 in
theorem valid_ok (f : TFl) (t : Task) : ACall Try.prog 11 [aTask f t] [] (fun r h => r = .bool (validP t) ∧ h = []) := by
  have hF : farP t = false → t.hands.length ≤ 20 ∧ t.parts.length ≤ 20 ∧ (t.ok = true → t.parts.length ≤ 6) := fun h => by
    unfold farP at h
    simp only [decide_eq_false_iff_not] at h
    refine ⟨by omega, by omega, fun hk => ?_⟩
    by_cases e : 6 < t.parts.length
    · exact absurd (.inr (.inr ⟨check_0 hk, e⟩)) h
    · omega
  have hV : farP t = true → validP t = false := fun h => by
    unfold farP at h
    unfold validP
    simp only [decide_eq_true_eq, decide_eq_false_iff_not] at h ⊢
    rintro ⟨h1, h2, h3⟩
    have := check_0 h3
    omega
  (refine fcall_of mixed Try.func11 rfl (by decide) (hs := {}) ?k (ac := ?ac) ?c (rs := ?rs) ?r ?l ?H; (case k => kernel_rfl); (case c => (conv => (lhs; cbv))); (case r => (conv => (lhs; cbv))); (case l => exact Nat.le_of_ble_eq_true rfl))
  cases hf : farP t
  · obtain ⟨f1, f2, f3⟩ := hF hf
    have hcon := far_ok f t
    rw [hf] at hcon
    (repeat' ((try (conv => whnf)); first | (with_reducible refine FCond.t (by first | assumption | (rw [decide_eq_true_eq]; omega) | (simp only [zA, zB, zC, zD, zE, zF, zG, ne_eq, *]; done) | (simp only [zA, zB, zC, zD, zE, zF, zG, ne_eq]; omega) | decide) ?_) | (with_reducible refine FCond.f (by first | assumption | (rw [decide_eq_false_iff_not]; omega) | (simp only [zE, zH, zI, zJ, zA, *]; done) | (simp only [zE, zH, zI, zJ, zA]; omega) | decide) ?_) | ((with_reducible refine FCond.i (fun hq => ?_) (fun hq => ?_)) <;> (try simp only [zA, zE, zD, zJ, zB, zI, Int.not_le, Int.not_lt] at hq)) | (with_reducible refine Fits.in64 (by omega) ?_) | (with_reducible refine FIdx.nat (by omega) ?_) | (with_reducible refine FIdx.int (by omega) ?_) | (with_reducible refine FTo.nat (by omega) ?_) | (with_reducible refine FTo.int (by omega) ?_) | ((with_reducible refine Need.mk ?_ ?_); focus (first | omega | (unfold maxLen; omega) | (simp only [maxLen, List.length_cons, List.length_map, List.length_range, true_or, or_true, true_and, and_true] <;> omega) | ((conv => whnf); exact ⟨rfl⟩) | ((conv => whnf); (repeat ((first | with_reducible refine FCond.t (by first | rfl | first | assumption | (rw [decide_eq_true_eq]; omega) | (simp only [zA, zB, zC, zD, zE, zF, zG, ne_eq, *]; done) | (simp only [zA, zB, zC, zD, zE, zF, zG, ne_eq]; omega) | decide) ?_ | with_reducible refine FCond.f (by first | rfl | first | assumption | (rw [decide_eq_false_iff_not]; omega) | (simp only [zE, zH, zI, zJ, zA, *]; done) | (simp only [zE, zH, zI, zJ, zA]; omega) | decide) ?_ | with_reducible refine Need.mk (by omega) ?_ | with_reducible refine FIdx.nat (by omega) ?_ | with_reducible refine FIdx.int (by omega) ?_); (conv => whnf))); exact ⟨rfl⟩))) | (with_reducible refine FApp.grow ?_) | (refine FCall.pure (hcon) ⟨Ln.sameB _ rfl, True.intro⟩ rfl ?_) | (refine FCall.pure ((refCheck_ok _ _ (by omega) (by omega))) ⟨Ln.sameB _ rfl, True.intro⟩ rfl ?_)))
    all_goals (try (conv => whnf))
    all_goals
      (refine ⟨⟨_, [], [], Cut.nil _, Ln.sameB _ rfl, ?_, rfl⟩⟩)
      refine congrArg AV.bool ?_
      unfold validP
      rw [Bool.eq_iff_iff]
      simp only [decide_eq_true_eq, check_iff]
      exact ⟨fun h => ⟨f1, f3 h, h⟩, fun h => h.2.2⟩
  · have hcon := far_ok f t
    rw [hf] at hcon
    (repeat' ((try (conv => whnf)); first | (with_reducible refine FCond.t (by first | assumption | (rw [decide_eq_true_eq]; omega) | (simp only [zA, zB, zC, zD, zE, zF, zG, ne_eq, *]; done) | (simp only [zA, zB, zC, zD, zE, zF, zG, ne_eq]; omega) | decide) ?_) | (with_reducible refine FCond.f (by first | assumption | (rw [decide_eq_false_iff_not]; omega) | (simp only [zE, zH, zI, zJ, zA, *]; done) | (simp only [zE, zH, zI, zJ, zA]; omega) | decide) ?_) | ((with_reducible refine FCond.i (fun hq => ?_) (fun hq => ?_)) <;> (try simp only [zA, zE, zD, zJ, zB, zI, Int.not_le, Int.not_lt] at hq)) | (with_reducible refine Fits.in64 (by omega) ?_) | (with_reducible refine FIdx.nat (by omega) ?_) | (with_reducible refine FIdx.int (by omega) ?_) | (with_reducible refine FTo.nat (by omega) ?_) | (with_reducible refine FTo.int (by omega) ?_) | ((with_reducible refine Need.mk ?_ ?_); focus (first | omega | (unfold maxLen; omega) | (simp only [maxLen, List.length_cons, List.length_map, List.length_range, true_or, or_true, true_and, and_true] <;> omega) | ((conv => whnf); exact ⟨rfl⟩) | ((conv => whnf); (repeat ((first | with_reducible refine FCond.t (by first | rfl | first | assumption | (rw [decide_eq_true_eq]; omega) | (simp only [zA, zB, zC, zD, zE, zF, zG, ne_eq, *]; done) | (simp only [zA, zB, zC, zD, zE, zF, zG, ne_eq]; omega) | decide) ?_ | with_reducible refine FCond.f (by first | rfl | first | assumption | (rw [decide_eq_false_iff_not]; omega) | (simp only [zE, zH, zI, zJ, zA, *]; done) | (simp only [zE, zH, zI, zJ, zA]; omega) | decide) ?_ | with_reducible refine Need.mk (by omega) ?_ | with_reducible refine FIdx.nat (by omega) ?_ | with_reducible refine FIdx.int (by omega) ?_); (conv => whnf))); exact ⟨rfl⟩))) | (with_reducible refine FApp.grow ?_) | (refine FCall.pure (hcon) ⟨Ln.sameB _ rfl, True.intro⟩ rfl ?_)))
    all_goals (try (conv => whnf))
    all_goals
      (refine ⟨⟨_, [], [], Cut.nil _, Ln.sameB _ rfl, ?_, rfl⟩⟩)
      rw [hV hf]
end Go.Proofs.Ytomkjfhepfinhaa
