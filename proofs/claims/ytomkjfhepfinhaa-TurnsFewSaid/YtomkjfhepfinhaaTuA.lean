/- Turns: small functions. -/
import Derived.Test.YtomkjfhepfinhaaProg
import Derived.Test.YtomkjfhepfinhaaAbs17
import Derived.KernelRfl
set_option linter.unusedSimpArgs false
set_option linter.unusedVariables false
namespace Go.Proofs.Ytomkjfhepfinhaa
open Go.RowKit

theorem mixed : Try.prog.follows .mixedOrders = true := by kernel_rfl
abbrev AI (n : Int) : AV := .int .i64 n
abbrev AB1 (b : Bool) : AV := .bool b
/-- A span, by value. -/
abbrev aSpan (l h : Int) : AV := .agg 2 (ofL [AI l, AI h])

set_option maxHeartbeats 4000000 in
set_option maxRecDepth 100000 in
theorem within_ok (n lo hi : Int) : ACall Try.prog 42 [AI n, AI lo, AI hi] [] (fun r h => r = .bool (decide (lo ≤ n ∧ n ≤ hi)) ∧ h = []) := by
  (refine fcall_of mixed Try.func42 rfl (by decide) (hs := {}) ?k (ac := ?ac) ?c (rs := ?rs) ?r ?l ?H; (case k => kernel_rfl); (case c => (conv => (lhs; cbv))); (case r => (conv => (lhs; cbv))); (case l => exact Nat.le_of_ble_eq_true rfl))
  (repeat' ((try (conv => whnf)); first | (with_reducible refine FCond.t (by first | assumption | (rw [decide_eq_true_eq]; omega) | (simp only [zA, zB, zC, zD, zE, zF, zG, ne_eq, *]; done) | (simp only [zA, zB, zC, zD, zE, zF, zG, ne_eq]; omega) | decide) ?_) | (with_reducible refine FCond.f (by first | assumption | (rw [decide_eq_false_iff_not]; omega) | (simp only [zE, zH, zI, zJ, zA, *]; done) | (simp only [zE, zH, zI, zJ, zA]; omega) | decide) ?_) | ((with_reducible refine FCond.i (fun hq => ?_) (fun hq => ?_)) <;> (try simp only [zA, zE, zD, zJ, zB, zI, Int.not_le, Int.not_lt] at hq)) | (with_reducible refine Fits.in64 (by omega) ?_) | (with_reducible refine FIdx.nat (by omega) ?_) | (with_reducible refine FIdx.int (by omega) ?_) | (with_reducible refine FTo.nat (by omega) ?_) | (with_reducible refine FTo.int (by omega) ?_) | ((with_reducible refine Need.mk ?_ ?_); focus (first | omega | (unfold maxLen; omega) | (simp only [maxLen, List.length_cons, List.length_map, List.length_range, true_or, or_true, true_and, and_true] <;> omega) | ((conv => whnf); exact ⟨rfl⟩) | ((conv => whnf); (repeat ((first | with_reducible refine FCond.t (by first | rfl | first | assumption | (rw [decide_eq_true_eq]; omega) | (simp only [zA, zB, zC, zD, zE, zF, zG, ne_eq, *]; done) | (simp only [zA, zB, zC, zD, zE, zF, zG, ne_eq]; omega) | decide) ?_ | with_reducible refine FCond.f (by first | rfl | first | assumption | (rw [decide_eq_false_iff_not]; omega) | (simp only [zE, zH, zI, zJ, zA, *]; done) | (simp only [zE, zH, zI, zJ, zA]; omega) | decide) ?_ | with_reducible refine Need.mk (by omega) ?_ | with_reducible refine FIdx.nat (by omega) ?_ | with_reducible refine FIdx.int (by omega) ?_); (conv => whnf))); exact ⟨rfl⟩))) | (with_reducible refine FApp.grow ?_)))
  all_goals ((refine ⟨⟨_, [], [], Cut.nil _, Ln.sameB _ rfl, ?_, rfl⟩⟩); (refine congrArg AV.bool ?_; rw [Bool.eq_iff_iff]; simp only [decide_eq_true_eq, Bool.false_eq_true, Bool.and_eq_true, Bool.or_eq_true, false_iff, true_iff, iff_true, iff_false]; omega))
set_option maxHeartbeats 4000000 in
set_option maxRecDepth 100000 in
theorem isSpan_ok (l h most : Int) : ACall Try.prog 47 [aSpan l h, AI most] [] (fun r h' => r = .bool (decide (0 ≤ l ∧ l ≤ h ∧ h ≤ most)) ∧ h' = []) := by
  (refine fcall_of mixed Try.func47 rfl (by decide) (hs := {}) ?k (ac := ?ac) ?c (rs := ?rs) ?r ?l ?H; (case k => kernel_rfl); (case c => (conv => (lhs; cbv))); (case r => (conv => (lhs; cbv))); (case l => exact Nat.le_of_ble_eq_true rfl))
  (repeat' ((try (conv => whnf)); first | (with_reducible refine FCond.t (by first | assumption | (rw [decide_eq_true_eq]; omega) | (simp only [zA, zB, zC, zD, zE, zF, zG, ne_eq, *]; done) | (simp only [zA, zB, zC, zD, zE, zF, zG, ne_eq]; omega) | decide) ?_) | (with_reducible refine FCond.f (by first | assumption | (rw [decide_eq_false_iff_not]; omega) | (simp only [zE, zH, zI, zJ, zA, *]; done) | (simp only [zE, zH, zI, zJ, zA]; omega) | decide) ?_) | ((with_reducible refine FCond.i (fun hq => ?_) (fun hq => ?_)) <;> (try simp only [zA, zE, zD, zJ, zB, zI, Int.not_le, Int.not_lt] at hq)) | (with_reducible refine Fits.in64 (by omega) ?_) | (with_reducible refine FIdx.nat (by omega) ?_) | (with_reducible refine FIdx.int (by omega) ?_) | (with_reducible refine FTo.nat (by omega) ?_) | (with_reducible refine FTo.int (by omega) ?_) | ((with_reducible refine Need.mk ?_ ?_); focus (first | omega | (unfold maxLen; omega) | (simp only [maxLen, List.length_cons, List.length_map, List.length_range, true_or, or_true, true_and, and_true] <;> omega) | ((conv => whnf); exact ⟨rfl⟩) | ((conv => whnf); (repeat ((first | with_reducible refine FCond.t (by first | rfl | first | assumption | (rw [decide_eq_true_eq]; omega) | (simp only [zA, zB, zC, zD, zE, zF, zG, ne_eq, *]; done) | (simp only [zA, zB, zC, zD, zE, zF, zG, ne_eq]; omega) | decide) ?_ | with_reducible refine FCond.f (by first | rfl | first | assumption | (rw [decide_eq_false_iff_not]; omega) | (simp only [zE, zH, zI, zJ, zA, *]; done) | (simp only [zE, zH, zI, zJ, zA]; omega) | decide) ?_ | with_reducible refine Need.mk (by omega) ?_ | with_reducible refine FIdx.nat (by omega) ?_ | with_reducible refine FIdx.int (by omega) ?_); (conv => whnf))); exact ⟨rfl⟩))) | (with_reducible refine FApp.grow ?_)))
  all_goals ((refine ⟨⟨_, [], [], Cut.nil _, Ln.sameB _ rfl, ?_, rfl⟩⟩); (refine congrArg AV.bool ?_; rw [Bool.eq_iff_iff]; simp only [decide_eq_true_eq, Bool.false_eq_true, Bool.and_eq_true, Bool.or_eq_true, false_iff, true_iff, iff_true, iff_false]; omega))
end Go.Proofs.Ytomkjfhepfinhaa
