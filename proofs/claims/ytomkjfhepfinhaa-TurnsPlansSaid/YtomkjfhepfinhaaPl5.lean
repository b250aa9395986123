/- Turns: the reference's IsRota, CheckRota, IsRight, Right. / Turns: the program's Check. / Turns: what a run of a course keeps within bounds / Turns: the reference's end, Extreme. / Turns: the program's open, begin. / Turns: the reference's Run. / Turns: the program's begin, sign, run. / Turns: the program's sign, run. / Turns: slices.Backward. -/
import Derived.Test.YtomkjfhepfinhaaPl4
import Derived.RangeFuncNested
import Derived.RangeFuncBound
import Derived.RangeFuncCalls
import Derived.RangeFuncLeaves
import Derived.Shelf.Abstract
import Derived.Shelf.RegionOpen
import Derived.WalkKit
import Derived.OwnWalkIn
import Derived.TacticsInMore
import Derived.LoopNIn
import Derived.LoopIn
set_option linter.unusedSimpArgs false
set_option linter.unusedVariables false
namespace Go.Proofs.Ytomkjfhepfinhaa
open Go.RowKit

set_option maxHeartbeats 4000000 in
set_option maxRecDepth 100000 in
theorem isRota_ok (f : TFl) (t : Task) (z e : Bool) (r : List Int) (h1 : t.hands.length ≤ 1000000) (h2 : r.length ≤ 1000000) : ACall Try.prog 14 [aTask f t, aInts z e r] [] (fun v h => v = .bool (isRota t r) ∧ h = []) := by
  (refine fcall_of mixed Try.func14 rfl (by decide) (hs := {}) ?k (ac := ?ac) ?c (rs := ?rs) ?r ?l ?H; (case k => kernel_rfl); (case c => (conv => (lhs; cbv))); (case r => (conv => (lhs; cbv))); (case l => exact Nat.le_of_ble_eq_true rfl))
  (repeat' ((try (conv => whnf)); first | (with_reducible first | refine FCond.tA ?_ | refine FCond.fA ?_) | ((with_reducible refine FCond.i (fun hq => ?_) (fun hq => ?_)) <;> (try simp only [zA, zE, zD, zJ, zB, zI, Int.not_le, Int.not_lt] at hq)) | (with_reducible first | refine Fits.in64 (by omega) ?_ | refine FIdx.nat (by omega) ?_ | refine FIdx.int (by omega) ?_ | refine FTo.nat (by omega) ?_ | refine FTo.int (by omega) ?_) | ((with_reducible refine Need.mk ?_ ?_); focus exact needA) | (with_reducible refine FApp.grow ?_)))
  refine FLoop.of (ACalls.mono _) (X := Nat) (fun i => [(1, aInts z e r), (2, .ptr 0 0), (5, AI i)]) (fun _ => [.box 5 (cTask f t)]) (fun i => i ≤ r.length ∧ r.all (fun h => decide (0 ≤ h ∧ h ≤ (t.hands.length : Int) - 1)) = (r.drop i).all (fun h => decide (0 ≤ h ∧ h ≤ (t.hands.length : Int) - 1))) (fun i => r.length - i) 0 ⟨⟨by omega, rfl⟩, [0], Cut.A, by exact allA⟩ ?_
  rintro i ⟨hi, hL⟩
  (repeat' ((try (conv => whnf)); first | (with_reducible first | refine FCond.tA ?_ | refine FCond.fA ?_) | ((with_reducible refine FCond.i (fun hq => ?_) (fun hq => ?_)) <;> (try simp only [zA, zE, zD, zJ, zB, zI, Int.not_le, Int.not_lt] at hq)) | (with_reducible first | refine Fits.in64 (by omega) ?_ | refine FIdx.nat (by omega) ?_ | refine FIdx.int (by omega) ?_ | refine FTo.nat (by omega) ?_ | refine FTo.int (by omega) ?_) | ((with_reducible refine Need.mk ?_ ?_); focus exact needA) | (with_reducible refine FApp.grow ?_) | (refine FCall.pure ((within_ok _ _ _)) ⟨Ln.sameB _ rfl, Ln.sameB _ rfl, Ln.sameB _ rfl, True.intro⟩ rfl ?_)))
  all_goals (try (conv => whnf))
  · (refine ⟨⟨_, [], [], Cut.nil _, Ln.sameB _ rfl, ?_, rfl⟩⟩)
    have := all_no 0 (by omega) hL (by simpa using hq)
    unfold isRota; rw [this]; rfl
  · (refine ⟨⟨(i + 1), ?inv, ?mu, [0], Cut.A, allA⟩⟩)
    case inv => exact ⟨by omega, all_step 0 (by omega) hL (by simpa using hq)⟩
    case mu => show _ < _; omega
  · (refine ⟨⟨_, [], [], Cut.nil _, Ln.sameB _ rfl, ?_, rfl⟩⟩)
    have := all_end (by omega) hL
    unfold isRota; rw [this, Bool.true_and]
    refine congrArg AV.bool ?_
    rw [Bool.eq_iff_iff]; simp only [decide_eq_true_eq]; omega

set_option maxHeartbeats 4000000 in
set_option maxRecDepth 100000 in
theorem checkRota_ok (f : TFl) (t : Task) (z e : Bool) (r : List Int) (h1 : t.hands.length ≤ 1000000) (h3 : t.parts.length ≤ 1000000) (h2 : r.length ≤ 1000000) : ACall Try.prog 56 [aTask f t, aInts z e r] [] (fun v h => v = AI (checkRota t r) ∧ h = []) := by
  (refine fcall_of mixed Try.func56 rfl (by decide) (hs := {}) ?k (ac := ?ac) ?c (rs := ?rs) ?r ?l ?H; (case k => kernel_rfl); (case c => (conv => (lhs; cbv))); (case r => (conv => (lhs; cbv))); (case l => exact Nat.le_of_ble_eq_true rfl))
  (repeat' ((try (conv => whnf)); first | (with_reducible first | refine FCond.tA ?_ | refine FCond.fA ?_) | ((with_reducible refine FCond.i (fun hq => ?_) (fun hq => ?_)) <;> (try simp only [zA, zE, zD, zJ, zB, zI, Int.not_le, Int.not_lt] at hq)) | (with_reducible first | refine Fits.in64 (by omega) ?_ | refine FIdx.nat (by omega) ?_ | refine FIdx.int (by omega) ?_ | refine FTo.nat (by omega) ?_ | refine FTo.int (by omega) ?_) | ((with_reducible refine Need.mk ?_ ?_); focus exact needA) | (with_reducible refine FApp.grow ?_) | (refine FCall.pure ((refCheck_ok _ _ h1 h3)) ⟨Ln.sameB _ rfl, True.intro⟩ rfl ?_) | (refine FCall.pure ((isRota_ok _ _ _ _ _ h1 h2)) ⟨Ln.sameB _ rfl, Ln.sameB _ rfl, True.intro⟩ rfl ?_)))
  all_goals (try (conv => whnf))
  · (refine ⟨⟨_, [], [], Cut.nil _, Ln.sameB _ rfl, ?_, rfl⟩⟩)
    unfold Task.check at hq
    unfold checkRota
    by_cases ht : t.ok = true
    · rw [if_pos ht] at hq; exact absurd rfl hq
    · rw [if_neg ht]
  all_goals
    rename_i h0
    unfold Task.check at h0
    have ht : t.ok = true := by
      by_cases ht : t.ok = true
      · exact ht
      · rw [if_neg ht] at h0; omega
    (refine ⟨⟨_, [], [], Cut.nil _, Ln.sameB _ rfl, ?_, rfl⟩⟩)
    unfold checkRota
    rw [if_pos ht, hq]
    rfl
theorem rightH_drop {t : Task} {h : Int} {r : List Int} {i : Nat} {row rest : Int} (hi : i < r.length) : rightH t h (r.drop i) row rest = if r.getD i 0 = h then (if (row = 0 ∧ rest < t.rest) ∨ row = t.limit then false else rightH t h (r.drop (i + 1)) (row + 1) 0) else rightH t h (r.drop (i + 1)) 0 (rest + 1) := by
  rw [drop_eq 0 hi]; rfl
theorem isRight_no {t : Task} {r : List Int} {h : Nat} (hh : h < t.hands.length) (e : rightH t h r 0 t.rest = false) : isRight t r = false := by
  unfold isRight
  rw [List.all_eq_false]
  exact ⟨h, List.mem_range.2 hh, by simp [e]⟩
theorem isRight_yes {t : Task} {r : List Int} (e : ∀ h, h < t.hands.length → rightH t h r 0 t.rest = true) : isRight t r = true := by
  unfold isRight
  rw [List.all_eq_true]
  exact fun h hh => e h (List.mem_range.1 hh)
set_option maxHeartbeats 4000000 in
set_option maxRecDepth 100000 in
theorem isRight_ok (f : TFl) (t : Task) (z e : Bool) (r : List Int) (h1 : t.hands.length ≤ 1000000) (h3 : 0 ≤ t.rest ∧ t.rest ≤ 1000000) (h2 : r.length ≤ 1000000) : ACall Try.prog 15 [aTask f t, aInts z e r] [] (fun v h => v = .bool (isRight t r) ∧ h = []) := by
  (refine fcall_of mixed Try.func15 rfl (by decide) (hs := {}) ?k (ac := ?ac) ?c (rs := ?rs) ?r ?l ?H; (case k => kernel_rfl); (case c => (conv => (lhs; cbv))); (case r => (conv => (lhs; cbv))); (case l => exact Nat.le_of_ble_eq_true rfl))
  (repeat' ((try (conv => whnf)); first | (with_reducible first | refine FCond.tA ?_ | refine FCond.fA ?_) | ((with_reducible refine FCond.i (fun hq => ?_) (fun hq => ?_)) <;> (try simp only [zA, zE, zD, zJ, zB, zI, Int.not_le, Int.not_lt] at hq)) | (with_reducible first | refine Fits.in64 (by omega) ?_ | refine FIdx.nat (by omega) ?_ | refine FIdx.int (by omega) ?_ | refine FTo.nat (by omega) ?_ | refine FTo.int (by omega) ?_) | ((with_reducible refine Need.mk ?_ ?_); focus exact needA) | (with_reducible refine FApp.grow ?_)))
  refine FLoop.of (ACalls.mono _) (X := Nat) (fun h => [(1, aInts z e r), (2, .ptr 0 0), (5, AI h)]) (fun _ => [.box 5 (cTask f t)]) (fun h => h ≤ t.hands.length ∧ ∀ k, k < h → rightH t k r 0 t.rest = true) (fun h => t.hands.length - h) 0 ⟨⟨by omega, fun k hk => by omega⟩, [0], Cut.A, by exact allA⟩ ?_
  rintro h ⟨hi, hL⟩
  (repeat' ((try (conv => whnf)); first | (with_reducible first | refine FCond.tA ?_ | refine FCond.fA ?_) | ((with_reducible refine FCond.i (fun hq => ?_) (fun hq => ?_)) <;> (try simp only [zA, zE, zD, zJ, zB, zI, Int.not_le, Int.not_lt] at hq)) | (with_reducible first | refine Fits.in64 (by omega) ?_ | refine FIdx.nat (by omega) ?_ | refine FIdx.int (by omega) ?_ | refine FTo.nat (by omega) ?_ | refine FTo.int (by omega) ?_) | ((with_reducible refine Need.mk ?_ ?_); focus exact needA) | (with_reducible refine FApp.grow ?_)))
  all_goals (try (conv => whnf))
  · refine FLoop.of3 (ACalls.mono _) (fun (i : Nat) (row rest : Int) => [(1, aInts z e r), (2, .ptr 0 0), (5, AI h), (6, AI row), (7, AI rest), (8, AI i)]) (fun _ _ _ => [.box 5 (cTask f t)])
      (fun i row rest => i ≤ r.length ∧ 0 ≤ row ∧ row ≤ i ∧ 0 ≤ rest ∧ rest ≤ t.rest + i ∧ rightH t h r 0 t.rest = rightH t h (r.drop i) row rest) (fun i _ _ => r.length - i) 0 0 t.rest ⟨⟨by omega, by omega, by omega, by omega, by omega, rfl⟩, [0], Cut.A, by exact allA⟩ ?_
    rintro i row rest ⟨a1, a2, a3, a4, a5, a6⟩
    (repeat' ((try (conv => whnf)); first | (with_reducible first | refine FCond.tA ?_ | refine FCond.fA ?_) | ((with_reducible refine FCond.i (fun hq => ?_) (fun hq => ?_)) <;> (try simp only [zA, zE, zD, zJ, zB, zI, Int.not_le, Int.not_lt] at hq)) | (with_reducible first | refine Fits.in64 (by omega) ?_ | refine FIdx.nat (by omega) ?_ | refine FIdx.int (by omega) ?_ | refine FTo.nat (by omega) ?_ | refine FTo.int (by omega) ?_) | ((with_reducible refine Need.mk ?_ ?_); focus exact needA) | (with_reducible refine FApp.grow ?_)))
    all_goals (try (conv => whnf))
    · (refine ⟨⟨i + 1, 0, rest + 1, ?inv, ?mu, [0], Cut.A, allA⟩⟩)
      case inv => exact ⟨by omega, by omega, by omega, by omega, by omega, by rw [a6, rightH_drop (by omega), if_neg hq]⟩
      case mu => show _ < _; omega
    · (refine ⟨⟨_, [], [], Cut.nil _, Ln.sameB _ rfl, ?_, rfl⟩⟩)
      rw [isRight_no (h := h) (by omega) (by rw [a6, rightH_drop (by omega), if_pos (by assumption), if_pos (.inl ⟨by assumption, by assumption⟩)])]
    · (refine ⟨⟨_, [], [], Cut.nil _, Ln.sameB _ rfl, ?_, rfl⟩⟩)
      rw [isRight_no (h := h) (by omega) (by rw [a6, rightH_drop (by omega), if_pos (by assumption), if_pos (.inr (by assumption))])]
    · (refine ⟨⟨i + 1, row + 1, 0, ?inv, ?mu, [0], Cut.A, allA⟩⟩)
      case inv => exact ⟨by omega, by omega, by omega, by omega, by omega, by rw [a6, rightH_drop (by omega), if_pos (by assumption), if_neg (by omega)]⟩
      case mu => show _ < _; omega
    · (refine ⟨⟨_, [], [], Cut.nil _, Ln.sameB _ rfl, ?_, rfl⟩⟩)
      rw [isRight_no (h := h) (by omega) (by rw [a6, rightH_drop (by omega), if_pos (by assumption), if_pos (.inr (by assumption))])]
    · (refine ⟨⟨i + 1, row + 1, 0, ?inv, ?mu, [0], Cut.A, allA⟩⟩)
      case inv => exact ⟨by omega, by omega, by omega, by omega, by omega, by rw [a6, rightH_drop (by omega), if_pos (by assumption), if_neg (by omega)]⟩
      case mu => show _ < _; omega
    · (refine ⟨⟨h + 1, ?inv, ?mu, [0], Cut.A, allA⟩⟩)
      case inv =>
        refine ⟨by omega, fun k hk => ?_⟩
        by_cases e1 : k = h
        · subst e1; rw [a6, List.drop_eq_nil_of_le (by omega)]; rfl
        · exact hL k (by omega)
      case mu => show _ < _; omega
  · (refine ⟨⟨_, [], [], Cut.nil _, Ln.sameB _ rfl, ?_, rfl⟩⟩)
    rw [isRight_yes fun k hk => hL k (by omega)]
set_option maxHeartbeats 4000000 in
set_option maxRecDepth 100000 in
theorem refRight_ok (f : TFl) (t : Task) (z e : Bool) (r : List Int) (h1 : t.hands.length ≤ 1000000) (h3 : t.parts.length ≤ 1000000) (h2 : r.length ≤ 1000000) : ACall Try.prog 29 [aTask f t, aInts z e r] [] (fun v h => v = .tup 2 (ofL [.bool (decide (checkRota t r = 0) && isRight t r), AI (checkRota t r)]) ∧ h = []) := by
  have hR : checkRota t r = 0 → 0 ≤ t.rest ∧ t.rest ≤ 1000000 := fun h => by
    unfold checkRota at h
    by_cases ht : t.ok = true
    · simp only [Task.ok, Bool.and_eq_true, decide_eq_true_eq] at ht; omega
    · rw [if_neg ht] at h; omega
  (refine fcall_of mixed Try.func29 rfl (by decide) (hs := {}) ?k (ac := ?ac) ?c (rs := ?rs) ?r ?l ?H; (case k => kernel_rfl); (case c => (conv => (lhs; cbv))); (case r => (conv => (lhs; cbv))); (case l => exact Nat.le_of_ble_eq_true rfl))
  (repeat' ((try (conv => whnf)); first | (with_reducible first | refine FCond.tA ?_ | refine FCond.fA ?_) | ((with_reducible refine FCond.i (fun hq => ?_) (fun hq => ?_)) <;> (try simp only [zA, zE, zD, zJ, zB, zI, Int.not_le, Int.not_lt] at hq)) | (with_reducible first | refine Fits.in64 (by omega) ?_ | refine FIdx.nat (by omega) ?_ | refine FIdx.int (by omega) ?_ | refine FTo.nat (by omega) ?_ | refine FTo.int (by omega) ?_) | ((with_reducible refine Need.mk ?_ ?_); focus exact needA) | (with_reducible refine FApp.grow ?_) | (refine FCall.pure ((checkRota_ok _ _ _ _ _ h1 h3 h2)) ⟨Ln.sameB _ rfl, Ln.sameB _ rfl, True.intro⟩ rfl ?_) | (refine FCall.pure ((isRight_ok _ _ _ _ _ h1 (hR (by omega)) h2)) ⟨Ln.sameB _ rfl, Ln.sameB _ rfl, True.intro⟩ rfl ?_)))
  all_goals (try (conv => whnf))
  · (refine ⟨⟨_, [], [], Cut.nil _, Ln.sameB _ rfl, ?_, rfl⟩⟩)
    simp [hq]
  · (refine ⟨⟨_, [], [], Cut.nil _, Ln.sameB _ rfl, ?_, rfl⟩⟩)
    simp [hq]
end Go.Proofs.Ytomkjfhepfinhaa

namespace Go.Proofs.Ytomkjfhepfinhaa
open Go.RowKit

def minTo (l : List Int) : Nat → Int
  | 0 => l.getD 0 0
  | i + 1 => min (minTo l i) (l.getD (i + 1) 0)
def maxTo (l : List Int) : Nat → Int
  | 0 => l.getD 0 0
  | i + 1 => max (maxTo l i) (l.getD (i + 1) 0)
def minL (l : List Int) : Int := minTo l (l.length - 1)
def maxL (l : List Int) : Int := maxTo l (l.length - 1)

set_option maxHeartbeats 4000000 in
set_option maxRecDepth 100000 in
theorem to_ok (l h most : Int) : ACall Try.prog 50 [aSpan l h, AI most] [] (fun r h' => r = .bool (decide (0 ≤ l ∧ l ≤ h ∧ h ≤ most)) ∧ h' = []) := by
  (refine fcall_of mixed Try.func50 rfl (by decide) (hs := {}) ?k (ac := ?ac) ?c (rs := ?rs) ?r ?l ?H; (case k => kernel_rfl); (case c => (conv => (lhs; cbv))); (case r => (conv => (lhs; cbv))); (case l => exact Nat.le_of_ble_eq_true rfl))
  (repeat' ((try (conv => whnf)); first | (with_reducible first | refine FCond.tA ?_ | refine FCond.fA ?_) | ((with_reducible refine FCond.i (fun hq => ?_) (fun hq => ?_)) <;> (try simp only [zA, zE, zD, zJ, zB, zI, Int.not_le, Int.not_lt] at hq)) | (with_reducible first | refine Fits.in64 (by omega) ?_ | refine FIdx.nat (by omega) ?_ | refine FIdx.int (by omega) ?_ | refine FTo.nat (by omega) ?_ | refine FTo.int (by omega) ?_) | ((with_reducible refine Need.mk ?_ ?_); focus exact needA) | (with_reducible refine FApp.grow ?_)))
  all_goals (try (conv => whnf))
  all_goals ((refine ⟨⟨_, [], [], Cut.nil _, Ln.sameB _ rfl, ?_, rfl⟩⟩); (exact avB))
set_option maxHeartbeats 4000000 in
set_option maxRecDepth 100000 in
theorem many_ok (n most : Int) : ACall Try.prog 51 [AI n, AI most] [] (fun r h => r = .bool (decide (1 ≤ n ∧ n ≤ most)) ∧ h = []) := by
  (refine fcall_of mixed Try.func51 rfl (by decide) (hs := {}) ?k (ac := ?ac) ?c (rs := ?rs) ?r ?l ?H; (case k => kernel_rfl); (case c => (conv => (lhs; cbv))); (case r => (conv => (lhs; cbv))); (case l => exact Nat.le_of_ble_eq_true rfl))
  (repeat' ((try (conv => whnf)); first | (with_reducible first | refine FCond.tA ?_ | refine FCond.fA ?_) | ((with_reducible refine FCond.i (fun hq => ?_) (fun hq => ?_)) <;> (try simp only [zA, zE, zD, zJ, zB, zI, Int.not_le, Int.not_lt] at hq)) | (with_reducible first | refine Fits.in64 (by omega) ?_ | refine FIdx.nat (by omega) ?_ | refine FIdx.int (by omega) ?_ | refine FTo.nat (by omega) ?_ | refine FTo.int (by omega) ?_) | ((with_reducible refine Need.mk ?_ ?_); focus exact needA) | (with_reducible refine FApp.grow ?_)))
  all_goals (try (conv => whnf))
  all_goals ((refine ⟨⟨_, [], [], Cut.nil _, Ln.sameB _ rfl, ?_, rfl⟩⟩); (exact avB))
set_option maxHeartbeats 4000000 in
set_option maxRecDepth 100000 in
theorem hand_ok (x : Hand) : ACall Try.prog 49 [aHand x] [] (fun r h => r = .bool x.ok ∧ h = []) := by
  (refine fcall_of mixed Try.func49 rfl (by decide) (hs := {}) ?k (ac := ?ac) ?c (rs := ?rs) ?r ?l ?H; (case k => kernel_rfl); (case c => (conv => (lhs; cbv))); (case r => (conv => (lhs; cbv))); (case l => exact Nat.le_of_ble_eq_true rfl))
  (repeat' ((try (conv => whnf)); first | (with_reducible first | refine FCond.tA ?_ | refine FCond.fA ?_) | ((with_reducible refine FCond.i (fun hq => ?_) (fun hq => ?_)) <;> (try simp only [zA, zE, zD, zJ, zB, zI, Int.not_le, Int.not_lt] at hq)) | (with_reducible first | refine Fits.in64 (by omega) ?_ | refine FIdx.nat (by omega) ?_ | refine FIdx.int (by omega) ?_ | refine FTo.nat (by omega) ?_ | refine FTo.int (by omega) ?_) | ((with_reducible refine Need.mk ?_ ?_); focus exact needA) | (with_reducible refine FApp.grow ?_) | (refine FCall.pure ((to_ok _ _ _)) ⟨Ln.sameB _ rfl, Ln.sameB _ rfl, True.intro⟩ rfl ?_)))
  all_goals (try (conv => whnf))
  all_goals
    (refine ⟨⟨_, [], [], Cut.nil _, Ln.sameB _ rfl, ?_, rfl⟩⟩)
    refine congrArg AV.bool ?_
    rw [Bool.eq_iff_iff]
    simp only [Hand.ok, spanOk, decide_eq_true_eq, Bool.false_eq_true, Bool.and_eq_true, false_iff, true_iff]
    omega
abbrev fHand : AV := .fn 49 0 (ofL [])
abbrev fBad : AV := .fn 53 1 (ofL [.ip 1 (ofL [fHand]) 0])
set_option maxHeartbeats 4000000 in
set_option maxRecDepth 100000 in
theorem bad_ok (x : Hand) : ACall Try.prog 53 [aHand x, .ip 1 (ofL [fHand]) 0] [] (fun r h => r = .bool (!x.ok) ∧ h = []) := by
  (refine fcall_of mixed Try.func53 rfl (by decide) (hs := {}) ?k (ac := ?ac) ?c (rs := ?rs) ?r ?l ?H; (case k => kernel_rfl); (case c => (conv => (lhs; cbv))); (case r => (conv => (lhs; cbv))); (case l => exact Nat.le_of_ble_eq_true rfl))
  (repeat' ((try (conv => whnf)); first | (with_reducible first | refine FCond.tA ?_ | refine FCond.fA ?_) | ((with_reducible refine FCond.i (fun hq => ?_) (fun hq => ?_)) <;> (try simp only [zA, zE, zD, zJ, zB, zI, Int.not_le, Int.not_lt] at hq)) | (with_reducible first | refine Fits.in64 (by omega) ?_ | refine FIdx.nat (by omega) ?_ | refine FIdx.int (by omega) ?_ | refine FTo.nat (by omega) ?_ | refine FTo.int (by omega) ?_) | ((with_reducible refine Need.mk ?_ ?_); focus exact needA) | (with_reducible refine FApp.grow ?_) | (refine FCall.pure ((hand_ok _)) ⟨Ln.sameB _ rfl, True.intro⟩ rfl ?_)))
  all_goals (try (conv => whnf))
  (refine ⟨⟨_, [], [], Cut.nil _, Ln.sameB _ rfl, ?_, rfl⟩⟩)
  rfl
/-- The first place at which a list has what is asked for. -/
def idxAt {α : Type} (p : α → Bool) : List α → Nat → Int
  | [], _ => -1
  | x :: xs, i => if p x then (i : Int) else idxAt p xs (i + 1)
theorem idxAt_any {α : Type} (p : α → Bool) : ∀ (l : List α) (i : Nat), decide (0 ≤ idxAt p l i) = l.any p
  | [], _ => rfl
  | x :: xs, i => by
    rw [idxAt, List.any_cons]
    by_cases h : p x = true
    · rw [if_pos h, h]; simp
    · rw [if_neg h, idxAt_any p xs (i + 1)]; simp [h]
theorem idx_step {α : Type} {p : α → Bool} {l : List α} {i : Nat} (d : α) (h : i < l.length) (e : idxAt p l 0 = idxAt p (l.drop i) i) (hp : p (l.getD i d) = false) : idxAt p l 0 = idxAt p (l.drop (i + 1)) (i + 1) := by
  rw [e, drop_eq d h, idxAt, hp]; rfl
theorem idx_yes {α : Type} {p : α → Bool} {l : List α} {i : Nat} (d : α) (h : i < l.length) (e : idxAt p l 0 = idxAt p (l.drop i) i) (hp : p (l.getD i d) = true) : idxAt p l 0 = (i : Int) := by
  rw [e, drop_eq d h, idxAt, hp]; rfl
theorem idx_end {α : Type} {p : α → Bool} {l : List α} {i : Nat} (h : l.length ≤ i) (e : idxAt p l 0 = idxAt p (l.drop i) i) : idxAt p l 0 = -1 := by
  rw [e, List.drop_eq_nil_of_le h]; rfl
set_option maxHeartbeats 4000000 in
set_option maxRecDepth 100000 in
theorem index_ok (z e : Bool) (l : List Hand) (hl : l.length ≤ 1000000) : ACall Try.prog 72 [aHands z e l, fBad] [] (fun r h => r = AI (idxAt (fun x => !x.ok) l 0) ∧ h = []) := by
  (refine fcall_of mixed Try.func72 rfl (by decide) (hs := {}) ?k (ac := ?ac) ?c (rs := ?rs) ?r ?l ?H; (case k => kernel_rfl); (case c => (conv => (lhs; cbv))); (case r => (conv => (lhs; cbv))); (case l => exact Nat.le_of_ble_eq_true rfl))
  (repeat' ((try (conv => whnf)); first | (with_reducible first | refine FCond.tA ?_ | refine FCond.fA ?_) | ((with_reducible refine FCond.i (fun hq => ?_) (fun hq => ?_)) <;> (try simp only [zA, zE, zD, zJ, zB, zI, Int.not_le, Int.not_lt] at hq)) | (with_reducible first | refine Fits.in64 (by omega) ?_ | refine FIdx.nat (by omega) ?_ | refine FIdx.int (by omega) ?_ | refine FTo.nat (by omega) ?_ | refine FTo.int (by omega) ?_) | ((with_reducible refine Need.mk ?_ ?_); focus exact needA) | (with_reducible refine FApp.grow ?_)))
  (try (conv => whnf))
  refine FLoop.of (ACalls.mono _) (X := Nat) (fun i => [(0, aHands z e l), (1, fBad), (7, AI l.length), (8, AI i)]) (fun _ => []) (fun i => i ≤ l.length ∧ idxAt (fun x => !x.ok) l 0 = idxAt (fun x => !x.ok) (l.drop i) i) (fun i => l.length - i) 0 ⟨⟨by omega, rfl⟩, [], Cut.nil _, by exact allA⟩ ?_
  rintro i ⟨hi, hL⟩
  by_cases hlt : i < l.length
  · (repeat' ((try (conv => whnf)); first | (with_reducible first | refine FCond.tA ?_ | refine FCond.fA ?_) | ((with_reducible refine FCond.i (fun hq => ?_) (fun hq => ?_)) <;> (try simp only [zA, zE, zD, zJ, zB, zI, Int.not_le, Int.not_lt] at hq)) | (with_reducible first | refine Fits.in64 (by omega) ?_ | refine FIdx.nat (by omega) ?_ | refine FIdx.int (by omega) ?_ | refine FTo.nat (by omega) ?_ | refine FTo.int (by omega) ?_) | ((with_reducible refine Need.mk ?_ ?_); focus exact needA) | (with_reducible refine FApp.grow ?_) | (refine FCall.pure ((bad_ok _)) ⟨Ln.sameB _ rfl, Ln.sameB _ rfl, True.intro⟩ rfl ?_)))
    all_goals (try (conv => whnf))
    · (refine ⟨⟨_, [], [], Cut.nil _, Ln.sameB _ rfl, ?_, rfl⟩⟩)
      rw [idx_yes hd0 hlt hL (by simpa using hq)]
    · (refine ⟨⟨(i + 1), ?inv, ?mu, [], Cut.nil _, allA⟩⟩)
      case inv => exact ⟨by omega, idx_step hd0 hlt hL (by simpa using hq)⟩
      case mu => show _ < _; omega
  · (repeat' ((try (conv => whnf)); first | (with_reducible first | refine FCond.tA ?_ | refine FCond.fA ?_) | ((with_reducible refine FCond.i (fun hq => ?_) (fun hq => ?_)) <;> (try simp only [zA, zE, zD, zJ, zB, zI, Int.not_le, Int.not_lt] at hq)) | (with_reducible first | refine Fits.in64 (by omega) ?_ | refine FIdx.nat (by omega) ?_ | refine FIdx.int (by omega) ?_ | refine FTo.nat (by omega) ?_ | refine FTo.int (by omega) ?_) | ((with_reducible refine Need.mk ?_ ?_); focus exact needA) | (with_reducible refine FApp.grow ?_)))
    (try (conv => whnf))
    (refine ⟨⟨_, [], [], Cut.nil _, Ln.sameB _ rfl, ?_, rfl⟩⟩)
    rw [idx_end (by omega) hL]
set_option maxHeartbeats 4000000 in
set_option maxRecDepth 100000 in
theorem contains_ok (z e : Bool) (l : List Hand) (hl : l.length ≤ 1000000) : ACall Try.prog 52 [aHands z e l, fBad] [] (fun r h => r = .bool (l.any fun x => !x.ok) ∧ h = []) := by
  (refine fcall_of mixed Try.func52 rfl (by decide) (hs := {}) ?k (ac := ?ac) ?c (rs := ?rs) ?r ?l ?H; (case k => kernel_rfl); (case c => (conv => (lhs; cbv))); (case r => (conv => (lhs; cbv))); (case l => exact Nat.le_of_ble_eq_true rfl))
  (repeat' ((try (conv => whnf)); first | (with_reducible first | refine FCond.tA ?_ | refine FCond.fA ?_) | ((with_reducible refine FCond.i (fun hq => ?_) (fun hq => ?_)) <;> (try simp only [zA, zE, zD, zJ, zB, zI, Int.not_le, Int.not_lt] at hq)) | (with_reducible first | refine Fits.in64 (by omega) ?_ | refine FIdx.nat (by omega) ?_ | refine FIdx.int (by omega) ?_ | refine FTo.nat (by omega) ?_ | refine FTo.int (by omega) ?_) | ((with_reducible refine Need.mk ?_ ?_); focus exact needA) | (with_reducible refine FApp.grow ?_) | (refine FCall.pure ((index_ok _ _ _ hl)) ⟨Ln.sameB _ rfl, Ln.sameB _ rfl, True.intro⟩ rfl ?_)))
  all_goals (try (conv => whnf))
  (refine ⟨⟨_, [], [], Cut.nil _, Ln.sameB _ rfl, ?_, rfl⟩⟩)
  rw [← idxAt_any _ l 0]
set_option maxHeartbeats 4000000 in
set_option maxRecDepth 100000 in
theorem min_ok (z e : Bool) (l : List Int) (hl : 0 < l.length ∧ l.length ≤ 1000000) : ACall Try.prog 54 [aInts z e l] [] (fun r h => r = AI (minL l) ∧ h = []) := by
  (refine fcall_of mixed Try.func54 rfl (by decide) (hs := {}) ?k (ac := ?ac) ?c (rs := ?rs) ?r ?l ?H; (case k => kernel_rfl); (case c => (conv => (lhs; cbv))); (case r => (conv => (lhs; cbv))); (case l => exact Nat.le_of_ble_eq_true rfl))
  (repeat' ((try (conv => whnf)); first | (with_reducible first | refine FCond.tA ?_ | refine FCond.fA ?_) | ((with_reducible refine FCond.i (fun hq => ?_) (fun hq => ?_)) <;> (try simp only [zA, zE, zD, zJ, zB, zI, Int.not_le, Int.not_lt] at hq)) | (with_reducible first | refine Fits.in64 (by omega) ?_ | refine FIdx.nat (by omega) ?_ | refine FIdx.int (by omega) ?_ | refine FTo.nat (by omega) ?_ | refine FTo.int (by omega) ?_) | ((with_reducible refine Need.mk ?_ ?_); focus exact needA) | (with_reducible refine FApp.grow ?_)))
  (try (conv => whnf))
  refine FLoop.of (ACalls.mono _) (X := Nat) (fun i => [(0, aInts z e l), (3, AI (minTo l i)), (4, AI ((i + 1 : Nat) : Int))]) (fun _ => []) (fun i => i < l.length) (fun i => l.length - i) 0 ⟨by omega, [], Cut.nil _, by exact allA⟩ ?_
  rintro i hi
  by_cases hlt : i + 1 < l.length
  · (repeat' ((try (conv => whnf)); first | (with_reducible first | refine FCond.tA ?_ | refine FCond.fA ?_) | ((with_reducible refine FCond.i (fun hq => ?_) (fun hq => ?_)) <;> (try simp only [zA, zE, zD, zJ, zB, zI, Int.not_le, Int.not_lt] at hq)) | (with_reducible first | refine Fits.in64 (by omega) ?_ | refine FIdx.nat (by omega) ?_ | refine FIdx.int (by omega) ?_ | refine FTo.nat (by omega) ?_ | refine FTo.int (by omega) ?_) | ((with_reducible refine Need.mk ?_ ?_); focus exact needA) | (with_reducible refine FApp.grow ?_)))
    (try (conv => whnf))
    (refine ⟨⟨(i + 1), ?inv, ?mu, [], Cut.nil _, allA⟩⟩)
    case inv => show i + 1 < l.length; exact hlt
    case mu => show _ < _; omega
  · (repeat' ((try (conv => whnf)); first | (with_reducible first | refine FCond.tA ?_ | refine FCond.fA ?_) | ((with_reducible refine FCond.i (fun hq => ?_) (fun hq => ?_)) <;> (try simp only [zA, zE, zD, zJ, zB, zI, Int.not_le, Int.not_lt] at hq)) | (with_reducible first | refine Fits.in64 (by omega) ?_ | refine FIdx.nat (by omega) ?_ | refine FIdx.int (by omega) ?_ | refine FTo.nat (by omega) ?_ | refine FTo.int (by omega) ?_) | ((with_reducible refine Need.mk ?_ ?_); focus exact needA) | (with_reducible refine FApp.grow ?_)))
    (try (conv => whnf))
    (refine ⟨⟨_, [], [], Cut.nil _, Ln.sameB _ rfl, ?_, rfl⟩⟩)
    rw [minL, show l.length - 1 = i by omega]
set_option maxHeartbeats 4000000 in
set_option maxRecDepth 100000 in
theorem max_ok (z e : Bool) (l : List Int) (hl : 0 < l.length ∧ l.length ≤ 1000000) : ACall Try.prog 55 [aInts z e l] [] (fun r h => r = AI (maxL l) ∧ h = []) := by
  (refine fcall_of mixed Try.func55 rfl (by decide) (hs := {}) ?k (ac := ?ac) ?c (rs := ?rs) ?r ?l ?H; (case k => kernel_rfl); (case c => (conv => (lhs; cbv))); (case r => (conv => (lhs; cbv))); (case l => exact Nat.le_of_ble_eq_true rfl))
  (repeat' ((try (conv => whnf)); first | (with_reducible first | refine FCond.tA ?_ | refine FCond.fA ?_) | ((with_reducible refine FCond.i (fun hq => ?_) (fun hq => ?_)) <;> (try simp only [zA, zE, zD, zJ, zB, zI, Int.not_le, Int.not_lt] at hq)) | (with_reducible first | refine Fits.in64 (by omega) ?_ | refine FIdx.nat (by omega) ?_ | refine FIdx.int (by omega) ?_ | refine FTo.nat (by omega) ?_ | refine FTo.int (by omega) ?_) | ((with_reducible refine Need.mk ?_ ?_); focus exact needA) | (with_reducible refine FApp.grow ?_)))
  (try (conv => whnf))
  refine FLoop.of (ACalls.mono _) (X := Nat) (fun i => [(0, aInts z e l), (3, AI (maxTo l i)), (4, AI ((i + 1 : Nat) : Int))]) (fun _ => []) (fun i => i < l.length) (fun i => l.length - i) 0 ⟨by omega, [], Cut.nil _, by exact allA⟩ ?_
  rintro i hi
  by_cases hlt : i + 1 < l.length
  · (repeat' ((try (conv => whnf)); first | (with_reducible first | refine FCond.tA ?_ | refine FCond.fA ?_) | ((with_reducible refine FCond.i (fun hq => ?_) (fun hq => ?_)) <;> (try simp only [zA, zE, zD, zJ, zB, zI, Int.not_le, Int.not_lt] at hq)) | (with_reducible first | refine Fits.in64 (by omega) ?_ | refine FIdx.nat (by omega) ?_ | refine FIdx.int (by omega) ?_ | refine FTo.nat (by omega) ?_ | refine FTo.int (by omega) ?_) | ((with_reducible refine Need.mk ?_ ?_); focus exact needA) | (with_reducible refine FApp.grow ?_)))
    (try (conv => whnf))
    (refine ⟨⟨(i + 1), ?inv, ?mu, [], Cut.nil _, allA⟩⟩)
    case inv => show i + 1 < l.length; exact hlt
    case mu => show _ < _; omega
  · (repeat' ((try (conv => whnf)); first | (with_reducible first | refine FCond.tA ?_ | refine FCond.fA ?_) | ((with_reducible refine FCond.i (fun hq => ?_) (fun hq => ?_)) <;> (try simp only [zA, zE, zD, zJ, zB, zI, Int.not_le, Int.not_lt] at hq)) | (with_reducible first | refine Fits.in64 (by omega) ?_ | refine FIdx.nat (by omega) ?_ | refine FIdx.int (by omega) ?_ | refine FTo.nat (by omega) ?_ | refine FTo.int (by omega) ?_) | ((with_reducible refine Need.mk ?_ ?_); focus exact needA) | (with_reducible refine FApp.grow ?_)))
    (try (conv => whnf))
    (refine ⟨⟨_, [], [], Cut.nil _, Ln.sameB _ rfl, ?_, rfl⟩⟩)
    rw [maxL, show l.length - 1 = i by omega]
theorem minTo_ge {l : List Int} {a : Int} : ∀ {i : Nat}, a ≤ minTo l i ↔ ∀ k, k ≤ i → a ≤ l.getD k 0
  | 0 => ⟨fun h k hk => by obtain rfl : k = 0 := by omega
                           exact h, fun h => h 0 (Nat.le_refl _)⟩
  | i + 1 => by
    simp only [minTo]
    constructor
    · intro h k hk
      by_cases e : k = i + 1
      · subst e; omega
      · exact (minTo_ge (i := i)).1 (by omega) k (by omega)
    · intro h
      have h1 := (minTo_ge (l := l) (a := a) (i := i)).2 fun k hk => h k (by omega)
      have h2 := h (i + 1) (Nat.le_refl _)
      omega
theorem maxTo_le {l : List Int} {a : Int} : ∀ {i : Nat}, maxTo l i ≤ a ↔ ∀ k, k ≤ i → l.getD k 0 ≤ a
  | 0 => ⟨fun h k hk => by obtain rfl : k = 0 := by omega
                           exact h, fun h => h 0 (Nat.le_refl _)⟩
  | i + 1 => by
    simp only [maxTo]
    constructor
    · intro h k hk
      by_cases e : k = i + 1
      · subst e; omega
      · exact (maxTo_le (i := i)).1 (by omega) k (by omega)
    · intro h
      have h1 := (maxTo_le (l := l) (a := a) (i := i)).2 fun k hk => h k (by omega)
      have h2 := h (i + 1) (Nat.le_refl _)
      omega
theorem getD_get2 {α : Type} {l : List α} {k : Nat} (d : α) (h : k < l.length) : l.getD k d = l[k] := by simp [List.getD, h]
theorem all_getD2 {α : Type} {p : α → Bool} {l : List α} (d : α) : l.all p = true ↔ ∀ k, k < l.length → p (l.getD k d) = true := by
  rw [List.all_eq_true]
  constructor
  · intro h k hk
    rw [getD_get2 _ hk]; exact h _ (List.getElem_mem _)
  · intro h x hx
    obtain ⟨k, hk, rfl⟩ := List.getElem_of_mem hx
    have := h k hk
    rwa [getD_get2 _ hk] at this
theorem minmax_all {l : List Int} {a b : Int} (h : 0 < l.length) : (a ≤ minL l ∧ maxL l ≤ b) ↔ l.all (fun p => decide (a ≤ p ∧ p ≤ b)) = true := by
  rw [minL, maxL, minTo_ge, maxTo_le, all_getD2 0]
  simp only [decide_eq_true_eq]
  exact ⟨fun h2 k hk => ⟨h2.1 k (by omega), h2.2 k (by omega)⟩, fun h2 => ⟨fun k hk => (h2 k (by omega)).1, fun k hk => (h2 k (by omega)).2⟩⟩
theorem any_not {α : Type} (p : α → Bool) : ∀ (l : List α), (l.any fun x => !p x) = !l.all p
  | [] => rfl
  | x :: xs => by rw [List.any_cons, List.all_cons, any_not p xs, Bool.not_and]
theorem ok_iff (t : Task) : t.ok = true ↔ (1 ≤ t.hands.length ∧ t.hands.length ≤ 3) ∧ (1 ≤ t.parts.length ∧ t.parts.length ≤ 10) ∧ (1 ≤ t.limit ∧ t.limit ≤ 10) ∧ (1 ≤ t.rest ∧ t.rest ≤ 10) ∧ (0 ≤ t.swap ∧ t.swap ≤ 100) ∧ (t.hands.any fun x => !x.ok) = false ∧ 0 ≤ minL t.parts ∧ maxL t.parts ≤ 10 := by
  rw [any_not, Bool.not_eq_false']
  unfold Task.ok
  simp only [Bool.and_eq_true, decide_eq_true_eq, and_assoc]
  by_cases h : 0 < t.parts.length
  · rw [← minmax_all h]
  · constructor <;> intro h2 <;> (exfalso; omega)
/-- A lent box of one cell. -/
theorem Ln.box1 {σ : Nat → Nat → Prop} {Bp : Nat → Prop} {H : List AB} {d o : Nat} {c c' : Nat → AV} (h : Bp d) (hd : H[d]? = some (.box 1 c)) (hc : Ln σ Bp H (c 0) (c' 0)) (hp : (c' 0).pureB = true) : Ln σ Bp H (.ptr d o) (.ip 1 c' o) :=
  Ln.pubp d o 1 c c' h hd (fun i hi => by obtain rfl : i = 0 := (by omega)
                                          exact hc) (fun i hi => by obtain rfl : i = 0 := (by omega)
                                                                    exact pureB_ok _ hp)
set_option maxHeartbeats 4000000 in
set_option maxRecDepth 100000 in
theorem check_ok (f : TFl) (t : Task) (h1 : t.hands.length ≤ 1000000) (h2 : t.parts.length ≤ 1000000) : ACall Try.prog 28 [aTask f t] [] (fun r h => r = AI t.check ∧ h = []) := by
  (refine fcall_of mixed Try.func28 rfl (by decide) (hs := {}) ?k (ac := ?ac) ?c (rs := ?rs) ?r ?l ?H; (case k => kernel_rfl); (case c => (conv => (lhs; cbv))); (case r => (conv => (lhs; cbv))); (case l => exact Nat.le_of_ble_eq_true rfl))
  (repeat' ((try (conv => whnf)); first | (with_reducible first | refine FCond.tA ?_ | refine FCond.fA ?_) | ((with_reducible refine FCond.i (fun hq => ?_) (fun hq => ?_)) <;> (try simp only [zA, zE, zD, zJ, zB, zI, Int.not_le, Int.not_lt] at hq)) | (with_reducible first | refine Fits.in64 (by omega) ?_ | refine FIdx.nat (by omega) ?_ | refine FIdx.int (by omega) ?_ | refine FTo.nat (by omega) ?_ | refine FTo.int (by omega) ?_) | ((with_reducible refine Need.mk ?_ ?_); focus exact needA) | (with_reducible refine FApp.grow ?_) | (refine FCall.pure ((many_ok _ _)) ⟨Ln.sameB _ rfl, Ln.sameB _ rfl, True.intro⟩ rfl ?_) | (refine FCall.lend [1] ((contains_ok _ _ _ h1)) ⟨Ln.sameB _ rfl, Ln.fnN ⟨True.intro, Ln.box1 (by decide) rfl (Ln.sameB _ rfl) rfl⟩, True.intro⟩ rfl trivial ?_) | (refine FCall.pure ((min_ok _ _ _ (by omega))) ⟨Ln.sameB _ rfl, True.intro⟩ rfl ?_) | (refine FCall.pure ((max_ok _ _ _ (by omega))) ⟨Ln.sameB _ rfl, True.intro⟩ rfl ?_)))
  all_goals (try (conv => whnf))
  all_goals (refine ⟨⟨_, [], [], Cut.nil _, Ln.sameB _ rfl, ?_, rfl⟩⟩)
  all_goals first
    | (refine int_eq (check_0 ?_).symm; rw [ok_iff]; refine ⟨by omega, by omega, by omega, by omega, by omega, by assumption, by omega, by omega⟩)
    | (refine int_eq (check_40 ?_).symm; rw [ok_iff]; rintro ⟨h3, h4, h5, h6, h7, h8, h9, h10⟩; first | omega | (rw [h8] at hq; cases hq))
end Go.Proofs.Ytomkjfhepfinhaa

namespace Go.Proofs.Ytomkjfhepfinhaa

theorem getD_ge {l : List Int} {j : Nat} (h : l.length ≤ j) : l.getD j 0 = 0 := by simp [List.getD, List.getElem?_eq_none h]
theorem nextW_len (now step : List Int) (x : Int) : (nextW now step x).length = now.length := by simp [nextW]
theorem nextW_get {now step : List Int} {x : Int} {h : Nat} (hh : h < now.length) : (nextW now step x).getD h 0 = if x = (h : Int) then now.getD h 0 + step.getD h 0 else max 0 (now.getD h 0 - step.getD h 0) := by
  simp [nextW, List.getD, hh]
/-- What a run asks of a task, (the beginning of) a rota, and a course. -/
structure RunOk (t : Task) (r : List Int) (c : Course) : Prop where
  hn : 0 < t.hands.length ∧ t.hands.length ≤ 3
  st : c.start.length = t.hands.length
  rl : r.length ≤ 10 ∧ r.length ≤ t.parts.length
  sl : c.steps.length = r.length
  sn : ∀ i, i < r.length → (c.steps.getD i []).length = t.hands.length
  sb : ∀ h, h < t.hands.length → 0 ≤ c.start.getD h 0 ∧ c.start.getD h 0 ≤ 100
  tb : ∀ i, i < r.length → ∀ h, h < t.hands.length → 0 ≤ (c.steps.getD i []).getD h 0 ∧ (c.steps.getD i []).getD h 0 ≤ 20
  rb : ∀ i, i < r.length → 0 ≤ r.getD i 0 ∧ r.getD i 0 < t.hands.length
  pb : ∀ i, i < r.length → 0 ≤ t.parts.getD i 0 ∧ t.parts.getD i 0 ≤ 10
  lb : ∀ h, h < t.hands.length → 0 ≤ (t.hands.getD h hd0).slip ∧ (t.hands.getD h hd0).slip ≤ 100
  wb : 0 ≤ t.swap ∧ t.swap ≤ 100
structure RunIn (t : Task) (i : Nat) (s : RunS) : Prop where
  len : s.now.length = t.hands.length
  wb : ∀ h, h < t.hands.length → 0 ≤ s.now.getD h 0 ∧ s.now.getD h 0 ≤ 100 + 20 * (i : Int)
  bb : 0 ≤ s.bad ∧ s.bad ≤ 4100 * (i : Int)
  al : s.all.length = i + 1
theorem mul_bd {p q : Int} (hp : 0 ≤ p ∧ p ≤ 10) (hq : 0 ≤ q) : 0 ≤ p * q ∧ p * q ≤ 10 * q := ⟨Int.mul_nonneg hp.1 hq, Int.mul_le_mul_of_nonneg_right hp.2 hq⟩
theorem runTo_in {t : Task} {r : List Int} {c : Course} (k : RunOk t r c) : ∀ i, i ≤ r.length → RunIn t i (runTo t r c i)
  | 0, _ => ⟨k.st, fun h hh => by have := k.sb h hh; simp only [runTo]; omega, by simp [runTo], by simp [runTo]⟩
  | i + 1, hi => by
    have ih := runTo_in k i (by omega)
    have hr := k.rb i (by omega)
    have hl := k.rl
    refine ⟨?_, fun h hh => ?_, ?_, ?_⟩
    · simp only [runTo, runStep, nextW_len]; exact ih.len
    · simp only [runTo, runStep]
      rw [nextW_get (by rw [ih.len]; exact hh)]
      have h1 := ih.wb h hh
      have h2 := k.tb i (by omega) h hh
      split <;> omega
    · simp only [runTo, runStep]
      have h0 := k.lb (r.getD i 0).toNat (by omega)
      have h1 := ih.wb (r.getD i 0).toNat (by omega)
      have h2 := mul_bd (k.pb i (by omega)) (q := (t.hands.getD (r.getD i 0).toNat hd0).slip + (runTo t r c i).now.getD (r.getD i 0).toNat 0) (by omega)
      have h3 := ih.bb
      have h4 := k.wb
      split <;> omega
    · simp only [runTo, runStep, List.length_append, ih.al, List.length_singleton]
theorem all_getD {α : Type} {p : α → Bool} {l : List α} (h : l.all p = true) {k : Nat} {d : α} (hk : k < l.length) : p (l.getD k d) = true := by
  rw [List.all_eq_true] at h
  refine h _ ?_
  simp only [List.getD, List.getElem?_eq_getElem hk, Option.getD_some]
  exact List.getElem_mem hk
structure TaskOk (t : Task) : Prop where
  hn : 1 ≤ t.hands.length ∧ t.hands.length ≤ 3
  pn : 1 ≤ t.parts.length ∧ t.parts.length ≤ 10
  lim : 1 ≤ t.limit ∧ t.limit ≤ 10
  rest : 1 ≤ t.rest ∧ t.rest ≤ 10
  swap : 0 ≤ t.swap ∧ t.swap ≤ 100
  hand : ∀ h, h < t.hands.length → 0 ≤ (t.hands.getD h hd0).sl ∧ (t.hands.getD h hd0).sl ≤ (t.hands.getD h hd0).sh ∧ (t.hands.getD h hd0).sh ≤ 100 ∧ 0 ≤ (t.hands.getD h hd0).tl ∧ (t.hands.getD h hd0).tl ≤ (t.hands.getD h hd0).th ∧ (t.hands.getD h hd0).th ≤ 20 ∧ 0 ≤ (t.hands.getD h hd0).el ∧ (t.hands.getD h hd0).el ≤ (t.hands.getD h hd0).eh ∧ (t.hands.getD h hd0).eh ≤ 20 ∧ 0 ≤ (t.hands.getD h hd0).slip ∧ (t.hands.getD h hd0).slip ≤ 100
  part : ∀ i, i < t.parts.length → 0 ≤ t.parts.getD i 0 ∧ t.parts.getD i 0 ≤ 10
theorem taskOk {t : Task} (h : t.ok = true) : TaskOk t := by
  simp only [Task.ok, Bool.and_eq_true, decide_eq_true_eq] at h
  obtain ⟨⟨⟨⟨⟨⟨h1, h2⟩, h3⟩, h4⟩, h5⟩, h6⟩, h7⟩ := h
  refine ⟨by omega, by omega, h3, h4, h5, fun k hk => ?_, fun i hi => ?_⟩
  · have := all_getD h6 (d := hd0) hk
    simp only [Hand.ok, spanOk, Bool.and_eq_true, decide_eq_true_eq] at this
    omega
  · have := all_getD h7 (d := 0) hi
    simpa using this
/-- (The beginning of) a rota. -/
structure RotaIn (t : Task) (r : List Int) : Prop where
  len : r.length ≤ t.parts.length
  el : ∀ i, i < r.length → 0 ≤ r.getD i 0 ∧ r.getD i 0 < t.hands.length
theorem isRota_e {t : Task} {r : List Int} (h : isRota t r = true) : r.length = t.parts.length ∧ RotaIn t r := by
  simp only [isRota, Bool.and_eq_true, decide_eq_true_eq] at h
  refine ⟨h.2, by omega, fun i hi => ?_⟩
  have := all_getD h.1 (d := 0) hi
  simp only [decide_eq_true_eq] at this
  omega
theorem checkRota_0 {t : Task} {r : List Int} (h : checkRota t r = 0) : t.ok = true ∧ isRota t r = true := by
  unfold checkRota at h
  split at h
  · rename_i h1
    split at h
    · rename_i h2; exact ⟨h1, h2⟩
    · omega
  · omega
theorem getD_map' {α β : Type} {f : α → β} {l : List α} {k : Nat} {d : α} {d' : β} (h : k < l.length) : (l.map f).getD k d' = f (l.getD k d) := by
  simp [List.getD, h]
theorem endOf_bd {l h m : Int} {b : Bool} (h0 : 0 ≤ l) (h1 : l ≤ h) (h2 : h ≤ m) : 0 ≤ endOf l h b ∧ endOf l h b ≤ m := by
  unfold endOf; split <;> omega
theorem extreme_run {t : Task} {r : List Int} {b : Bool} (k : TaskOk t) (q : RotaIn t r) : RunOk t r (extreme t r b) := by
  have hn := k.hn
  have hp := k.pn
  refine ⟨by omega, by simp [extreme], ⟨by have := q.len; omega, q.len⟩, by simp [extreme], fun i hi => ?_, fun h hh => ?_, fun i hi h hh => ?_, q.el, fun i hi => k.part i (by have := q.len; omega), fun h hh => ?_, k.swap⟩
  · simp only [extreme]
    rw [getD_map' (d := 0) hi]
    simp [stepsOf]
  · simp only [extreme]
    rw [getD_map' (d := hd0) hh]
    have := k.hand h hh
    exact endOf_bd (by omega) (by omega) (by omega)
  · simp only [extreme]
    rw [getD_map' (d := 0) hi]
    have : (stepsOf t (r.getD i 0) b).getD h 0 = stepAt t (r.getD i 0) b h := by simp [stepsOf, List.getD, hh]
    rw [this]
    have := k.hand h hh
    unfold stepAt
    split
    · exact endOf_bd (by omega) (by omega) (by omega)
    · exact endOf_bd (by omega) (by omega) (by omega)
  · have := k.hand h hh; omega
end Go.Proofs.Ytomkjfhepfinhaa

namespace Go.Proofs.Ytomkjfhepfinhaa
open Go.RowKit

theorem getD_map {α β : Type} {f : α → β} {l : List α} {k : Nat} {d : α} {d' : β} (h : k < l.length) : (l.map f).getD k d' = f (l.getD k d) := by
  simp [List.getD, h]
theorem getD_range {β : Type} {f : Nat → β} {n k : Nat} {d' : β} (h : k < n) : ((List.range n).map f).getD k d' = f k := by
  simp [List.getD, h]
abbrev nilS : AV := .sl true true 0 0 (fun _ _ => .bot)
/-- A list of lists of numbers, all of them new. -/
abbrev aRows (l : List (List Int)) : AV := .sl false false l.length 1 (fun k _ => aInts false false (l.getD k []))
abbrev aCourse (c : Course) : AV := .agg 2 (ofL [aInts false false c.start, aRows c.steps])

set_option maxHeartbeats 4000000 in
set_option maxRecDepth 100000 in
theorem end_ok (l h : Int) (high : Bool) : ACall Try.prog 73 [aSpan l h, .bool high] [] (fun r h' => r = AI (endOf l h high) ∧ h' = []) := by
  (refine fcall_of mixed Try.func73 rfl (by decide) (hs := {}) ?k (ac := ?ac) ?c (rs := ?rs) ?r ?l ?H; (case k => kernel_rfl); (case c => (conv => (lhs; cbv))); (case r => (conv => (lhs; cbv))); (case l => exact Nat.le_of_ble_eq_true rfl))
  (repeat' ((try (conv => whnf)); first | (with_reducible first | refine FCond.tA ?_ | refine FCond.fA ?_) | ((with_reducible refine FCond.i (fun hq => ?_) (fun hq => ?_)) <;> (try simp only [zA, zE, zD, zJ, zB, zI, Int.not_le, Int.not_lt] at hq)) | (with_reducible first | refine Fits.in64 (by omega) ?_ | refine FIdx.nat (by omega) ?_ | refine FIdx.int (by omega) ?_ | refine FTo.nat (by omega) ?_ | refine FTo.int (by omega) ?_) | ((with_reducible refine Need.mk ?_ ?_); focus exact needA) | (with_reducible refine FApp.grow ?_)))
  all_goals (try (conv => whnf))
  · (refine ⟨⟨_, [], [], Cut.nil _, Ln.sameB _ rfl, ?_, rfl⟩⟩)
    subst hq; rfl
  · (refine ⟨⟨_, [], [], Cut.nil _, Ln.sameB _ rfl, ?_, rfl⟩⟩)
    subst hq; rfl
set_option maxHeartbeats 4000000 in
set_option maxRecDepth 100000 in
theorem extreme_ok (f : TFl) (t : Task) (z e : Bool) (r : List Int) (high : Bool) (h1 : 0 < t.hands.length ∧ t.hands.length ≤ 1000000) (h2 : 0 < r.length ∧ r.length ≤ 1000000) : ACall Try.prog 57 [aTask f t, aInts z e r, .bool high] [] (fun v h => v = aCourse (extreme t r high) ∧ h = []) := by
  (refine fcall_of mixed Try.func57 rfl (by decide) (hs := { ord := [(5, [(0, []), (1, []), (2, []), (3, []), (4, []), (5, []), (6, []), (7, []), (8, []), (9, [1]), (10, []), (11, []), (12, []), (13, [])])], pub := [16] }) ?k (ac := ?ac) ?c (rs := ?rs) ?r ?l ?H; (case k => kernel_rfl); (case c => (conv => (lhs; cbv))); (case r => (conv => (lhs; cbv))); (case l => exact Nat.le_of_ble_eq_true rfl))
  (repeat' ((try (conv => whnf)); first | (with_reducible first | refine FCond.tA ?_ | refine FCond.fA ?_) | ((with_reducible refine FCond.i (fun hq => ?_) (fun hq => ?_)) <;> (try simp only [zA, zE, zD, zJ, zB, zI, Int.not_le, Int.not_lt] at hq)) | (with_reducible first | refine Fits.in64 (by omega) ?_ | refine FIdx.nat (by omega) ?_ | refine FIdx.int (by omega) ?_ | refine FTo.nat (by omega) ?_ | refine FTo.int (by omega) ?_) | ((with_reducible refine Need.mk ?_ ?_); focus exact needA) | (with_reducible refine FApp.grow ?_)))
  (try (conv => whnf))
  refine FLoop.of (ACalls.mono _) (X := Nat) (fun h => [(1, aInts z e r), (2, .bool high), (3, .ptr 0 0), (6, .ptr 1 0), (7, .ptr 2 0), (8, AI h)])
    (fun h => match h with
      | 0 => [.box 5 (cTask f t), .box 2 (ofL [nilS, nilS]), .box 2 (ofL [nilS, nilS])]
      | h + 1 => [.box 5 (cTask f t), .box 2 (ofL [nilS, nilS]), .box 2 (ofL [.own 3 (h + 1), nilS]), .row (h + 1) 1 (fun k _ => AI (endOf (t.hands.getD k hd0).sl (t.hands.getD k hd0).sh high))])
    (fun h => h ≤ t.hands.length) (fun h => t.hands.length - h) 0 ⟨by omega, [0, 1, 2], Cut.A, allA⟩ ?_
  intro h hh
  rcases h with _ | h
  · (repeat' ((try (conv => whnf)); first | (with_reducible first | refine FCond.tA ?_ | refine FCond.fA ?_) | ((with_reducible refine FCond.i (fun hq => ?_) (fun hq => ?_)) <;> (try simp only [zA, zE, zD, zJ, zB, zI, Int.not_le, Int.not_lt] at hq)) | (with_reducible first | refine Fits.in64 (by omega) ?_ | refine FIdx.nat (by omega) ?_ | refine FIdx.int (by omega) ?_ | refine FTo.nat (by omega) ?_ | refine FTo.int (by omega) ?_) | ((with_reducible refine Need.mk ?_ ?_); focus exact needA) | (with_reducible refine FApp.grow ?_) | (refine FCall.pure ((end_ok _ _ _)) ⟨Ln.sameB _ rfl, Ln.sameB _ rfl, True.intro⟩ rfl ?_)))
    (try (conv => whnf))
    (refine ⟨⟨1, ?inv, ?mu, [0, 1, 2, 3], Cut.A, allA⟩⟩)
    case inv => omega
    case mu => show _ < _; omega
  · (repeat' ((try (conv => whnf)); first | (with_reducible first | refine FCond.tA ?_ | refine FCond.fA ?_) | ((with_reducible refine FCond.i (fun hq => ?_) (fun hq => ?_)) <;> (try simp only [zA, zE, zD, zJ, zB, zI, Int.not_le, Int.not_lt] at hq)) | (with_reducible first | refine Fits.in64 (by omega) ?_ | refine FIdx.nat (by omega) ?_ | refine FIdx.int (by omega) ?_ | refine FTo.nat (by omega) ?_ | refine FTo.int (by omega) ?_) | ((with_reducible refine Need.mk ?_ ?_); focus exact needA) | (with_reducible refine FApp.grow ?_) | (refine FCall.pure ((end_ok _ _ _)) ⟨Ln.sameB _ rfl, Ln.sameB _ rfl, True.intro⟩ rfl ?_)))
    all_goals (try (conv => whnf))
    · (refine ⟨⟨(h + 2), ?inv, ?mu, [0, 1, 2, 4], Cut.A, allA⟩⟩)
      case inv => omega
      case mu => show _ < _; omega
    · have hn : h + 1 = t.hands.length := by omega
      refine FLoop.of (ACalls.mono _) (X := Nat) (fun i => [(1, aInts z e r), (2, .bool high), (3, .ptr 0 0), (6, .ptr 1 0), (7, .ptr 2 0), (9, AI i)])
        (fun i => match i with
          | 0 => [.box 5 (cTask f t), .box 2 (ofL [nilS, nilS]), .box 2 (ofL [.own 3 (h + 1), nilS]), .row (h + 1) 1 (fun k _ => AI (endOf (t.hands.getD k hd0).sl (t.hands.getD k hd0).sh high))]
          | i + 1 => [.box 5 (cTask f t), .box 2 (ofL [nilS, nilS]), .box 2 (ofL [.own 3 (h + 1), .own 4 (i + 1)]), .row (h + 1) 1 (fun k _ => AI (endOf (t.hands.getD k hd0).sl (t.hands.getD k hd0).sh high)), .row (i + 1) 1 (fun k _ => aInts false false (stepsOf t (r.getD k 0) high))])
        (fun i => i ≤ r.length) (fun i => r.length - i) 0 ⟨by omega, [0, 1, 2, 3], Cut.A, allA⟩ ?_
      intro i hi
      rcases i with _ | i
      · (repeat' ((try (conv => whnf)); first | (with_reducible first | refine FCond.tA ?_ | refine FCond.fA ?_) | ((with_reducible refine FCond.i (fun hq => ?_) (fun hq => ?_)) <;> (try simp only [zA, zE, zD, zJ, zB, zI, Int.not_le, Int.not_lt] at hq)) | (with_reducible first | refine Fits.in64 (by omega) ?_ | refine FIdx.nat (by omega) ?_ | refine FIdx.int (by omega) ?_ | refine FTo.nat (by omega) ?_ | refine FTo.int (by omega) ?_) | ((with_reducible refine Need.mk ?_ ?_); focus exact needA) | (with_reducible refine FApp.grow ?_)))
        all_goals (try (conv => whnf))
        refine FLoop.of (ACalls.mono _) (X := Nat) (fun k => [(1, aInts z e r), (2, .bool high), (3, .ptr 0 0), (6, .ptr 1 0), (7, .ptr 2 0), (9, AI ((0 : Nat) : Int)), (10, match k with | 0 => nilS | k + 1 => .own 4 (k + 1)), (11, AI k)])
          (fun k => match k with
            | 0 => [.box 5 (cTask f t), .box 2 (ofL [nilS, nilS]), .box 2 (ofL [.own 3 (h + 1), nilS]), .row (h + 1) 1 (fun k _ => AI (endOf (t.hands.getD k hd0).sl (t.hands.getD k hd0).sh high))]
            | k + 1 => [.box 5 (cTask f t), .box 2 (ofL [nilS, nilS]), .box 2 (ofL [.own 3 (h + 1), nilS]), .row (h + 1) 1 (fun k _ => AI (endOf (t.hands.getD k hd0).sl (t.hands.getD k hd0).sh high)), .row (k + 1) 1 (fun j _ => AI (stepAt t (r.getD 0 0) high j))])
          (fun k => k ≤ t.hands.length) (fun k => t.hands.length - k) 0 ⟨by omega, [0, 1, 2, 3], Cut.A, allA⟩ ?_
        intro k hk
        rcases k with _ | k
        · (repeat' ((try (conv => whnf)); first | (with_reducible first | refine FCond.tA ?_ | refine FCond.fA ?_) | ((with_reducible refine FCond.i (fun hq => ?_) (fun hq => ?_)) <;> (try simp only [zA, zE, zD, zJ, zB, zI, Int.not_le, Int.not_lt] at hq)) | (with_reducible first | refine Fits.in64 (by omega) ?_ | refine FIdx.nat (by omega) ?_ | refine FIdx.int (by omega) ?_ | refine FTo.nat (by omega) ?_ | refine FTo.int (by omega) ?_) | ((with_reducible refine Need.mk ?_ ?_); focus exact needA) | (with_reducible refine FApp.grow ?_) | (refine FCall.pure ((end_ok _ _ _)) ⟨Ln.sameB _ rfl, Ln.sameB _ rfl, True.intro⟩ rfl ?_)))
          all_goals (try (conv => whnf))
          · (refine ⟨⟨1, ?inv, ?mu, [0, 1, 2, 3, 4], (by (refine Cut.of (Nat.le_of_ble_eq_true rfl) rfl rfl ?_; repeat (first | exact CutL.done | (refine CutL.turned rfl (by first | exact LnB.rowS | exact LnB.app (fun _ _ _ _ => rfl) (fun _ _ => int_eq (by unfold stepAt; split <;> first | rfl | (exfalso; omega))) | exact LnB.app (fun k hk => absurd hk (Nat.not_lt_zero k)) (fun _ _ => int_eq (by unfold stepAt; split <;> first | rfl | (exfalso; omega))) | exact LnB.A) ?_) | (refine CutL.gone (Nat.lt_of_lt_of_le (Nat.lt_succ_self _) (Nat.le_of_ble_eq_true rfl)) ?_)))), allA⟩⟩)
            case inv => omega
            case mu => show _ < _; omega
          · (refine ⟨⟨1, ?inv, ?mu, [0, 1, 2, 3, 4], (by (refine Cut.of (Nat.le_of_ble_eq_true rfl) rfl rfl ?_; repeat (first | exact CutL.done | (refine CutL.turned rfl (by first | exact LnB.rowS | exact LnB.app (fun _ _ _ _ => rfl) (fun _ _ => int_eq (by unfold stepAt; split <;> first | rfl | (exfalso; omega))) | exact LnB.app (fun k hk => absurd hk (Nat.not_lt_zero k)) (fun _ _ => int_eq (by unfold stepAt; split <;> first | rfl | (exfalso; omega))) | exact LnB.A) ?_) | (refine CutL.gone (Nat.lt_of_lt_of_le (Nat.lt_succ_self _) (Nat.le_of_ble_eq_true rfl)) ?_)))), allA⟩⟩)
            case inv => omega
            case mu => show _ < _; omega
        · (repeat' ((try (conv => whnf)); first | (with_reducible first | refine FCond.tA ?_ | refine FCond.fA ?_) | ((with_reducible refine FCond.i (fun hq => ?_) (fun hq => ?_)) <;> (try simp only [zA, zE, zD, zJ, zB, zI, Int.not_le, Int.not_lt] at hq)) | (with_reducible first | refine Fits.in64 (by omega) ?_ | refine FIdx.nat (by omega) ?_ | refine FIdx.int (by omega) ?_ | refine FTo.nat (by omega) ?_ | refine FTo.int (by omega) ?_) | ((with_reducible refine Need.mk ?_ ?_); focus exact needA) | (with_reducible refine FApp.grow ?_) | (refine FCall.pure ((end_ok _ _ _)) ⟨Ln.sameB _ rfl, Ln.sameB _ rfl, True.intro⟩ rfl ?_)))
          all_goals (try (conv => whnf))
          · (refine ⟨⟨(k + 2), ?inv, ?mu, [0, 1, 2, 3, 5], (by (refine Cut.of (Nat.le_of_ble_eq_true rfl) rfl rfl ?_; repeat (first | exact CutL.done | (refine CutL.turned rfl (by first | exact LnB.rowS | exact LnB.app (fun _ _ _ _ => rfl) (fun _ _ => int_eq (by unfold stepAt; split <;> first | rfl | (exfalso; omega))) | exact LnB.app (fun k hk => absurd hk (Nat.not_lt_zero k)) (fun _ _ => int_eq (by unfold stepAt; split <;> first | rfl | (exfalso; omega))) | exact LnB.A) ?_) | (refine CutL.gone (Nat.lt_of_lt_of_le (Nat.lt_succ_self _) (Nat.le_of_ble_eq_true rfl)) ?_)))), allA⟩⟩)
            case inv => omega
            case mu => show _ < _; omega
          · (refine ⟨⟨(k + 2), ?inv, ?mu, [0, 1, 2, 3, 5], (by (refine Cut.of (Nat.le_of_ble_eq_true rfl) rfl rfl ?_; repeat (first | exact CutL.done | (refine CutL.turned rfl (by first | exact LnB.rowS | exact LnB.app (fun _ _ _ _ => rfl) (fun _ _ => int_eq (by unfold stepAt; split <;> first | rfl | (exfalso; omega))) | exact LnB.app (fun k hk => absurd hk (Nat.not_lt_zero k)) (fun _ _ => int_eq (by unfold stepAt; split <;> first | rfl | (exfalso; omega))) | exact LnB.A) ?_) | (refine CutL.gone (Nat.lt_of_lt_of_le (Nat.lt_succ_self _) (Nat.le_of_ble_eq_true rfl)) ?_)))), allA⟩⟩)
            case inv => omega
            case mu => show _ < _; omega
          · refine FWk.of [(1, aInts z e r), (2, .bool high), (3, .ptr 0 0), (6, .ptr 1 0), (7, .ptr 2 0), (9, AI ((0 : Nat) : Int)), (10, aInts false false (stepsOf t (r.getD 0 0) high))] [.box 5 (cTask f t), .box 2 (ofL [nilS, nilS]), .box 2 (ofL [.own 3 (h + 1), nilS]), .row (h + 1) 1 (fun k _ => AI (endOf (t.hands.getD k hd0).sl (t.hands.getD k hd0).sh high))] [0, 1, 2, 3] Cut.A ⟨Ln.A, Ln.A, Ln.A, Ln.A, Ln.A, Ln.A, Ln.pubE (goneB rfl) rfl (Nat.le_refl _) (by simp only [stepsOf, List.length_map, List.length_range]; omega) (fun j hj o ho => int_eq (getD_range (by omega))), True.intro⟩ ?_
            (repeat' ((try (conv => whnf)); first | (with_reducible first | refine FCond.tA ?_ | refine FCond.fA ?_) | ((with_reducible refine FCond.i (fun hq => ?_) (fun hq => ?_)) <;> (try simp only [zA, zE, zD, zJ, zB, zI, Int.not_le, Int.not_lt] at hq)) | (with_reducible first | refine Fits.in64 (by omega) ?_ | refine FIdx.nat (by omega) ?_ | refine FIdx.int (by omega) ?_ | refine FTo.nat (by omega) ?_ | refine FTo.int (by omega) ?_) | ((with_reducible refine Need.mk ?_ ?_); focus exact needA) | (with_reducible refine FApp.grow ?_)))
            (try (conv => whnf))
            (refine ⟨⟨1, ?inv, ?mu, [0, 1, 2, 3, 4], Cut.A, allA⟩⟩)
            case inv => omega
            case mu => show _ < _; omega
      · (repeat' ((try (conv => whnf)); first | (with_reducible first | refine FCond.tA ?_ | refine FCond.fA ?_) | ((with_reducible refine FCond.i (fun hq => ?_) (fun hq => ?_)) <;> (try simp only [zA, zE, zD, zJ, zB, zI, Int.not_le, Int.not_lt] at hq)) | (with_reducible first | refine Fits.in64 (by omega) ?_ | refine FIdx.nat (by omega) ?_ | refine FIdx.int (by omega) ?_ | refine FTo.nat (by omega) ?_ | refine FTo.int (by omega) ?_) | ((with_reducible refine Need.mk ?_ ?_); focus exact needA) | (with_reducible refine FApp.grow ?_)))
        all_goals (try (conv => whnf))
        case H.succ.refine_2.succ.refine_2 =>
          (repeat' ((try (conv => whnf)); first | (with_reducible first | refine FCond.tA ?_ | refine FCond.fA ?_) | ((with_reducible refine FCond.i (fun hq => ?_) (fun hq => ?_)) <;> (try simp only [zA, zE, zD, zJ, zB, zI, Int.not_le, Int.not_lt] at hq)) | (with_reducible first | refine Fits.in64 (by omega) ?_ | refine FIdx.nat (by omega) ?_ | refine FIdx.int (by omega) ?_ | refine FTo.nat (by omega) ?_ | refine FTo.int (by omega) ?_) | ((with_reducible refine Need.mk ?_ ?_); focus exact needA) | (with_reducible refine FApp.grow ?_)))
          all_goals (try (conv => whnf))
          have hi' : i + 1 = r.length := by omega
          refine ⟨⟨aCourse (extreme t r high), [], [], Cut.nil _, Ln.aggN ⟨⟨True.intro, Ln.pubE (goneB rfl) rfl (Nat.le_refl _) (by simp only [extreme, List.length_map]; omega) (fun k hk o ho => int_eq (getD_map (by omega)))⟩, Ln.pubE (goneB rfl) rfl (Nat.le_refl _) (by simp only [extreme, List.length_map]; omega) (fun k hk o ho => ?_)⟩, rfl, rfl⟩⟩
          simp only [extreme]
          rw [getD_map (d := 0) (by omega)]
        refine FLoop.of (ACalls.mono _) (X := Nat) (fun k => [(1, aInts z e r), (2, .bool high), (3, .ptr 0 0), (6, .ptr 1 0), (7, .ptr 2 0), (9, AI ((i + 1 : Nat) : Int)), (10, match k with | 0 => nilS | k + 1 => .own 5 (k + 1)), (11, AI k)])
          (fun k => match k with
            | 0 => [.box 5 (cTask f t), .box 2 (ofL [nilS, nilS]), .box 2 (ofL [.own 3 (h + 1), .own 4 (i + 1)]), .row (h + 1) 1 (fun k _ => AI (endOf (t.hands.getD k hd0).sl (t.hands.getD k hd0).sh high)), .row (i + 1) 1 (fun k _ => aInts false false (stepsOf t (r.getD k 0) high))]
            | k + 1 => [.box 5 (cTask f t), .box 2 (ofL [nilS, nilS]), .box 2 (ofL [.own 3 (h + 1), .own 4 (i + 1)]), .row (h + 1) 1 (fun k _ => AI (endOf (t.hands.getD k hd0).sl (t.hands.getD k hd0).sh high)), .row (i + 1) 1 (fun k _ => aInts false false (stepsOf t (r.getD k 0) high)), .row (k + 1) 1 (fun j _ => AI (stepAt t (r.getD (i + 1) 0) high j))])
          (fun k => k ≤ t.hands.length) (fun k => t.hands.length - k) 0 ⟨by omega, [0, 1, 2, 3, 4], Cut.A, allA⟩ ?_
        intro k hk
        rcases k with _ | k
        · (repeat' ((try (conv => whnf)); first | (with_reducible first | refine FCond.tA ?_ | refine FCond.fA ?_) | ((with_reducible refine FCond.i (fun hq => ?_) (fun hq => ?_)) <;> (try simp only [zA, zE, zD, zJ, zB, zI, Int.not_le, Int.not_lt] at hq)) | (with_reducible first | refine Fits.in64 (by omega) ?_ | refine FIdx.nat (by omega) ?_ | refine FIdx.int (by omega) ?_ | refine FTo.nat (by omega) ?_ | refine FTo.int (by omega) ?_) | ((with_reducible refine Need.mk ?_ ?_); focus exact needA) | (with_reducible refine FApp.grow ?_) | (refine FCall.pure ((end_ok _ _ _)) ⟨Ln.sameB _ rfl, Ln.sameB _ rfl, True.intro⟩ rfl ?_)))
          all_goals (try (conv => whnf))
          · (refine ⟨⟨1, ?inv, ?mu, [0, 1, 2, 3, 4, 5], (by (refine Cut.of (Nat.le_of_ble_eq_true rfl) rfl rfl ?_; repeat (first | exact CutL.done | (refine CutL.turned rfl (by first | exact LnB.rowS | exact LnB.app (fun _ _ _ _ => rfl) (fun _ _ => int_eq (by unfold stepAt; split <;> first | rfl | (exfalso; omega))) | exact LnB.app (fun k hk => absurd hk (Nat.not_lt_zero k)) (fun _ _ => int_eq (by unfold stepAt; split <;> first | rfl | (exfalso; omega))) | exact LnB.A) ?_) | (refine CutL.gone (Nat.lt_of_lt_of_le (Nat.lt_succ_self _) (Nat.le_of_ble_eq_true rfl)) ?_)))), allA⟩⟩)
            case inv => omega
            case mu => show _ < _; omega
          · (refine ⟨⟨1, ?inv, ?mu, [0, 1, 2, 3, 4, 5], (by (refine Cut.of (Nat.le_of_ble_eq_true rfl) rfl rfl ?_; repeat (first | exact CutL.done | (refine CutL.turned rfl (by first | exact LnB.rowS | exact LnB.app (fun _ _ _ _ => rfl) (fun _ _ => int_eq (by unfold stepAt; split <;> first | rfl | (exfalso; omega))) | exact LnB.app (fun k hk => absurd hk (Nat.not_lt_zero k)) (fun _ _ => int_eq (by unfold stepAt; split <;> first | rfl | (exfalso; omega))) | exact LnB.A) ?_) | (refine CutL.gone (Nat.lt_of_lt_of_le (Nat.lt_succ_self _) (Nat.le_of_ble_eq_true rfl)) ?_)))), allA⟩⟩)
            case inv => omega
            case mu => show _ < _; omega
        · (repeat' ((try (conv => whnf)); first | (with_reducible first | refine FCond.tA ?_ | refine FCond.fA ?_) | ((with_reducible refine FCond.i (fun hq => ?_) (fun hq => ?_)) <;> (try simp only [zA, zE, zD, zJ, zB, zI, Int.not_le, Int.not_lt] at hq)) | (with_reducible first | refine Fits.in64 (by omega) ?_ | refine FIdx.nat (by omega) ?_ | refine FIdx.int (by omega) ?_ | refine FTo.nat (by omega) ?_ | refine FTo.int (by omega) ?_) | ((with_reducible refine Need.mk ?_ ?_); focus exact needA) | (with_reducible refine FApp.grow ?_) | (refine FCall.pure ((end_ok _ _ _)) ⟨Ln.sameB _ rfl, Ln.sameB _ rfl, True.intro⟩ rfl ?_)))
          all_goals (try (conv => whnf))
          · (refine ⟨⟨(k + 2), ?inv, ?mu, [0, 1, 2, 3, 4, 6], (by (refine Cut.of (Nat.le_of_ble_eq_true rfl) rfl rfl ?_; repeat (first | exact CutL.done | (refine CutL.turned rfl (by first | exact LnB.rowS | exact LnB.app (fun _ _ _ _ => rfl) (fun _ _ => int_eq (by unfold stepAt; split <;> first | rfl | (exfalso; omega))) | exact LnB.app (fun k hk => absurd hk (Nat.not_lt_zero k)) (fun _ _ => int_eq (by unfold stepAt; split <;> first | rfl | (exfalso; omega))) | exact LnB.A) ?_) | (refine CutL.gone (Nat.lt_of_lt_of_le (Nat.lt_succ_self _) (Nat.le_of_ble_eq_true rfl)) ?_)))), allA⟩⟩)
            case inv => omega
            case mu => show _ < _; omega
          · (refine ⟨⟨(k + 2), ?inv, ?mu, [0, 1, 2, 3, 4, 6], (by (refine Cut.of (Nat.le_of_ble_eq_true rfl) rfl rfl ?_; repeat (first | exact CutL.done | (refine CutL.turned rfl (by first | exact LnB.rowS | exact LnB.app (fun _ _ _ _ => rfl) (fun _ _ => int_eq (by unfold stepAt; split <;> first | rfl | (exfalso; omega))) | exact LnB.app (fun k hk => absurd hk (Nat.not_lt_zero k)) (fun _ _ => int_eq (by unfold stepAt; split <;> first | rfl | (exfalso; omega))) | exact LnB.A) ?_) | (refine CutL.gone (Nat.lt_of_lt_of_le (Nat.lt_succ_self _) (Nat.le_of_ble_eq_true rfl)) ?_)))), allA⟩⟩)
            case inv => omega
            case mu => show _ < _; omega
          · refine FWk.of [(1, aInts z e r), (2, .bool high), (3, .ptr 0 0), (6, .ptr 1 0), (7, .ptr 2 0), (9, AI ((i + 1 : Nat) : Int)), (10, aInts false false (stepsOf t (r.getD (i + 1) 0) high))] [.box 5 (cTask f t), .box 2 (ofL [nilS, nilS]), .box 2 (ofL [.own 3 (h + 1), .own 4 (i + 1)]), .row (h + 1) 1 (fun k _ => AI (endOf (t.hands.getD k hd0).sl (t.hands.getD k hd0).sh high)), .row (i + 1) 1 (fun k _ => aInts false false (stepsOf t (r.getD k 0) high))] [0, 1, 2, 3, 4] Cut.A ⟨Ln.A, Ln.A, Ln.A, Ln.A, Ln.A, Ln.A, Ln.pubE (goneB rfl) rfl (Nat.le_refl _) (by simp only [stepsOf, List.length_map, List.length_range]; omega) (fun j hj o ho => int_eq (getD_range (by omega))), True.intro⟩ ?_
            (repeat' ((try (conv => whnf)); first | (with_reducible first | refine FCond.tA ?_ | refine FCond.fA ?_) | ((with_reducible refine FCond.i (fun hq => ?_) (fun hq => ?_)) <;> (try simp only [zA, zE, zD, zJ, zB, zI, Int.not_le, Int.not_lt] at hq)) | (with_reducible first | refine Fits.in64 (by omega) ?_ | refine FIdx.nat (by omega) ?_ | refine FIdx.int (by omega) ?_ | refine FTo.nat (by omega) ?_ | refine FTo.int (by omega) ?_) | ((with_reducible refine Need.mk ?_ ?_); focus exact needA) | (with_reducible refine FApp.grow ?_)))
            (try (conv => whnf))
            (refine ⟨⟨(i + 2), ?inv, ?mu, [0, 1, 2, 3, 5], Cut.A, allA⟩⟩)
            case inv => omega
            case mu => show _ < _; omega
end Go.Proofs.Ytomkjfhepfinhaa

namespace Go.Proofs.Ytomkjfhepfinhaa
open Go.RowKit

/-- A box that may be read from now on. -/
theorem Ln.boxP {σ : Nat → Nat → Prop} {Bp : Nat → Prop} {H : List AB} {d o m : Nat} {c c' : Nat → AV} (h : Bp d) (hd : H[d]? = some (.box m c)) (hc : LnN σ Bp H m c c') (hp : ((List.range m).all fun i => (c' i).pureB) = true) : Ln σ Bp H (.ptr d o) (.ip m c' o) :=
  Ln.pubp d o m c c' h hd hc.get fun i hi => pureB_ok _ (by simp only [List.all_eq_true, List.mem_range] at hp; exact hp i hi)
abbrev pTask (f : TFl) (t : Task) : AV := .ip 5 (cTask f t) 0
def openR (f : TFl) (t : Task) (r : List Int) : AV := if checkRota t r = 0 then .tup 2 (ofL [pTask f t, AI 0]) else .tup 2 (ofL [.nilp, AI (checkRota t r)])
def Ends : Bool → AV
  | true => .fn 69 0 (ofL [])
  | false => .fn 68 0 (ofL [])
set_option maxHeartbeats 4000000 in
set_option maxRecDepth 100000 in
theorem high_ok (l h : Int) : ACall Try.prog 69 [aSpan l h] [] (fun r h' => r = AI (endOf l h true) ∧ h' = []) := by
  (refine fcall_of mixed Try.func69 rfl (by decide) (hs := {}) ?k (ac := ?ac) ?c (rs := ?rs) ?r ?l ?H; (case k => kernel_rfl); (case c => (conv => (lhs; cbv))); (case r => (conv => (lhs; cbv))); (case l => exact Nat.le_of_ble_eq_true rfl))
  (repeat' ((try (conv => whnf)); first | (with_reducible first | refine FCond.tA ?_ | refine FCond.fA ?_) | ((with_reducible refine FCond.i (fun hq => ?_) (fun hq => ?_)) <;> (try simp only [zA, zE, zD, zJ, zB, zI, Int.not_le, Int.not_lt] at hq)) | (with_reducible first | refine Fits.in64 (by omega) ?_ | refine FIdx.nat (by omega) ?_ | refine FIdx.int (by omega) ?_ | refine FTo.nat (by omega) ?_ | refine FTo.int (by omega) ?_) | ((with_reducible refine Need.mk ?_ ?_); focus exact needA) | (with_reducible refine FApp.grow ?_)))
  (try (conv => whnf))
  (refine ⟨⟨_, [], [], Cut.nil _, Ln.sameB _ rfl, ?_, rfl⟩⟩)
  rfl
set_option maxHeartbeats 4000000 in
set_option maxRecDepth 100000 in
theorem low_ok (l h : Int) : ACall Try.prog 68 [aSpan l h] [] (fun r h' => r = AI (endOf l h false) ∧ h' = []) := by
  (refine fcall_of mixed Try.func68 rfl (by decide) (hs := {}) ?k (ac := ?ac) ?c (rs := ?rs) ?r ?l ?H; (case k => kernel_rfl); (case c => (conv => (lhs; cbv))); (case r => (conv => (lhs; cbv))); (case l => exact Nat.le_of_ble_eq_true rfl))
  (repeat' ((try (conv => whnf)); first | (with_reducible first | refine FCond.tA ?_ | refine FCond.fA ?_) | ((with_reducible refine FCond.i (fun hq => ?_) (fun hq => ?_)) <;> (try simp only [zA, zE, zD, zJ, zB, zI, Int.not_le, Int.not_lt] at hq)) | (with_reducible first | refine Fits.in64 (by omega) ?_ | refine FIdx.nat (by omega) ?_ | refine FIdx.int (by omega) ?_ | refine FTo.nat (by omega) ?_ | refine FTo.int (by omega) ?_) | ((with_reducible refine Need.mk ?_ ?_); focus exact needA) | (with_reducible refine FApp.grow ?_)))
  (try (conv => whnf))
  (refine ⟨⟨_, [], [], Cut.nil _, Ln.sameB _ rfl, ?_, rfl⟩⟩)
  rfl
set_option maxHeartbeats 4000000 in
set_option maxRecDepth 100000 in
theorem tire_ok (x : Hand) (b : Bool) : ACall Try.prog 70 [aHand x, .ip 1 (ofL [Ends b]) 0] [] (fun r h => r = AI (endOf x.tl x.th b) ∧ h = []) := by
  (refine fcall_of mixed Try.func70 rfl (by decide) (hs := {}) ?k (ac := ?ac) ?c (rs := ?rs) ?r ?l ?H; (case k => kernel_rfl); (case c => (conv => (lhs; cbv))); (case r => (conv => (lhs; cbv))); (case l => exact Nat.le_of_ble_eq_true rfl))
  (repeat' ((try (conv => whnf)); first | (with_reducible first | refine FCond.tA ?_ | refine FCond.fA ?_) | ((with_reducible refine FCond.i (fun hq => ?_) (fun hq => ?_)) <;> (try simp only [zA, zE, zD, zJ, zB, zI, Int.not_le, Int.not_lt] at hq)) | (with_reducible first | refine Fits.in64 (by omega) ?_ | refine FIdx.nat (by omega) ?_ | refine FIdx.int (by omega) ?_ | refine FTo.nat (by omega) ?_ | refine FTo.int (by omega) ?_) | ((with_reducible refine Need.mk ?_ ?_); focus exact needA) | (with_reducible refine FApp.grow ?_)))
  cases b
  all_goals
    (repeat' ((try (conv => whnf)); first | (with_reducible first | refine FCond.tA ?_ | refine FCond.fA ?_) | ((with_reducible refine FCond.i (fun hq => ?_) (fun hq => ?_)) <;> (try simp only [zA, zE, zD, zJ, zB, zI, Int.not_le, Int.not_lt] at hq)) | (with_reducible first | refine Fits.in64 (by omega) ?_ | refine FIdx.nat (by omega) ?_ | refine FIdx.int (by omega) ?_ | refine FTo.nat (by omega) ?_ | refine FTo.int (by omega) ?_) | ((with_reducible refine Need.mk ?_ ?_); focus exact needA) | (with_reducible refine FApp.grow ?_) | (refine FCall.pure ((high_ok _ _)) ⟨Ln.sameB _ rfl, True.intro⟩ rfl ?_) | (refine FCall.pure ((low_ok _ _)) ⟨Ln.sameB _ rfl, True.intro⟩ rfl ?_)))
    (try (conv => whnf))
    (refine ⟨⟨_, [], [], Cut.nil _, Ln.sameB _ rfl, ?_, rfl⟩⟩)
    rfl
set_option maxHeartbeats 4000000 in
set_option maxRecDepth 100000 in
theorem ease_ok (x : Hand) (b : Bool) : ACall Try.prog 71 [aHand x, .ip 1 (ofL [Ends b]) 0] [] (fun r h => r = AI (endOf x.el x.eh b) ∧ h = []) := by
  (refine fcall_of mixed Try.func71 rfl (by decide) (hs := {}) ?k (ac := ?ac) ?c (rs := ?rs) ?r ?l ?H; (case k => kernel_rfl); (case c => (conv => (lhs; cbv))); (case r => (conv => (lhs; cbv))); (case l => exact Nat.le_of_ble_eq_true rfl))
  (repeat' ((try (conv => whnf)); first | (with_reducible first | refine FCond.tA ?_ | refine FCond.fA ?_) | ((with_reducible refine FCond.i (fun hq => ?_) (fun hq => ?_)) <;> (try simp only [zA, zE, zD, zJ, zB, zI, Int.not_le, Int.not_lt] at hq)) | (with_reducible first | refine Fits.in64 (by omega) ?_ | refine FIdx.nat (by omega) ?_ | refine FIdx.int (by omega) ?_ | refine FTo.nat (by omega) ?_ | refine FTo.int (by omega) ?_) | ((with_reducible refine Need.mk ?_ ?_); focus exact needA) | (with_reducible refine FApp.grow ?_)))
  cases b
  all_goals
    (repeat' ((try (conv => whnf)); first | (with_reducible first | refine FCond.tA ?_ | refine FCond.fA ?_) | ((with_reducible refine FCond.i (fun hq => ?_) (fun hq => ?_)) <;> (try simp only [zA, zE, zD, zJ, zB, zI, Int.not_le, Int.not_lt] at hq)) | (with_reducible first | refine Fits.in64 (by omega) ?_ | refine FIdx.nat (by omega) ?_ | refine FIdx.int (by omega) ?_ | refine FTo.nat (by omega) ?_ | refine FTo.int (by omega) ?_) | ((with_reducible refine Need.mk ?_ ?_); focus exact needA) | (with_reducible refine FApp.grow ?_) | (refine FCall.pure ((high_ok _ _)) ⟨Ln.sameB _ rfl, True.intro⟩ rfl ?_) | (refine FCall.pure ((low_ok _ _)) ⟨Ln.sameB _ rfl, True.intro⟩ rfl ?_)))
    (try (conv => whnf))
    (refine ⟨⟨_, [], [], Cut.nil _, Ln.sameB _ rfl, ?_, rfl⟩⟩)
    rfl
theorem isRota_mm {t : Task} {r : List Int} (h : 0 < t.parts.length) : isRota t r = true ↔ r.length = t.parts.length ∧ 0 ≤ minL r ∧ maxL r < t.hands.length := by
  unfold isRota
  simp only [Bool.and_eq_true, decide_eq_true_eq]
  by_cases hr : 0 < r.length
  · rw [← minmax_all hr]
    constructor <;> rintro ⟨h2, h3⟩ <;> refine ⟨?_, ?_⟩ <;> omega
  · constructor <;> rintro ⟨h2, h3⟩ <;> (exfalso; omega)
set_option maxHeartbeats 4000000 in
set_option maxRecDepth 100000 in
theorem open_ok (f : TFl) (t : Task) (z e : Bool) (r : List Int) (h1 : t.hands.length ≤ 1000000) (h2 : t.parts.length ≤ 1000000) (h3 : r.length ≤ 1000000) : ACall Try.prog 43 [aTask f t, aInts z e r] [] (fun v h => v = openR f t r ∧ h = []) := by
  (refine fcall_of mixed Try.func43 rfl (by decide) (hs := { ord := [(4, [(0, []), (1, []), (2, []), (3, []), (4, []), (5, []), (6, []), (7, []), (8, []), (9, []), (10, []), (11, []), (12, []), (14, []), (15, []), (16, []), (13, [15]), (17, []), (18, [])])] }) ?k (ac := ?ac) ?c (rs := ?rs) ?r ?l ?H; (case k => kernel_rfl); (case c => (conv => (lhs; cbv))); (case r => (conv => (lhs; cbv))); (case l => exact Nat.le_of_ble_eq_true rfl))
  (repeat' ((try (conv => whnf)); first | (with_reducible first | refine FCond.tA ?_ | refine FCond.fA ?_) | ((with_reducible refine FCond.i (fun hq => ?_) (fun hq => ?_)) <;> (try simp only [zA, zE, zD, zJ, zB, zI, Int.not_le, Int.not_lt] at hq)) | (with_reducible first | refine Fits.in64 (by omega) ?_ | refine FIdx.nat (by omega) ?_ | refine FIdx.int (by omega) ?_ | refine FTo.nat (by omega) ?_ | refine FTo.int (by omega) ?_) | ((with_reducible refine Need.mk ?_ ?_); focus exact needA) | (with_reducible refine FApp.grow ?_) | (refine FCall.pure ((check_ok _ _ h1 h2)) ⟨Ln.sameB _ rfl, True.intro⟩ rfl ?_)))
  all_goals (try (conv => whnf))
  · (refine ⟨⟨_, [], [], Cut.nil _, Ln.sameB _ rfl, ?_, rfl⟩⟩)
    have : checkRota t r = t.check := by
      unfold checkRota Task.check
      split
      · rename_i hk; exact (hq (check_0 hk)).elim
      · rfl
    unfold openR
    rw [this, if_neg hq]
    rfl
  all_goals
    rename_i hc
    have hc : t.ok = true := by
      by_cases hk : t.ok = true
      · exact hk
      · rw [check_40 hk] at hc; cases hc
    have k := taskOk hc
    have b1 := k.pn
    have e1 : checkRota t r = if isRota t r then 0 else 41 := by unfold checkRota; rw [if_pos hc]
    (repeat' ((try (conv => whnf)); first | (with_reducible first | refine FCond.tA ?_ | refine FCond.fA ?_) | ((with_reducible refine FCond.i (fun hq => ?_) (fun hq => ?_)) <;> (try simp only [zA, zE, zD, zJ, zB, zI, Int.not_le, Int.not_lt] at hq)) | (with_reducible first | refine Fits.in64 (by omega) ?_ | refine FIdx.nat (by omega) ?_ | refine FIdx.int (by omega) ?_ | refine FTo.nat (by omega) ?_ | refine FTo.int (by omega) ?_) | ((with_reducible refine Need.mk ?_ ?_); focus exact needA) | (with_reducible refine FApp.grow ?_) | (refine FCall.pure ((min_ok _ _ _ (by omega))) ⟨Ln.sameB _ rfl, True.intro⟩ rfl ?_) | (refine FCall.pure ((max_ok _ _ _ (by omega))) ⟨Ln.sameB _ rfl, True.intro⟩ rfl ?_)))
  all_goals (try (conv => whnf))
  all_goals
    first
    | ((refine ⟨⟨_, [], [], Cut.nil _, Ln.sameB _ rfl, ?_, rfl⟩⟩)
       have : checkRota t r = 41 := by rw [e1, if_neg]; rw [isRota_mm (by omega)]; rintro ⟨h4, h5, h6⟩; omega
       unfold openR
       rw [this]; rfl)
    | (have e2 : isRota t r = true := by rw [isRota_mm (by omega)]; refine ⟨?_, ?_, ?_⟩ <;> omega
       rw [if_pos e2] at e1
       unfold openR
       rw [if_pos e1]
       exact ⟨⟨.tup 2 (ofL [pTask f t, AI 0]), [], [], Cut.nil _, Ln.tupN ⟨⟨True.intro, Ln.boxP (m := 5) (goneB rfl) rfl (by exact allA) rfl⟩, Ln.sameB _ rfl⟩, rfl, rfl⟩⟩)
end Go.Proofs.Ytomkjfhepfinhaa

namespace Go.Proofs.Ytomkjfhepfinhaa
open Go.RowKit

/-- What is not said of a course's slices. -/
structure CFl where
  z1 : Bool
  e1 : Bool
  z2 : Bool
  e2 : Bool
  zs : Nat → Bool
  es : Nat → Bool
abbrev cCourse (f : CFl) (c : Course) : Nat → AV := ofL [aInts f.z1 f.e1 c.start, .sl f.z2 f.e2 c.steps.length 1 (fun k _ => aInts (f.zs k) (f.es k) (c.steps.getD k []))]
theorem sl_eq {z e : Bool} {n : Nat} {c : Nat → Nat → AV} {L : List Int} (hn : n = L.length) (hc : ∀ j o, c j o = AI (L.getD j 0)) : AV.sl z e n 1 c = aInts z e L := by
  subst hn
  have : c = fun k _ => AI (L.getD k 0) := funext fun j => funext fun o => hc j o
  rw [this]
/-- A list of which the first k are those of another. -/
def mixF (a b : List Int) (k j : Nat) : Int := if j < k then a.getD j 0 else b.getD j 0
theorem mixF_all {a b : List Int} {k j : Nat} (ha : a.length ≤ k) (hb : b.length ≤ k) : mixF a b k j = a.getD j 0 := by
  unfold mixF
  split
  · rfl
  · rw [getD_ge (by omega), getD_ge (by omega)]

theorem LnB.mix {σ : Nat → Nat → Prop} {Bp : Nat → Prop} {H : List AB} {n j : Nat} {a b : List Int} {v : Int} (hv : a.getD j 0 = v) : LnB σ Bp H (.row n 1 (updRm (fun k _ => AI (mixF a b j k)) j (elemC (AI v)))) (.row n 1 (fun k _ => AI (mixF a b (j + 1) k))) := by
  refine .rowE (Nat.le_refl _) fun k _ o _ => ?_
  simp only [updRm, elemC]
  by_cases h : k = j
  · subst h; rw [if_pos rfl]; refine int_eq ?_; simp only [mixF, if_pos (Nat.lt_succ_self k)]; exact hv
  · rw [if_neg h]; refine int_eq ?_; simp only [mixF]; by_cases h2 : k < j
    · rw [if_pos h2, if_pos (by omega)]
    · rw [if_neg h2, if_neg (by omega)]
theorem appc0 {c c' : Nat → Nat → AV} : appc 0 c c' = c' := by
  funext k o
  simp [appc]
theorem getD_snoc {α : Type} {l : List α} {x d : α} {k : Nat} : (l ++ [x]).getD k d = if k < l.length then l.getD k d else if k = l.length then x else d := by
  simp only [List.getD, List.getElem?_append]
  split
  · rfl
  · split
    · rename_i h1 h2; subst h2; simp
    · rename_i h1 h2
      rw [List.getElem?_eq_none (by simp; omega)]; rfl
set_option maxHeartbeats 4000000 in
set_option maxRecDepth 100000 in
theorem run_ok (f : TFl) (t : Task) (z e : Bool) (r : List Int) (cf : CFl) (c : Course) (k : RunOk t r c) : ACall Try.prog 21 [aTask f t, aInts z e r, .agg 2 (cCourse cf c)] [] (fun v h => v = .tup 2 (ofL [aRows (runC t r c).all, AI (runC t r c).bad]) ∧ h = []) := by
  obtain ⟨x0, xs, hs⟩ : ∃ x0 xs, c.start = x0 :: xs := by
    cases hc : c.start with
    | nil => have := k.st; have := k.hn; rw [hc] at *; simp at *; omega
    | cons a b => exact ⟨a, b, rfl⟩
  have hn0 : xs.length + 1 = t.hands.length := by have := k.st; rw [hs] at this; simpa using this
  have hn3 := k.hn
  have hr10 := k.rl
  have hcs : cCourse cf c = ofL [aInts cf.z1 cf.e1 (x0 :: xs), .sl cf.z2 cf.e2 c.steps.length 1 (fun k _ => aInts (cf.zs k) (cf.es k) (c.steps.getD k []))] := by rw [← hs]
  have hst : (runTo t r c 0).now = x0 :: xs := hs
  have hsl := k.sl
  rw [hcs]
  (refine fcall_of mixed Try.func21 rfl (by decide) (hs := {}) ?k (ac := ?ac) ?c (rs := ?rs) ?r ?l ?H; (case k => kernel_rfl); (case c => (conv => (lhs; cbv))); (case r => (conv => (lhs; cbv))); (case l => exact Nat.le_of_ble_eq_true rfl))
  (repeat' ((try (conv => whnf)); first | (with_reducible first | refine FCond.tA ?_ | refine FCond.fA ?_) | ((with_reducible refine FCond.i (fun hq => ?_) (fun hq => ?_)) <;> (try simp only [zA, zE, zD, zJ, zB, zI, Int.not_le, Int.not_lt] at hq)) | (with_reducible first | refine Fits.in64 (by omega) ?_ | refine FIdx.nat (by omega) ?_ | refine FIdx.int (by omega) ?_ | refine FTo.nat (by omega) ?_ | refine FTo.int (by omega) ?_) | ((with_reducible refine Need.mk ?_ ?_); focus exact needA) | (with_reducible refine FApp.grow ?_)))
  (try (conv => whnf))
  refine FLoop.of (ACalls.mono _) (X := Nat) (fun i => [(1, aInts z e r), (3, .ptr 0 0), (5, .ptr 1 0), (6, .own 3 (i + 1)), (7, AI (runTo t r c i).bad), (8, .own 2 (xs.length + 1)), (9, AI i)])
    (fun i => [.box 5 (cTask f t), .box 2 (ofL [aInts cf.z1 cf.e1 (x0 :: xs), .sl cf.z2 cf.e2 c.steps.length 1 (fun k _ => aInts (cf.zs k) (cf.es k) (c.steps.getD k []))]), .row (xs.length + 1) 1 (fun j _ => AI ((runTo t r c i).now.getD j 0)), .row (i + 1) 1 (fun j _ => aInts false false ((runTo t r c i).all.getD j []))])
    (fun i => i ≤ r.length) (fun i => r.length - i) 0 ⟨by omega, [0, 1, 2, 4], ?_, by exact allA⟩ ?_
  · refine Cut.of (Nat.le_of_ble_eq_true rfl) rfl rfl (CutL.turned rfl LnB.A (CutL.turned rfl LnB.A (CutL.turned rfl (LnB.rowE (Nat.le_of_eq (by simp)) fun j hj o ho => ?_) (CutL.turned rfl (LnB.app (fun k hk => absurd hk (Nat.not_lt_zero k)) fun o ho => ?_) CutL.done))))
    · rw [appc0, hst]
    · show aInts false false _ = AV.sl _ _ _ _ _
      rw [appc0, appc0]
      exact (sl_eq (by simp [runTo, hs]) (fun j o => by simp [runTo, hs])).symm
  · intro i hi
    have I := runTo_in k i hi
    have hbb := I.bb
    by_cases hlt : i < r.length
    · have hr := k.rb i hlt
      have hp := k.pb i hlt
      have hl := k.lb (r.getD i 0).toNat (by omega)
      have hw := I.wb (r.getD i 0).toNat (by omega)
      have hm := mul_bd hp (q := (t.hands.getD (r.getD i 0).toNat hd0).slip + (runTo t r c i).now.getD (r.getD i 0).toNat 0) (by omega)
      have hsw := k.wb
      have hsn := k.sn i hlt
      have I2 := runTo_in k (i + 1) hlt
      have hnl := I.len
      have hnl2 := I2.len
      obtain ⟨B, hB⟩ : ∃ B, B = (runTo t r c (i + 1)).bad := ⟨_, rfl⟩
      have hB' : B = (runTo t r c i).bad + t.parts.getD i 0 * ((t.hands.getD (r.getD i 0).toNat hd0).slip + (runTo t r c i).now.getD (r.getD i 0).toNat 0) + (if 0 < i ∧ r.getD i 0 ≠ r.getD ((i : Int) - 1).toNat 0 then t.swap else 0) := by
        rw [hB, show ((i : Int) - 1).toNat = i - 1 by omega]; rfl
      have hnx : ∀ j, j < t.hands.length → (runTo t r c (i + 1)).now.getD j 0 = if r.getD i 0 = (j : Int) then (runTo t r c i).now.getD j 0 + (c.steps.getD i []).getD j 0 else max 0 ((runTo t r c i).now.getD j 0 - (c.steps.getD i []).getD j 0) := fun j hj => nextW_get (by omega)
      (repeat' ((try (conv => whnf)); first | (with_reducible first | refine FCond.tA ?_ | refine FCond.fA ?_) | ((with_reducible refine FCond.i (fun hq => ?_) (fun hq => ?_)) <;> (try simp only [zA, zE, zD, zJ, zB, zI, Int.not_le, Int.not_lt] at hq)) | (with_reducible first | refine Fits.in64 (by omega) ?_ | refine FIdx.nat (by omega) ?_ | refine FIdx.int (by omega) ?_ | refine FTo.nat (by omega) ?_ | refine FTo.int (by omega) ?_) | ((with_reducible refine Need.mk ?_ ?_); focus exact needA) | (with_reducible refine FApp.grow ?_)))
      all_goals (try (conv => whnf))
      all_goals (split at hB' <;> first | (exfalso; omega) | skip)
      all_goals
        refine FLoop.of (ACalls.mono _) (X := Nat) (fun j => [(1, aInts z e r), (3, .ptr 0 0), (5, .ptr 1 0), (6, .own 3 (i + 1)), (7, AI B), (8, .own 2 (xs.length + 1)), (9, AI i), (10, AI j)])
          (fun j => [.box 5 (cTask f t), .box 2 (ofL [aInts cf.z1 cf.e1 (x0 :: xs), .sl cf.z2 cf.e2 c.steps.length 1 (fun k _ => aInts (cf.zs k) (cf.es k) (c.steps.getD k []))]), .row (xs.length + 1) 1 (fun k _ => AI (mixF (runTo t r c (i + 1)).now (runTo t r c i).now j k)), .row (i + 1) 1 (fun j _ => aInts false false ((runTo t r c i).all.getD j []))])
          (fun j => j ≤ xs.length + 1) (fun j => xs.length + 1 - j) 0 ⟨by omega, [0, 1, 2, 3], ?_, by exact allA⟩ ?_
        · exact Cut.of (Nat.le_of_ble_eq_true rfl) rfl rfl (CutL.turned rfl LnB.A (CutL.turned rfl LnB.A (CutL.turned rfl (LnB.rowE (Nat.le_refl _) fun j hj o ho => rfl) (CutL.turned rfl LnB.A CutL.done))))
        · intro j hj
          by_cases hj2 : j < xs.length + 1
          · have hwj := I.wb j (by omega)
            have htj := k.tb i hlt j (by omega)
            have hmj : mixF (runTo t r c (i + 1)).now (runTo t r c i).now j j = (runTo t r c i).now.getD j 0 := by simp [mixF]
            have hxj := hnx j (by omega)
            (repeat' ((try (conv => whnf)); first | (with_reducible first | refine FCond.tA ?_ | refine FCond.fA ?_) | ((with_reducible refine FCond.i (fun hq => ?_) (fun hq => ?_)) <;> (try simp only [zA, zE, zD, zJ, zB, zI, Int.not_le, Int.not_lt] at hq)) | (with_reducible first | refine Fits.in64 (by omega) ?_ | refine FIdx.nat (by omega) ?_ | refine FIdx.int (by omega) ?_ | refine FTo.nat (by omega) ?_ | refine FTo.int (by omega) ?_) | ((with_reducible refine Need.mk ?_ ?_); focus exact needA) | (with_reducible refine FApp.grow ?_)))
            all_goals (try (conv => whnf))
            · rw [if_pos hq] at hxj
              (refine ⟨⟨(j + 1), ?inv, ?mu, [0, 1, 2, 3], (by (refine Cut.of (Nat.le_of_ble_eq_true rfl) rfl rfl ?_; repeat (first | exact CutL.done | (refine CutL.turned rfl (by first | exact LnB.rowS | exact LnB.mix (by omega) | exact LnB.A) ?_) | (refine CutL.gone (Nat.lt_of_lt_of_le (Nat.lt_succ_self _) (Nat.le_of_ble_eq_true rfl)) ?_)))), allA⟩⟩)
              case inv => omega
              case mu => show _ < _; omega
            · rw [if_neg hq] at hxj
              (refine ⟨⟨(j + 1), ?inv, ?mu, [0, 1, 2, 3], (by (refine Cut.of (Nat.le_of_ble_eq_true rfl) rfl rfl ?_; repeat (first | exact CutL.done | (refine CutL.turned rfl (by first | exact LnB.rowS | exact LnB.mix (by omega) | exact LnB.A) ?_) | (refine CutL.gone (Nat.lt_of_lt_of_le (Nat.lt_succ_self _) (Nat.le_of_ble_eq_true rfl)) ?_)))), allA⟩⟩)
              case inv => omega
              case mu => show _ < _; omega
          · have hal := I.al
            have hall : ∀ k, k < i + 1 → aInts false false ((runTo t r c (i + 1)).all.getD k []) = aInts false false ((runTo t r c i).all.getD k []) := fun k hk => by
              rw [show (runTo t r c (i + 1)).all = (runTo t r c i).all ++ [(runTo t r c (i + 1)).now] from rfl, getD_snoc, if_pos (by omega)]
            have hall2 : aInts false false ((runTo t r c (i + 1)).all.getD (i + 1) []) = .sl false false (0 + (xs.length + 1)) 1 (appc 0 (bslC (fun _ => ofL [AI 0]) []) (fun k _ => AI (mixF (runTo t r c (i + 1)).now (runTo t r c i).now j k))) := by
              rw [show (runTo t r c (i + 1)).all = (runTo t r c i).all ++ [(runTo t r c (i + 1)).now] from rfl, getD_snoc, if_neg (by omega), if_pos (by omega), appc0]
              exact (sl_eq (by omega) (fun k o => int_eq (mixF_all (by omega) (by omega)))).symm
            (repeat' ((try (conv => whnf)); first | (with_reducible first | refine FCond.tA ?_ | refine FCond.fA ?_) | ((with_reducible refine FCond.i (fun hq => ?_) (fun hq => ?_)) <;> (try simp only [zA, zE, zD, zJ, zB, zI, Int.not_le, Int.not_lt] at hq)) | (with_reducible first | refine Fits.in64 (by omega) ?_ | refine FIdx.nat (by omega) ?_ | refine FIdx.int (by omega) ?_ | refine FTo.nat (by omega) ?_ | refine FTo.int (by omega) ?_) | ((with_reducible refine Need.mk ?_ ?_); focus exact needA) | (with_reducible refine FApp.grow ?_)))
            all_goals (try (conv => whnf))
            (refine ⟨⟨(i + 1), ?inv, ?mu, [0, 1, 2, 5], (by (refine Cut.of (Nat.le_of_ble_eq_true rfl) rfl rfl ?_; repeat (first | exact CutL.done | (refine CutL.turned rfl (by first | exact LnB.rowS | exact LnB.rowE (Nat.le_refl _) (fun k hk o ho => int_eq (mixF_all (by omega) (by omega)).symm) | exact LnB.app (fun k hk o ho => hall k hk) (fun o ho => hall2) | exact LnB.A) ?_) | (refine CutL.gone (Nat.lt_of_lt_of_le (Nat.lt_succ_self _) (Nat.le_of_ble_eq_true rfl)) ?_)))), allA⟩⟩)
            case inv => omega
            case mu => show _ < _; omega
    · (repeat' ((try (conv => whnf)); first | (with_reducible first | refine FCond.tA ?_ | refine FCond.fA ?_) | ((with_reducible refine FCond.i (fun hq => ?_) (fun hq => ?_)) <;> (try simp only [zA, zE, zD, zJ, zB, zI, Int.not_le, Int.not_lt] at hq)) | (with_reducible first | refine Fits.in64 (by omega) ?_ | refine FIdx.nat (by omega) ?_ | refine FIdx.int (by omega) ?_ | refine FTo.nat (by omega) ?_ | refine FTo.int (by omega) ?_) | ((with_reducible refine Need.mk ?_ ?_); focus exact needA) | (with_reducible refine FApp.grow ?_)))
      (try (conv => whnf))
      obtain rfl : i = r.length := by omega
      exact ⟨⟨.tup 2 (ofL [aRows (runC t r c).all, AI (runC t r c).bad]), [], [], Cut.nil _, Ln.tupN ⟨⟨True.intro, Ln.pubE (goneB rfl) rfl (Nat.le_refl _) I.al.symm (fun _ _ _ _ => rfl)⟩, Ln.sameB _ rfl⟩, rfl, rfl⟩⟩
end Go.Proofs.Ytomkjfhepfinhaa

namespace Go.Proofs.Ytomkjfhepfinhaa
open Go.RowKit

abbrev iEnds (b : Bool) : AV := .ip 1 (ofL [Ends b]) 0
abbrev fTire (b : Bool) : AV := .fn 70 1 (ofL [iEnds b])
abbrev fEase (b : Bool) : AV := .fn 71 1 (ofL [iEnds b])
abbrev boxC (f : TFl) (t : Task) (b : Bool) (last bad : Int) (w : AV) : AB := .box 6 (ofL [pTask f t, w, fTire b, fEase (!b), AI last, AI bad])
abbrev rowC (n : Nat) (l : List Int) : AB := .row n 1 (fun k _ => AI (l.getD k 0))
def startL (t : Task) (b : Bool) : List Int := t.hands.map fun x => endOf x.sl x.sh b

set_option maxHeartbeats 4000000 in
set_option maxRecDepth 100000 in
theorem begin_ok (f : TFl) (t : Task) (b : Bool) (h1 : 0 < t.hands.length ∧ t.hands.length ≤ 1000000) : ACall Try.prog 45 [pTask f t, .bool b] [] (fun r h => r = .ptr 0 0 ∧ h = [boxC f t b (-1) 0 (.own 1 t.hands.length), rowC t.hands.length (startL t b)]) := by
  (refine fcall_of mixed Try.func45 rfl (by decide) (hs := { ord := [(8, [(0, []), (1, []), (2, []), (3, []), (4, []), (5, []), (6, []), (7, []), (8, [4]), (9, []), (10, []), (11, []), (12, []), (13, [])])], pub := [4] }) ?k (ac := ?ac) ?c (rs := ?rs) ?r ?l ?H; (case k => kernel_rfl); (case c => (conv => (lhs; cbv))); (case r => (conv => (lhs; cbv))); (case l => exact Nat.le_of_ble_eq_true rfl))
  (repeat' ((try (conv => whnf)); first | (with_reducible first | refine FCond.tA ?_ | refine FCond.fA ?_) | ((with_reducible refine FCond.i (fun hq => ?_) (fun hq => ?_)) <;> (try simp only [zA, zE, zD, zJ, zB, zI, Int.not_le, Int.not_lt] at hq)) | (with_reducible first | refine Fits.in64 (by omega) ?_ | refine FIdx.nat (by omega) ?_ | refine FIdx.int (by omega) ?_ | refine FTo.nat (by omega) ?_ | refine FTo.int (by omega) ?_) | ((with_reducible refine Need.mk ?_ ?_); focus exact needA) | (with_reducible refine FApp.grow ?_)))
  all_goals (try (conv => whnf))
  · subst hq
    refine FWk.of [(0, pTask f t), (5, iEnds true), (6, iEnds false)] [] [] (Cut.nil _) ⟨Ln.sameB _ rfl, Ln.boxP (m := 1) (goneB rfl) rfl ⟨True.intro, Ln.sameB _ rfl⟩ rfl, Ln.boxP (m := 1) (goneB rfl) rfl ⟨True.intro, Ln.sameB _ rfl⟩ rfl, True.intro⟩ ?_
    (repeat' ((try (conv => whnf)); first | (with_reducible first | refine FCond.tA ?_ | refine FCond.fA ?_) | ((with_reducible refine FCond.i (fun hq => ?_) (fun hq => ?_)) <;> (try simp only [zA, zE, zD, zJ, zB, zI, Int.not_le, Int.not_lt] at hq)) | (with_reducible first | refine Fits.in64 (by omega) ?_ | refine FIdx.nat (by omega) ?_ | refine FIdx.int (by omega) ?_ | refine FTo.nat (by omega) ?_ | refine FTo.int (by omega) ?_) | ((with_reducible refine Need.mk ?_ ?_); focus exact needA) | (with_reducible refine FApp.grow ?_)))
    (try (conv => whnf))
    refine FLoop.of (ACalls.mono _) (X := Nat) (fun k => [(5, iEnds true), (7, .ptr 0 0), (20, aHands f.zh f.eh t.hands), (21, AI t.hands.length), (22, AI k)])
      (fun k => match k with
        | 0 => [boxC f t true (-1) 0 nilS]
        | k + 1 => [boxC f t true (-1) 0 (.own 1 (k + 1)), rowC (k + 1) (startL t true)])
      (fun k => k ≤ t.hands.length) (fun k => t.hands.length - k) 0 ⟨by omega, [0], Cut.A, allA⟩ ?_
    intro k hk
    by_cases hlt : k < t.hands.length
    · have hg : AI ((startL t true).getD k 0) = AI (endOf (t.hands.getD k hd0).sl (t.hands.getD k hd0).sh true) := by rw [startL, getD_map hlt]
      rcases k with _ | k
      · (repeat' ((try (conv => whnf)); first | (with_reducible first | refine FCond.tA ?_ | refine FCond.fA ?_) | ((with_reducible refine FCond.i (fun hq => ?_) (fun hq => ?_)) <;> (try simp only [zA, zE, zD, zJ, zB, zI, Int.not_le, Int.not_lt] at hq)) | (with_reducible first | refine Fits.in64 (by omega) ?_ | refine FIdx.nat (by omega) ?_ | refine FIdx.int (by omega) ?_ | refine FTo.nat (by omega) ?_ | refine FTo.int (by omega) ?_) | ((with_reducible refine Need.mk ?_ ?_); focus exact needA) | (with_reducible refine FApp.grow ?_) | (refine FCall.pure ((high_ok _ _)) ⟨Ln.sameB _ rfl, True.intro⟩ rfl ?_) | (refine FCall.pure ((low_ok _ _)) ⟨Ln.sameB _ rfl, True.intro⟩ rfl ?_)))
        (try (conv => whnf))
        (refine ⟨⟨1, ?inv, ?mu, [0, 2], (by (refine Cut.of (Nat.le_of_ble_eq_true rfl) rfl rfl ?_; repeat (first | exact CutL.done | (refine CutL.turned rfl (by first | exact LnB.rowS | exact LnB.app (fun k hk => absurd hk (Nat.not_lt_zero k)) (fun _ _ => hg) | exact LnB.A) ?_) | (refine CutL.gone (Nat.lt_of_lt_of_le (Nat.lt_succ_self _) (Nat.le_of_ble_eq_true rfl)) ?_)))), allA⟩⟩)
        case inv => omega
        case mu => show _ < _; omega
      · (repeat' ((try (conv => whnf)); first | (with_reducible first | refine FCond.tA ?_ | refine FCond.fA ?_) | ((with_reducible refine FCond.i (fun hq => ?_) (fun hq => ?_)) <;> (try simp only [zA, zE, zD, zJ, zB, zI, Int.not_le, Int.not_lt] at hq)) | (with_reducible first | refine Fits.in64 (by omega) ?_ | refine FIdx.nat (by omega) ?_ | refine FIdx.int (by omega) ?_ | refine FTo.nat (by omega) ?_ | refine FTo.int (by omega) ?_) | ((with_reducible refine Need.mk ?_ ?_); focus exact needA) | (with_reducible refine FApp.grow ?_) | (refine FCall.pure ((high_ok _ _)) ⟨Ln.sameB _ rfl, True.intro⟩ rfl ?_) | (refine FCall.pure ((low_ok _ _)) ⟨Ln.sameB _ rfl, True.intro⟩ rfl ?_)))
        (try (conv => whnf))
        (refine ⟨⟨(k + 2), ?inv, ?mu, [0, 3], (by (refine Cut.of (Nat.le_of_ble_eq_true rfl) rfl rfl ?_; repeat (first | exact CutL.done | (refine CutL.turned rfl (by first | exact LnB.rowS | exact LnB.app (fun _ _ _ _ => rfl) (fun _ _ => hg) | exact LnB.A) ?_) | (refine CutL.gone (Nat.lt_of_lt_of_le (Nat.lt_succ_self _) (Nat.le_of_ble_eq_true rfl)) ?_)))), allA⟩⟩)
        case inv => omega
        case mu => show _ < _; omega
    · rcases k with _ | k
      · exfalso; omega
      · (repeat' ((try (conv => whnf)); first | (with_reducible first | refine FCond.tA ?_ | refine FCond.fA ?_) | ((with_reducible refine FCond.i (fun hq => ?_) (fun hq => ?_)) <;> (try simp only [zA, zE, zD, zJ, zB, zI, Int.not_le, Int.not_lt] at hq)) | (with_reducible first | refine Fits.in64 (by omega) ?_ | refine FIdx.nat (by omega) ?_ | refine FIdx.int (by omega) ?_ | refine FTo.nat (by omega) ?_ | refine FTo.int (by omega) ?_) | ((with_reducible refine Need.mk ?_ ?_); focus exact needA) | (with_reducible refine FApp.grow ?_)))
        (try (conv => whnf))
        obtain hkn : k + 1 = t.hands.length := by omega
        rw [← hkn]
        exact ⟨⟨.ptr 0 0, _, [0, 1], Cut.A, Ln.ptr _ _ _ rfl, rfl, rfl⟩⟩
  · subst hq
    refine FWk.of [(0, pTask f t), (5, iEnds false), (6, iEnds true)] [] [] (Cut.nil _) ⟨Ln.sameB _ rfl, Ln.boxP (m := 1) (goneB rfl) rfl ⟨True.intro, Ln.sameB _ rfl⟩ rfl, Ln.boxP (m := 1) (goneB rfl) rfl ⟨True.intro, Ln.sameB _ rfl⟩ rfl, True.intro⟩ ?_
    (repeat' ((try (conv => whnf)); first | (with_reducible first | refine FCond.tA ?_ | refine FCond.fA ?_) | ((with_reducible refine FCond.i (fun hq => ?_) (fun hq => ?_)) <;> (try simp only [zA, zE, zD, zJ, zB, zI, Int.not_le, Int.not_lt] at hq)) | (with_reducible first | refine Fits.in64 (by omega) ?_ | refine FIdx.nat (by omega) ?_ | refine FIdx.int (by omega) ?_ | refine FTo.nat (by omega) ?_ | refine FTo.int (by omega) ?_) | ((with_reducible refine Need.mk ?_ ?_); focus exact needA) | (with_reducible refine FApp.grow ?_)))
    (try (conv => whnf))
    refine FLoop.of (ACalls.mono _) (X := Nat) (fun k => [(5, iEnds false), (7, .ptr 0 0), (20, aHands f.zh f.eh t.hands), (21, AI t.hands.length), (22, AI k)])
      (fun k => match k with
        | 0 => [boxC f t false (-1) 0 nilS]
        | k + 1 => [boxC f t false (-1) 0 (.own 1 (k + 1)), rowC (k + 1) (startL t false)])
      (fun k => k ≤ t.hands.length) (fun k => t.hands.length - k) 0 ⟨by omega, [0], Cut.A, allA⟩ ?_
    intro k hk
    by_cases hlt : k < t.hands.length
    · have hg : AI ((startL t false).getD k 0) = AI (endOf (t.hands.getD k hd0).sl (t.hands.getD k hd0).sh false) := by rw [startL, getD_map hlt]
      rcases k with _ | k
      · (repeat' ((try (conv => whnf)); first | (with_reducible first | refine FCond.tA ?_ | refine FCond.fA ?_) | ((with_reducible refine FCond.i (fun hq => ?_) (fun hq => ?_)) <;> (try simp only [zA, zE, zD, zJ, zB, zI, Int.not_le, Int.not_lt] at hq)) | (with_reducible first | refine Fits.in64 (by omega) ?_ | refine FIdx.nat (by omega) ?_ | refine FIdx.int (by omega) ?_ | refine FTo.nat (by omega) ?_ | refine FTo.int (by omega) ?_) | ((with_reducible refine Need.mk ?_ ?_); focus exact needA) | (with_reducible refine FApp.grow ?_) | (refine FCall.pure ((high_ok _ _)) ⟨Ln.sameB _ rfl, True.intro⟩ rfl ?_) | (refine FCall.pure ((low_ok _ _)) ⟨Ln.sameB _ rfl, True.intro⟩ rfl ?_)))
        (try (conv => whnf))
        (refine ⟨⟨1, ?inv, ?mu, [0, 2], (by (refine Cut.of (Nat.le_of_ble_eq_true rfl) rfl rfl ?_; repeat (first | exact CutL.done | (refine CutL.turned rfl (by first | exact LnB.rowS | exact LnB.app (fun k hk => absurd hk (Nat.not_lt_zero k)) (fun _ _ => hg) | exact LnB.A) ?_) | (refine CutL.gone (Nat.lt_of_lt_of_le (Nat.lt_succ_self _) (Nat.le_of_ble_eq_true rfl)) ?_)))), allA⟩⟩)
        case inv => omega
        case mu => show _ < _; omega
      · (repeat' ((try (conv => whnf)); first | (with_reducible first | refine FCond.tA ?_ | refine FCond.fA ?_) | ((with_reducible refine FCond.i (fun hq => ?_) (fun hq => ?_)) <;> (try simp only [zA, zE, zD, zJ, zB, zI, Int.not_le, Int.not_lt] at hq)) | (with_reducible first | refine Fits.in64 (by omega) ?_ | refine FIdx.nat (by omega) ?_ | refine FIdx.int (by omega) ?_ | refine FTo.nat (by omega) ?_ | refine FTo.int (by omega) ?_) | ((with_reducible refine Need.mk ?_ ?_); focus exact needA) | (with_reducible refine FApp.grow ?_) | (refine FCall.pure ((high_ok _ _)) ⟨Ln.sameB _ rfl, True.intro⟩ rfl ?_) | (refine FCall.pure ((low_ok _ _)) ⟨Ln.sameB _ rfl, True.intro⟩ rfl ?_)))
        (try (conv => whnf))
        (refine ⟨⟨(k + 2), ?inv, ?mu, [0, 3], (by (refine Cut.of (Nat.le_of_ble_eq_true rfl) rfl rfl ?_; repeat (first | exact CutL.done | (refine CutL.turned rfl (by first | exact LnB.rowS | exact LnB.app (fun _ _ _ _ => rfl) (fun _ _ => hg) | exact LnB.A) ?_) | (refine CutL.gone (Nat.lt_of_lt_of_le (Nat.lt_succ_self _) (Nat.le_of_ble_eq_true rfl)) ?_)))), allA⟩⟩)
        case inv => omega
        case mu => show _ < _; omega
    · rcases k with _ | k
      · exfalso; omega
      · (repeat' ((try (conv => whnf)); first | (with_reducible first | refine FCond.tA ?_ | refine FCond.fA ?_) | ((with_reducible refine FCond.i (fun hq => ?_) (fun hq => ?_)) <;> (try simp only [zA, zE, zD, zJ, zB, zI, Int.not_le, Int.not_lt] at hq)) | (with_reducible first | refine Fits.in64 (by omega) ?_ | refine FIdx.nat (by omega) ?_ | refine FIdx.int (by omega) ?_ | refine FTo.nat (by omega) ?_ | refine FTo.int (by omega) ?_) | ((with_reducible refine Need.mk ?_ ?_); focus exact needA) | (with_reducible refine FApp.grow ?_)))
        (try (conv => whnf))
        obtain hkn : k + 1 = t.hands.length := by omega
        rw [← hkn]
        exact ⟨⟨.ptr 0 0, _, [0, 1], Cut.A, Ln.ptr _ _ _ rfl, rfl, rfl⟩⟩
end Go.Proofs.Ytomkjfhepfinhaa

namespace Go.Proofs.Ytomkjfhepfinhaa
open Go.RowKit

def signBad (t : Task) (part : Nat) (x last bad : Int) (now : List Int) : Int := bad + t.parts.getD part 0 * ((t.hands.getD x.toNat hd0).slip + now.getD x.toNat 0) + (if 0 ≤ last ∧ last ≠ x then t.swap else 0)
def signNow (t : Task) (b : Bool) (x : Int) (now : List Int) : List Int := nextW now (stepsOf t x b) x
set_option maxHeartbeats 4000000 in
set_option maxRecDepth 100000 in
theorem sign_ok (f : TFl) (t : Task) (b : Bool) (part : Nat) (x last bad : Int) (now : List Int) (k : TaskOk t) (hp : part < t.parts.length) (hx : 0 ≤ x ∧ x < t.hands.length) (hn : now.length = t.hands.length) (hw : ∀ h, h < t.hands.length → 0 ≤ now.getD h 0 ∧ now.getD h 0 ≤ 1000) (hb : 0 ≤ bad ∧ bad ≤ 1000000) :
    ACall Try.prog 48 [.ptr 0 0, AI part, AI x] [boxC f t b last bad (.own 1 t.hands.length), rowC t.hands.length now] (fun r h => r = .tup 0 (ofL []) ∧ h = [boxC f t b x (signBad t part x last bad now) (.own 1 t.hands.length), rowC t.hands.length (signNow t b x now)]) := by
  have b1 := k.hn
  have b2 := k.pn
  have b3 := k.swap
  have hl := k.hand x.toNat (by omega)
  have hpb := k.part part hp
  have hwx := hw x.toNat (by omega)
  have hm := mul_bd hpb (q := (t.hands.getD x.toNat hd0).slip + now.getD x.toNat 0) (by omega)
  obtain ⟨N, hN⟩ : ∃ N, N = signBad t part x last bad now := ⟨_, rfl⟩
  have hN' := hN
  unfold signBad at hN'
  (refine fcall_of mixed Try.func48 rfl (by decide) (hs := { ord := [(8, [(0, []), (1, []), (2, []), (3, []), (4, []), (5, []), (6, []), (7, []), (8, []), (9, []), (10, []), (11, []), (12, [3, 6]), (13, []), (14, []), (15, [])]), (9, [(0, []), (1, []), (2, []), (3, []), (4, []), (5, []), (6, []), (7, []), (8, []), (9, []), (10, []), (11, []), (12, []), (13, []), (14, []), (15, []), (16, []), (17, [3, 8, 11]), (18, []), (19, []), (20, []), (21, [])])] }) ?k (ac := ?ac) ?c (rs := ?rs) ?r ?l ?H; (case k => kernel_rfl); (case c => (conv => (lhs; cbv))); (case r => (conv => (lhs; cbv))); (case l => exact Nat.le_of_ble_eq_true rfl))
  (repeat' ((try (conv => whnf)); first | (with_reducible first | refine FCond.tA ?_ | refine FCond.fA ?_) | ((with_reducible refine FCond.i (fun hq => ?_) (fun hq => ?_)) <;> (try simp only [zA, zE, zD, zJ, zB, zI, Int.not_le, Int.not_lt] at hq)) | (with_reducible first | refine Fits.in64 (by omega) ?_ | refine FIdx.nat (by omega) ?_ | refine FIdx.int (by omega) ?_ | refine FTo.nat (by omega) ?_ | refine FTo.int (by omega) ?_) | ((with_reducible refine Need.mk ?_ ?_); focus exact needA) | (with_reducible refine FApp.grow ?_)))
  all_goals (try (conv => whnf))
  all_goals
    split at hN'
    all_goals first | (exfalso; omega) | skip
    refine FLoop.of (ACalls.mono _) (X := Nat) (fun j => [(0, .ptr 0 0), (2, AI x), (86, aHands f.zh f.eh t.hands), (87, AI t.hands.length), (88, AI j)])
      (fun j => [boxC f t b x N (.own 1 t.hands.length), .row t.hands.length 1 (fun k _ => AI (mixF (signNow t b x now) now j k))])
      (fun j => j ≤ t.hands.length) (fun j => t.hands.length - j) 0 ⟨by omega, [0, 1], ?_, by exact allA⟩ ?_
    · exact Cut.of (Nat.le_of_ble_eq_true rfl) rfl rfl (CutL.turned rfl LnB.A (CutL.turned rfl (LnB.rowE (Nat.le_refl _) fun j hj o ho => rfl) CutL.done))
    intro j hj
    by_cases hlt : j < t.hands.length
    · have hwj := hw j (by omega)
      have hhj := k.hand j hlt
      have hmj : mixF (signNow t b x now) now j j = now.getD j 0 := by simp [mixF]
      have hxj : (signNow t b x now).getD j 0 = if x = (j : Int) then now.getD j 0 + endOf (t.hands.getD j hd0).tl (t.hands.getD j hd0).th b else max 0 (now.getD j 0 - endOf (t.hands.getD j hd0).el (t.hands.getD j hd0).eh (!b)) := by
        rw [signNow, nextW_get (by omega), stepsOf, getD_range hlt]
        unfold stepAt
        split <;> rfl
      have e1 : 0 ≤ endOf (t.hands.getD j hd0).tl (t.hands.getD j hd0).th b ∧ endOf (t.hands.getD j hd0).tl (t.hands.getD j hd0).th b ≤ 20 := by unfold endOf; split <;> omega
      have e2 : 0 ≤ endOf (t.hands.getD j hd0).el (t.hands.getD j hd0).eh (!b) ∧ endOf (t.hands.getD j hd0).el (t.hands.getD j hd0).eh (!b) ≤ 20 := by unfold endOf; split <;> omega
      (repeat' ((try (conv => whnf)); first | (with_reducible first | refine FCond.tA ?_ | refine FCond.fA ?_) | ((with_reducible refine FCond.i (fun hq => ?_) (fun hq => ?_)) <;> (try simp only [zA, zE, zD, zJ, zB, zI, Int.not_le, Int.not_lt] at hq)) | (with_reducible first | refine Fits.in64 (by omega) ?_ | refine FIdx.nat (by omega) ?_ | refine FIdx.int (by omega) ?_ | refine FTo.nat (by omega) ?_ | refine FTo.int (by omega) ?_) | ((with_reducible refine Need.mk ?_ ?_); focus exact needA) | (with_reducible refine FApp.grow ?_) | (refine FCall.pure ((tire_ok _ _)) ⟨Ln.sameB _ rfl, Ln.sameB _ rfl, True.intro⟩ rfl ?_) | (refine FCall.pure ((ease_ok _ _)) ⟨Ln.sameB _ rfl, Ln.sameB _ rfl, True.intro⟩ rfl ?_)))
      all_goals (try (conv => whnf))
      · rw [if_pos hq.symm] at hxj
        (refine ⟨⟨(j + 1), ?inv, ?mu, [0, 1], (by (refine Cut.of (Nat.le_of_ble_eq_true rfl) rfl rfl ?_; repeat (first | exact CutL.done | (refine CutL.turned rfl (by first | exact LnB.rowS | exact LnB.mix (by omega) | exact LnB.A) ?_) | (refine CutL.gone (Nat.lt_of_lt_of_le (Nat.lt_succ_self _) (Nat.le_of_ble_eq_true rfl)) ?_)))), allA⟩⟩)
        case inv => omega
        case mu => show _ < _; omega
      · rw [if_neg (Ne.symm hq)] at hxj
        (refine ⟨⟨(j + 1), ?inv, ?mu, [0, 1], (by (refine Cut.of (Nat.le_of_ble_eq_true rfl) rfl rfl ?_; repeat (first | exact CutL.done | (refine CutL.turned rfl (by first | exact LnB.rowS | exact LnB.mix (by omega) | exact LnB.A) ?_) | (refine CutL.gone (Nat.lt_of_lt_of_le (Nat.lt_succ_self _) (Nat.le_of_ble_eq_true rfl)) ?_)))), allA⟩⟩)
        case inv => omega
        case mu => show _ < _; omega
    · (repeat' ((try (conv => whnf)); first | (with_reducible first | refine FCond.tA ?_ | refine FCond.fA ?_) | ((with_reducible refine FCond.i (fun hq => ?_) (fun hq => ?_)) <;> (try simp only [zA, zE, zD, zJ, zB, zI, Int.not_le, Int.not_lt] at hq)) | (with_reducible first | refine Fits.in64 (by omega) ?_ | refine FIdx.nat (by omega) ?_ | refine FIdx.int (by omega) ?_ | refine FTo.nat (by omega) ?_ | refine FTo.int (by omega) ?_) | ((with_reducible refine Need.mk ?_ ?_); focus exact needA) | (with_reducible refine FApp.grow ?_)))
      (try (conv => whnf))
      rw [← hN]
      have hL : (signNow t b x now).length = t.hands.length := by rw [signNow, nextW_len]; exact hn
      exact ⟨⟨_, _, [0, 1], Cut.of (Nat.le_of_ble_eq_true rfl) rfl rfl (CutL.turned rfl LnB.A (CutL.turned rfl (LnB.rowE (Nat.le_refl _) fun k hk o ho => int_eq (mixF_all (by omega) (by omega)).symm) CutL.done)), Ln.sameB _ rfl, rfl, rfl⟩⟩
end Go.Proofs.Ytomkjfhepfinhaa

namespace Go.Proofs.Ytomkjfhepfinhaa
open Go.RowKit Go.Shelf

attribute [local go_sem] Oper.semAt_some

theorem arr1 {cs : Array Value} {v : Value} {n : Nat} (h : cs.size = n) (hp : cs.getD 0 undef = v) (hn : n = 1 := by rfl) : cs = #[v] := by
  subst hn
  have h0 : 0 < cs.size := by omega
  have h1 : cs[0] = v := by simpa [h0] using hp
  apply Array.ext
  · simpa using h
  · intro i h2 h3
    obtain rfl : i = 0 := by simp at h3; omega
    simpa using h1

set_option maxRecDepth 100000 in
set_option maxHeartbeats 2000000 in
theorem backward_it (z e : Bool) (l : List Int) (hl : l.length ≤ 1000) : AIter Try.prog 79 [.ip 1 (ofL [aInts z e l]) 0] ((List.range l.length).map fun k => [AI ((l.length - 1 - k : Nat) : Int), AI (l.getD (l.length - 1 - k) 0)]) := by
  refine ⟨⟨_, Try.func79, by decide, rfl⟩, fun M w0 cs hcs hreps lp J Jx W hW hJ hJx hY h0 => ?_⟩
  obtain ⟨Bs, off, hp, hb, hMn, hc⟩ := hreps 0 _ rfl
  obtain ⟨u, hcell, _, A, cap, rfl, hz, hnil, _, hcap, hel⟩ := hc 0 (by omega)
  rw [Nat.add_zero] at hcell hp
  obtain rfl := arr1 hcs hp
  have wn : Wd none = Fence.wide := rfl
  rw [wn] at hY ⊢
  refine callsIn_of_wp Try.func79 rfl trivial ?_ rfl
  simp only [Try.ntmps79, List.size_toArray, List.length_cons, List.length_nil, Nat.reduceAdd, Nat.reduceSub, Array.replicate_succ, Array.replicate_zero, List.push_toArray, List.append_toArray, List.nil_append, List.cons_append]
  have hcell0 := (hW.cell hb hMn).trans hcell
  gi_wp2
  gi_loopw [3] (fun i wr => ∃ k : Nat, k ≤ l.length ∧ i = .int .i64 ((l.length : Int) - 1 - k) ∧ J k wr ∧ Chg M w0 wr)
    (fun i _ => (intOf i + 1).toNat)
  case atStart => exact ⟨0, Nat.zero_le _, by simp, h0, hW⟩
  case round =>
    obtain ⟨k, hk, rfl, hJk, hck⟩ := hrel
    have hcellk := (hck.cell hb hMn).trans hcell
    by_cases hlt : k < l.length
    · obtain ⟨b, off', u, hA, hb', hn', hcu, _, hu⟩ := hel (l.length - 1 - k) (by omega) 0 (by omega)
      obtain ⟨xv, hxv⟩ : ∃ x, x = l.getD (l.length - 1 - k) 0 := ⟨_, rfl⟩
      have hu2 : u = .int .i64 xv := by rw [hxv]; exact hu
      clear hu
      subst hu2
      subst hA
      obtain ⟨fn, tmps, assign, body, hy, hR⟩ := hY k #[.int .i64 ((l.length : Int) - 1 - k), .int .i64 xv] wr (by simpa using hlt) hJk hck (by simp [List.getD, hlt]) (fun i x hx => by
        have e1 : ((l.length - 1 - k : Nat) : Int) = (l.length : Int) - 1 - k := by omega
        simp only [List.getD, List.getElem?_map, List.getElem?_range hlt, Option.map_some, Option.getD_some] at hx
        match i, hx with
        | 0, hx => cases hx; rw [e1]; rfl
        | 1, hx => cases hx; rw [hxv]; rfl)
      have hcuk := (hck.cell hb' hn').trans hcu
      rw [Nat.mul_one, Nat.add_zero] at hcuk
      clear hxv hcu
      gi_wp2
      refine ⟨rfl, hR.mono ?_⟩
      rintro e W3 (⟨rfl, hJ3, hk3⟩ | ⟨rfl, hJx3⟩)
      · gi_wp2
        go_roundw
        case rel => exact ⟨k + 1, by omega, by congr 1; omega, hJ3, hck.trans hk3 (fun _ _ h => h)⟩
        case measure => simp [intOf]; omega
      · gi_wp2
        refine bodyPost_ret (results_none rfl _ _ _) rfl ?_
        exact ⟨⟨_, rfl⟩, .inr ⟨k, by simpa using hlt, hJx3⟩⟩
    · obtain rfl : k = l.length := by omega
      gi_wp2
      go_end0
      exact ⟨⟨_, rfl⟩, .inl (by simpa using hJk)⟩
end Go.Proofs.Ytomkjfhepfinhaa
