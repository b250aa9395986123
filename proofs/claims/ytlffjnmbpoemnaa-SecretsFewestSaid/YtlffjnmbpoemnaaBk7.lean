/- Secrets: forms of values; small functions of the reference. / Secrets: Check, CheckMask and CheckPlace of the reference. / Secrets: Check, open, spot of the program. / Secrets: Check, open and spot of the program. / Secrets: open and spot; an opened sheet. / Secrets: the reference's Sums. / Secrets: the reference's same. -/
import Derived.Test.YtlffjnmbpoemnaaProg
import Derived.Test.YtlffjnmbpoemnaaBk6
import Derived.KernelRfl
set_option linter.unusedSimpArgs false
set_option linter.unusedVariables false
namespace Go.Proofs.Ytlffjnmbpoemnaa
open Go.RowKit

theorem mixed : Try.prog.follows .mixedOrders = true := by kernel_rfl
abbrev AI (n : Int) : AV := .int .i64 n
abbrev AU (n : Nat) : AV := .int .u64 n
abbrev aInts (z e : Bool) (l : List Int) : AV := .sl z e l.length 1 (fun k _ => AI (l.getD k 0))
abbrev nilS : AV := .sl true true 0 0 (fun _ _ => .bot)
abbrev aRows (z e : Bool) (rz re : Nat → Bool) (l : List (List Int)) : AV := .sl z e l.length 1 (fun k _ => aInts (rz k) (re k) (l.getD k []))
structure ShF where
  za : Bool
  ea : Bool
  rz : Nat → Bool
  re : Nat → Bool
  zs : Bool
  es : Bool
abbrev cSh (f : ShF) (s : Sheet) : Nat → AV := ofL [aRows f.za f.ea f.rz f.re s.amounts, aInts f.zs f.es s.secret, AI s.gap]
abbrev aSh (f : ShF) (s : Sheet) : AV := .agg 3 (cSh f s)
theorem int_eq {k : IntKind} {a b : Int} (h : a = b) : AV.int k a = AV.int k b := by rw [h]
theorem bool_eq {a b : Bool} (h : a = b) : AV.bool a = AV.bool b := by rw [h]
theorem drop_eq {α : Type} {l : List α} {i : Nat} (d : α) (h : i < l.length) : l.drop i = l.getD i d :: l.drop (i + 1) := by
  rw [List.drop_eq_getElem_cons h]; simp [List.getD, List.getElem?_eq_getElem h]
theorem all_step {α : Type} {p : α → Bool} {l : List α} {i : Nat} (d : α) (h : i < l.length) (e : l.all p = (l.drop i).all p) (hp : p (l.getD i d) = true) : l.all p = (l.drop (i + 1)).all p := by
  rw [e, drop_eq d h, List.all_cons, hp, Bool.true_and]
theorem all_no {α : Type} {p : α → Bool} {l : List α} {i : Nat} (d : α) (h : i < l.length) (e : l.all p = (l.drop i).all p) (hp : p (l.getD i d) = false) : l.all p = false := by
  rw [e, drop_eq d h, List.all_cons, hp, Bool.false_and]
theorem all_end {α : Type} {p : α → Bool} {l : List α} {i : Nat} (h : l.length ≤ i) (e : l.all p = (l.drop i).all p) : l.all p = true := by
  rw [e, List.drop_eq_nil_of_le h]; rfl
set_option maxHeartbeats 4000000
set_option maxRecDepth 100000
theorem within_ok (n lo hi : Int) : ACall Try.prog 42 [AI n, AI lo, AI hi] [] (fun r h => r = .bool (inB n lo hi) ∧ h = []) := by
  (refine fcall_of mixed Try.func42 rfl (by decide) (hs := {}) ?k (ac := ?ac) ?c (rs := ?rs) ?r ?l ?H; (case k => kernel_rfl); (case c => (conv => (lhs; cbv))); (case r => (conv => (lhs; cbv))); (case l => exact Nat.le_of_ble_eq_true rfl))
  (repeat' ((try (conv => whnf)); first | (with_reducible first | refine FCond.tA ?_ | refine FCond.fA ?_) | ((with_reducible refine FCond.i (fun hq => ?_) (fun hq => ?_)) <;> (try simp only [zA, zE, zD, zJ, zB, zI, Int.not_le, Int.not_lt] at hq)) | (with_reducible first | refine Fits.in64 (by omega) ?_ | refine FIdx.nat (by omega) ?_ | refine FIdx.int (by omega) ?_ | refine FTo.nat (by omega) ?_ | refine FTo.int (by omega) ?_) | ((with_reducible refine Need.mk ?_ ?_); focus exact needA) | (with_reducible refine FApp.grow ?_) | (with_reducible refine FOr.pub ?_)))
  all_goals ((refine ⟨⟨_, [], [], Cut.nil _, Ln.sameB _ rfl, ?_, rfl⟩⟩); unfold inB; (exact avB))
theorem has_ok (s n : Nat) (hn : n ≤ 64) : ACall Try.prog 54 [AI s, AI n] [] (fun r h => r = .bool (s.testBit n) ∧ h = []) := by
  (refine fcall_of mixed Try.func54 rfl (by decide) (hs := {}) ?k (ac := ?ac) ?c (rs := ?rs) ?r ?l ?H; (case k => kernel_rfl); (case c => (conv => (lhs; cbv))); (case r => (conv => (lhs; cbv))); (case l => exact Nat.le_of_ble_eq_true rfl))
  (repeat' ((try (conv => whnf)); first | (with_reducible first | refine FCond.tA ?_ | refine FCond.fA ?_) | ((with_reducible refine FCond.i (fun hq => ?_) (fun hq => ?_)) <;> (try simp only [zA, zE, zD, zJ, zB, zI, Int.not_le, Int.not_lt] at hq)) | (with_reducible first | refine Fits.in64 (by omega) ?_ | refine FIdx.nat (by omega) ?_ | refine FIdx.int (by omega) ?_ | refine FTo.nat (by omega) ?_ | refine FTo.int (by omega) ?_) | ((with_reducible refine Need.mk ?_ ?_); focus exact needA) | (with_reducible first | refine FBit.hasT rfl (by assumption) ?_ | refine FBit.hasF rfl (by assumption) ?_ | refine FBit.shrN rfl (by omega) ?_ | refine FBit.half rfl ?_ | refine FBit.shl1 rfl (by omega) ?_ | refine Fits.inU (by omega) ?_ | refine FBit.shrNI rfl (by omega) ?_ | refine FBit.shrIN rfl (by omega) (by omega) ?_ | refine FBit.shrI rfl (by omega) (by omega) ?_ | refine FBit.shl1I rfl (by omega) ?_) | (with_reducible refine FBit.has rfl (fun hq => ?_) (fun hq => ?_)) | (with_reducible first | refine FBit.and1 rfl ?_ | refine FBit.andN rfl (by omega) (by omega) ?_ | refine FBit.orN rfl (by omega) (by omega) ?_ | refine FBit.andNotN rfl (by omega) (by omega) ?_) | (with_reducible refine FApp.grow ?_) | (with_reducible refine FOr.pub ?_)))
  all_goals ((refine ⟨⟨_, [], [], Cut.nil _, Ln.sameB _ rfl, ?_, rfl⟩⟩); rw [hq]; rfl)
theorem columns_ok (f : ShF) (s : Sheet) (hr : 0 < s.R) : ACall Try.prog 19 [aSh f s] [] (fun r h => r = AI s.C ∧ h = []) := by
  have hr' : 0 < s.amounts.length := hr
  (refine fcall_of mixed Try.func19 rfl (by decide) (hs := {}) ?k (ac := ?ac) ?c (rs := ?rs) ?r ?l ?H; (case k => kernel_rfl); (case c => (conv => (lhs; cbv))); (case r => (conv => (lhs; cbv))); (case l => exact Nat.le_of_ble_eq_true rfl))
  (repeat' ((try (conv => whnf)); first | (with_reducible first | refine FCond.tA ?_ | refine FCond.fA ?_) | ((with_reducible refine FCond.i (fun hq => ?_) (fun hq => ?_)) <;> (try simp only [zA, zE, zD, zJ, zB, zI, Int.not_le, Int.not_lt] at hq)) | (with_reducible first | refine Fits.in64 (by omega) ?_ | refine FIdx.nat (by omega) ?_ | refine FIdx.int (by omega) ?_ | refine FTo.nat (by omega) ?_ | refine FTo.int (by omega) ?_) | ((with_reducible refine Need.mk ?_ ?_); focus exact needA) | (with_reducible refine FApp.grow ?_) | (with_reducible refine FOr.pub ?_)))
  all_goals (try (conv => whnf))
  all_goals ((refine ⟨⟨_, [], [], Cut.nil _, Ln.sameB _ rfl, ?_, rfl⟩⟩); rfl)
theorem isMask_ok (f : ShF) (s : Sheet) (hr : 0 < s.R) (hn : Near s) (z e : Bool) (m : List Int) (hm : m.length ≤ 1000) : ACall Try.prog 24 [aSh f s, aInts z e m] [] (fun r h => r = .bool (maskS s m) ∧ h = []) := by
  have cC := columns_ok f s hr
  have c20 := hn.C
  have r20 := hn.r
  have hR : s.R = s.amounts.length := rfl
  have hp := Nat.pow_le_pow_right (show 0 < 2 by decide) c20
  have hpos := Nat.two_pow_pos s.C
  (refine fcall_of mixed Try.func24 rfl (by decide) (hs := { ord := [(4, [(0, []), (1, []), (2, []), (3, []), (4, []), (5, [3]), (6, []), (7, []), (8, []), (9, []), (10, [])])] }) ?k (ac := ?ac) ?c (rs := ?rs) ?r ?l ?H; (case k => kernel_rfl); (case c => (conv => (lhs; cbv))); (case r => (conv => (lhs; cbv))); (case l => exact Nat.le_of_ble_eq_true rfl))
  (repeat' ((try (conv => whnf)); first | (with_reducible first | refine FCond.tA ?_ | refine FCond.fA ?_) | ((with_reducible refine FCond.i (fun hq => ?_) (fun hq => ?_)) <;> (try simp only [zA, zE, zD, zJ, zB, zI, Int.not_le, Int.not_lt] at hq)) | (with_reducible first | refine Fits.in64 (by omega) ?_ | refine FIdx.nat (by omega) ?_ | refine FIdx.int (by omega) ?_ | refine FTo.nat (by omega) ?_ | refine FTo.int (by omega) ?_) | ((with_reducible refine Need.mk ?_ ?_); focus exact needA) | (with_reducible first | refine FBit.hasT rfl (by assumption) ?_ | refine FBit.hasF rfl (by assumption) ?_ | refine FBit.shrN rfl (by omega) ?_ | refine FBit.half rfl ?_ | refine FBit.shl1 rfl (by omega) ?_ | refine Fits.inU (by omega) ?_ | refine FBit.shrNI rfl (by omega) ?_ | refine FBit.shrIN rfl (by omega) (by omega) ?_ | refine FBit.shrI rfl (by omega) (by omega) ?_ | refine FBit.shl1I rfl (by omega) ?_) | (with_reducible refine FBit.has rfl (fun hq => ?_) (fun hq => ?_)) | (with_reducible first | refine FBit.and1 rfl ?_ | refine FBit.andN rfl (by omega) (by omega) ?_ | refine FBit.orN rfl (by omega) (by omega) ?_ | refine FBit.andNotN rfl (by omega) (by omega) ?_) | (with_reducible refine FApp.grow ?_) | (with_reducible refine FOr.pub ?_)))
  all_goals (try (conv => whnf))
  refine FLoop.of (ACalls.mono _) (X := Nat) (fun r => [(1, aInts z e m), (2, .ptr 0 0), (5, AI r)]) (fun r => [.box 3 (cSh f s)]) (fun r => r ≤ m.length ∧ m.all (fun x => inB x 0 (((2 ^ s.C : Nat) : Int) - 1)) = (m.drop r).all fun x => inB x 0 (((2 ^ s.C : Nat) : Int) - 1)) (fun r => m.length - r) 0 ⟨⟨Nat.zero_le _, rfl⟩, [0], Cut.A, allA⟩ ?_
  rintro r ⟨hr1, hr2⟩
  by_cases hlt : r < m.length
  · have cW := within_ok (m.getD r 0) 0 (((2 ^ s.C : Nat) : Int) - 1)
    cases hw : inB (m.getD r 0) 0 (((2 ^ s.C : Nat) : Int) - 1)
    · rw [hw] at cW
      have hf : maskS s m = false := by unfold maskS; rw [all_no (0 : Int) hlt hr2 hw, Bool.false_and]
      rw [hf]
      (repeat' ((try (conv => whnf)); first | (with_reducible first | refine FCond.tA ?_ | refine FCond.fA ?_) | ((with_reducible refine FCond.i (fun hq => ?_) (fun hq => ?_)) <;> (try simp only [zA, zE, zD, zJ, zB, zI, Int.not_le, Int.not_lt] at hq)) | (with_reducible first | refine Fits.in64 (by omega) ?_ | refine FIdx.nat (by omega) ?_ | refine FIdx.int (by omega) ?_ | refine FTo.nat (by omega) ?_ | refine FTo.int (by omega) ?_) | ((with_reducible refine Need.mk ?_ ?_); focus exact needA) | (with_reducible first | refine FBit.hasT rfl (by assumption) ?_ | refine FBit.hasF rfl (by assumption) ?_ | refine FBit.shrN rfl (by omega) ?_ | refine FBit.half rfl ?_ | refine FBit.shl1 rfl (by omega) ?_ | refine Fits.inU (by omega) ?_ | refine FBit.shrNI rfl (by omega) ?_ | refine FBit.shrIN rfl (by omega) (by omega) ?_ | refine FBit.shrI rfl (by omega) (by omega) ?_ | refine FBit.shl1I rfl (by omega) ?_) | (with_reducible refine FBit.has rfl (fun hq => ?_) (fun hq => ?_)) | (with_reducible first | refine FBit.and1 rfl ?_ | refine FBit.andN rfl (by omega) (by omega) ?_ | refine FBit.orN rfl (by omega) (by omega) ?_ | refine FBit.andNotN rfl (by omega) (by omega) ?_) | (with_reducible refine FApp.grow ?_) | (refine FCall.pure (cC) ⟨Ln.sameB _ rfl, True.intro⟩ rfl ?_) | (refine FCall.pure (cW) ⟨Ln.sameB _ rfl, Ln.sameB _ rfl, Ln.sameB _ rfl, True.intro⟩ rfl ?_) | (with_reducible refine FOr.pub ?_)))
      all_goals (try (conv => whnf))
      all_goals ((refine ⟨⟨_, [], [], Cut.nil _, Ln.sameB _ rfl, ?_, rfl⟩⟩); rfl)
    · rw [hw] at cW
      (repeat' ((try (conv => whnf)); first | (with_reducible first | refine FCond.tA ?_ | refine FCond.fA ?_) | ((with_reducible refine FCond.i (fun hq => ?_) (fun hq => ?_)) <;> (try simp only [zA, zE, zD, zJ, zB, zI, Int.not_le, Int.not_lt] at hq)) | (with_reducible first | refine Fits.in64 (by omega) ?_ | refine FIdx.nat (by omega) ?_ | refine FIdx.int (by omega) ?_ | refine FTo.nat (by omega) ?_ | refine FTo.int (by omega) ?_) | ((with_reducible refine Need.mk ?_ ?_); focus exact needA) | (with_reducible first | refine FBit.hasT rfl (by assumption) ?_ | refine FBit.hasF rfl (by assumption) ?_ | refine FBit.shrN rfl (by omega) ?_ | refine FBit.half rfl ?_ | refine FBit.shl1 rfl (by omega) ?_ | refine Fits.inU (by omega) ?_ | refine FBit.shrNI rfl (by omega) ?_ | refine FBit.shrIN rfl (by omega) (by omega) ?_ | refine FBit.shrI rfl (by omega) (by omega) ?_ | refine FBit.shl1I rfl (by omega) ?_) | (with_reducible refine FBit.has rfl (fun hq => ?_) (fun hq => ?_)) | (with_reducible first | refine FBit.and1 rfl ?_ | refine FBit.andN rfl (by omega) (by omega) ?_ | refine FBit.orN rfl (by omega) (by omega) ?_ | refine FBit.andNotN rfl (by omega) (by omega) ?_) | (with_reducible refine FApp.grow ?_) | (refine FCall.pure (cC) ⟨Ln.sameB _ rfl, True.intro⟩ rfl ?_) | (refine FCall.pure (cW) ⟨Ln.sameB _ rfl, Ln.sameB _ rfl, Ln.sameB _ rfl, True.intro⟩ rfl ?_) | (with_reducible refine FOr.pub ?_)))
      all_goals (try (conv => whnf))
      exact ⟨⟨r + 1, ⟨hlt, all_step (0 : Int) hlt hr2 hw⟩, by omega, [0], Cut.A, allA⟩⟩
  · have hv : maskS s m = decide (m.length = s.amounts.length) := by unfold maskS; rw [all_end (by omega) hr2, Bool.true_and]; rfl
    rw [hv]
    (repeat' ((try (conv => whnf)); first | (with_reducible first | refine FCond.tA ?_ | refine FCond.fA ?_) | ((with_reducible refine FCond.i (fun hq => ?_) (fun hq => ?_)) <;> (try simp only [zA, zE, zD, zJ, zB, zI, Int.not_le, Int.not_lt] at hq)) | (with_reducible first | refine Fits.in64 (by omega) ?_ | refine FIdx.nat (by omega) ?_ | refine FIdx.int (by omega) ?_ | refine FTo.nat (by omega) ?_ | refine FTo.int (by omega) ?_) | ((with_reducible refine Need.mk ?_ ?_); focus exact needA) | (with_reducible first | refine FBit.hasT rfl (by assumption) ?_ | refine FBit.hasF rfl (by assumption) ?_ | refine FBit.shrN rfl (by omega) ?_ | refine FBit.half rfl ?_ | refine FBit.shl1 rfl (by omega) ?_ | refine Fits.inU (by omega) ?_ | refine FBit.shrNI rfl (by omega) ?_ | refine FBit.shrIN rfl (by omega) (by omega) ?_ | refine FBit.shrI rfl (by omega) (by omega) ?_ | refine FBit.shl1I rfl (by omega) ?_) | (with_reducible refine FBit.has rfl (fun hq => ?_) (fun hq => ?_)) | (with_reducible first | refine FBit.and1 rfl ?_ | refine FBit.andN rfl (by omega) (by omega) ?_ | refine FBit.orN rfl (by omega) (by omega) ?_ | refine FBit.andNotN rfl (by omega) (by omega) ?_) | (with_reducible refine FApp.grow ?_) | (with_reducible refine FOr.pub ?_)))
    all_goals (try (conv => whnf))
    all_goals ((refine ⟨⟨_, [], [], Cut.nil _, Ln.sameB _ rfl, ?_, rfl⟩⟩); exact bool_eq (decide_eq_decide.2 (by omega)))
end Go.Proofs.Ytlffjnmbpoemnaa

namespace Go.Proofs.Ytlffjnmbpoemnaa
open Go.RowKit

def placeOk (s : Sheet) (r c : Int) : Bool := inB r 0 (s.R - 1) && inB c 0 (s.C - 1)
def checkP (s : Sheet) (m : List Int) (r c : Int) : Int := if checkM s m = 0 then (if placeOk s r c then 0 else 1) else checkM s m
set_option maxHeartbeats 8000000
set_option maxRecDepth 100000
theorem refCheck_ok (f : ShF) (s : Sheet) (hn : Near s) : ACall Try.prog 31 [aSh f s] [] (fun r h => r = AI (checkS s) ∧ h = []) := by
  have c20 := hn.C
  have r20 := hn.r
  have hR : s.R = s.amounts.length := rfl
  have w1 := within_ok (s.amounts.length : Int) 1 4
  have w2 := within_ok (s.C : Int) 1 4
  have w3 := within_ok s.gap 1 1000
  (refine fcall_of mixed Try.func31 rfl (by decide) (hs := { ord := [(6, [(0, []), (1, []), (2, []), (3, []), (4, []), (5, []), (6, []), (7, [1, 4]), (8, [])])] }) ?k (ac := ?ac) ?c (rs := ?rs) ?r ?l ?H; (case k => kernel_rfl); (case c => (conv => (lhs; cbv))); (case r => (conv => (lhs; cbv))); (case l => exact Nat.le_of_ble_eq_true rfl))
  cases a1 : inB (s.amounts.length : Int) 1 4
  · rw [a1] at w1
    have hf : s.ok = false := by unfold Sheet.ok Sheet.head; rw [show inB (s.R : Int) 1 4 = false from a1]; rfl
    rw [check_80 hf]
    (repeat' ((try (conv => whnf)); first | (with_reducible first | refine FCond.tA ?_ | refine FCond.fA ?_) | ((with_reducible refine FCond.i (fun hq => ?_) (fun hq => ?_)) <;> (try simp only [zA, zE, zD, zJ, zB, zI, Int.not_le, Int.not_lt] at hq)) | (with_reducible first | refine Fits.in64 (by omega) ?_ | refine FIdx.nat (by omega) ?_ | refine FIdx.int (by omega) ?_ | refine FTo.nat (by omega) ?_ | refine FTo.int (by omega) ?_) | ((with_reducible refine Need.mk ?_ ?_); focus exact needA) | (with_reducible refine FApp.grow ?_) | (refine FCall.pure (w1) ⟨Ln.sameB _ rfl, Ln.sameB _ rfl, Ln.sameB _ rfl, True.intro⟩ rfl ?_) | (with_reducible refine FOr.pub ?_)))
    all_goals (try (conv => whnf))
    all_goals ((refine ⟨⟨_, [], [], Cut.nil _, Ln.sameB _ rfl, ?_, rfl⟩⟩); rfl)
  have hr : 0 < s.R := by have := of_decide_eq_true a1; omega
  have cC := columns_ok f s hr
  rw [a1] at w1
  cases a2 : inB (s.C : Int) 1 4
  · rw [a2] at w2
    have hf : s.ok = false := by unfold Sheet.ok Sheet.head; rw [a2]; simp
    rw [check_80 hf]
    (repeat' ((try (conv => whnf)); first | (with_reducible first | refine FCond.tA ?_ | refine FCond.fA ?_) | ((with_reducible refine FCond.i (fun hq => ?_) (fun hq => ?_)) <;> (try simp only [zA, zE, zD, zJ, zB, zI, Int.not_le, Int.not_lt] at hq)) | (with_reducible first | refine Fits.in64 (by omega) ?_ | refine FIdx.nat (by omega) ?_ | refine FIdx.int (by omega) ?_ | refine FTo.nat (by omega) ?_ | refine FTo.int (by omega) ?_) | ((with_reducible refine Need.mk ?_ ?_); focus exact needA) | (with_reducible refine FApp.grow ?_) | (refine FCall.pure (w1) ⟨Ln.sameB _ rfl, Ln.sameB _ rfl, Ln.sameB _ rfl, True.intro⟩ rfl ?_) | (refine FCall.pure (cC) ⟨Ln.sameB _ rfl, True.intro⟩ rfl ?_) | (refine FCall.pure (w2) ⟨Ln.sameB _ rfl, Ln.sameB _ rfl, Ln.sameB _ rfl, True.intro⟩ rfl ?_) | (with_reducible refine FOr.pub ?_)))
    all_goals (try (conv => whnf))
    all_goals ((refine ⟨⟨_, [], [], Cut.nil _, Ln.sameB _ rfl, ?_, rfl⟩⟩); rfl)
  rw [a2] at w2
  cases a3 : inB s.gap 1 1000
  · rw [a3] at w3
    have hf : s.ok = false := by unfold Sheet.ok Sheet.head; rw [a3]; simp
    rw [check_80 hf]
    (repeat' ((try (conv => whnf)); first | (with_reducible first | refine FCond.tA ?_ | refine FCond.fA ?_) | ((with_reducible refine FCond.i (fun hq => ?_) (fun hq => ?_)) <;> (try simp only [zA, zE, zD, zJ, zB, zI, Int.not_le, Int.not_lt] at hq)) | (with_reducible first | refine Fits.in64 (by omega) ?_ | refine FIdx.nat (by omega) ?_ | refine FIdx.int (by omega) ?_ | refine FTo.nat (by omega) ?_ | refine FTo.int (by omega) ?_) | ((with_reducible refine Need.mk ?_ ?_); focus exact needA) | (with_reducible refine FApp.grow ?_) | (refine FCall.pure (w1) ⟨Ln.sameB _ rfl, Ln.sameB _ rfl, Ln.sameB _ rfl, True.intro⟩ rfl ?_) | (refine FCall.pure (cC) ⟨Ln.sameB _ rfl, True.intro⟩ rfl ?_) | (refine FCall.pure (w2) ⟨Ln.sameB _ rfl, Ln.sameB _ rfl, Ln.sameB _ rfl, True.intro⟩ rfl ?_) | (refine FCall.pure (w3) ⟨Ln.sameB _ rfl, Ln.sameB _ rfl, Ln.sameB _ rfl, True.intro⟩ rfl ?_) | (with_reducible refine FOr.pub ?_)))
    all_goals (try (conv => whnf))
    all_goals ((refine ⟨⟨_, [], [], Cut.nil _, Ln.sameB _ rfl, ?_, rfl⟩⟩); rfl)
  rw [a3] at w3
  have w4 := isMask_ok f s hr hn f.zs f.es s.secret (by have := hn.m; omega)
  cases a4 : maskS s s.secret
  · rw [a4] at w4
    have hf : s.ok = false := by unfold Sheet.ok Sheet.head; rw [a4]; simp
    rw [check_80 hf]
    (repeat' ((try (conv => whnf)); first | (with_reducible first | refine FCond.tA ?_ | refine FCond.fA ?_) | ((with_reducible refine FCond.i (fun hq => ?_) (fun hq => ?_)) <;> (try simp only [zA, zE, zD, zJ, zB, zI, Int.not_le, Int.not_lt] at hq)) | (with_reducible first | refine Fits.in64 (by omega) ?_ | refine FIdx.nat (by omega) ?_ | refine FIdx.int (by omega) ?_ | refine FTo.nat (by omega) ?_ | refine FTo.int (by omega) ?_) | ((with_reducible refine Need.mk ?_ ?_); focus exact needA) | (with_reducible refine FApp.grow ?_) | (refine FCall.pure (w1) ⟨Ln.sameB _ rfl, Ln.sameB _ rfl, Ln.sameB _ rfl, True.intro⟩ rfl ?_) | (refine FCall.pure (cC) ⟨Ln.sameB _ rfl, True.intro⟩ rfl ?_) | (refine FCall.pure (w2) ⟨Ln.sameB _ rfl, Ln.sameB _ rfl, Ln.sameB _ rfl, True.intro⟩ rfl ?_) | (refine FCall.pure (w3) ⟨Ln.sameB _ rfl, Ln.sameB _ rfl, Ln.sameB _ rfl, True.intro⟩ rfl ?_) | (refine FCall.pure (w4) ⟨Ln.sameB _ rfl, Ln.sameB _ rfl, True.intro⟩ rfl ?_) | (with_reducible refine FOr.pub ?_)))
    all_goals (try (conv => whnf))
    all_goals ((refine ⟨⟨_, [], [], Cut.nil _, Ln.sameB _ rfl, ?_, rfl⟩⟩); rfl)
  rw [a4] at w4
  have hhd : s.head = true := by unfold Sheet.head; rw [show inB (s.R : Int) 1 4 = true from a1, a2, a3, a4]; rfl
  (repeat' ((try (conv => whnf)); first | (with_reducible first | refine FCond.tA ?_ | refine FCond.fA ?_) | ((with_reducible refine FCond.i (fun hq => ?_) (fun hq => ?_)) <;> (try simp only [zA, zE, zD, zJ, zB, zI, Int.not_le, Int.not_lt] at hq)) | (with_reducible first | refine Fits.in64 (by omega) ?_ | refine FIdx.nat (by omega) ?_ | refine FIdx.int (by omega) ?_ | refine FTo.nat (by omega) ?_ | refine FTo.int (by omega) ?_) | ((with_reducible refine Need.mk ?_ ?_); focus exact needA) | (with_reducible refine FApp.grow ?_) | (refine FCall.pure (w1) ⟨Ln.sameB _ rfl, Ln.sameB _ rfl, Ln.sameB _ rfl, True.intro⟩ rfl ?_) | (refine FCall.pure (cC) ⟨Ln.sameB _ rfl, True.intro⟩ rfl ?_) | (refine FCall.pure (w2) ⟨Ln.sameB _ rfl, Ln.sameB _ rfl, Ln.sameB _ rfl, True.intro⟩ rfl ?_) | (refine FCall.pure (w3) ⟨Ln.sameB _ rfl, Ln.sameB _ rfl, Ln.sameB _ rfl, True.intro⟩ rfl ?_) | (refine FCall.pure (w4) ⟨Ln.sameB _ rfl, Ln.sameB _ rfl, True.intro⟩ rfl ?_) | (with_reducible refine FOr.pub ?_)))
  all_goals (try (conv => whnf))
  refine FLoop.of (ACalls.mono _) (X := Nat) (fun r => [(1, .ptr 0 0), (3, AI r)]) (fun r => [.box 3 (cSh f s)]) (fun r => r ≤ s.amounts.length ∧ s.amounts.all (rowS s.C) = (s.amounts.drop r).all (rowS s.C)) (fun r => s.amounts.length - r) 0 ⟨⟨Nat.zero_le _, rfl⟩, [0], Cut.A, allA⟩ ?_
  rintro r ⟨hr1, hr2⟩
  by_cases hlt : r < s.amounts.length
  · have hl20 := hn.c r
    by_cases hlen : (s.amounts.getD r []).length = s.C
    · (repeat' ((try (conv => whnf)); first | (with_reducible first | refine FCond.tA ?_ | refine FCond.fA ?_) | ((with_reducible refine FCond.i (fun hq => ?_) (fun hq => ?_)) <;> (try simp only [zA, zE, zD, zJ, zB, zI, Int.not_le, Int.not_lt] at hq)) | (with_reducible first | refine Fits.in64 (by omega) ?_ | refine FIdx.nat (by omega) ?_ | refine FIdx.int (by omega) ?_ | refine FTo.nat (by omega) ?_ | refine FTo.int (by omega) ?_) | ((with_reducible refine Need.mk ?_ ?_); focus exact needA) | (with_reducible refine FApp.grow ?_) | (refine FCall.pure (cC) ⟨Ln.sameB _ rfl, True.intro⟩ rfl ?_) | (with_reducible refine FOr.pub ?_)))
      all_goals (try (conv => whnf))
      refine FLoop.of (ACalls.mono _) (X := Nat) (fun c => [(1, .ptr 0 0), (3, AI r), (4, AI c)]) (fun c => [.box 3 (cSh f s)]) (fun c => c ≤ (s.amounts.getD r []).length ∧ (s.amounts.getD r []).all (fun x => inB x 0 10000) = ((s.amounts.getD r []).drop c).all (fun x => inB x 0 10000)) (fun c => (s.amounts.getD r []).length - c) 0 ⟨⟨Nat.zero_le _, rfl⟩, [0], Cut.A, allA⟩ ?_
      rintro c ⟨hc1, hc2⟩
      by_cases hltc : c < (s.amounts.getD r []).length
      · have cW := within_ok ((s.amounts.getD r []).getD c 0) 0 10000
        cases hw : inB ((s.amounts.getD r []).getD c 0) 0 10000
        · rw [hw] at cW
          have hf : s.ok = false := by
            unfold Sheet.ok
            rw [all_no [] hlt hr2 (by unfold rowS; rw [all_no (0 : Int) hltc hc2 hw, Bool.and_false]), Bool.and_false]
          rw [check_80 hf]
          (repeat' ((try (conv => whnf)); first | (with_reducible first | refine FCond.tA ?_ | refine FCond.fA ?_) | ((with_reducible refine FCond.i (fun hq => ?_) (fun hq => ?_)) <;> (try simp only [zA, zE, zD, zJ, zB, zI, Int.not_le, Int.not_lt] at hq)) | (with_reducible first | refine Fits.in64 (by omega) ?_ | refine FIdx.nat (by omega) ?_ | refine FIdx.int (by omega) ?_ | refine FTo.nat (by omega) ?_ | refine FTo.int (by omega) ?_) | ((with_reducible refine Need.mk ?_ ?_); focus exact needA) | (with_reducible refine FApp.grow ?_) | (refine FCall.pure (cW) ⟨Ln.sameB _ rfl, Ln.sameB _ rfl, Ln.sameB _ rfl, True.intro⟩ rfl ?_) | (with_reducible refine FOr.pub ?_)))
          all_goals (try (conv => whnf))
          all_goals ((refine ⟨⟨_, [], [], Cut.nil _, Ln.sameB _ rfl, ?_, rfl⟩⟩); rfl)
        · rw [hw] at cW
          (repeat' ((try (conv => whnf)); first | (with_reducible first | refine FCond.tA ?_ | refine FCond.fA ?_) | ((with_reducible refine FCond.i (fun hq => ?_) (fun hq => ?_)) <;> (try simp only [zA, zE, zD, zJ, zB, zI, Int.not_le, Int.not_lt] at hq)) | (with_reducible first | refine Fits.in64 (by omega) ?_ | refine FIdx.nat (by omega) ?_ | refine FIdx.int (by omega) ?_ | refine FTo.nat (by omega) ?_ | refine FTo.int (by omega) ?_) | ((with_reducible refine Need.mk ?_ ?_); focus exact needA) | (with_reducible refine FApp.grow ?_) | (refine FCall.pure (cW) ⟨Ln.sameB _ rfl, Ln.sameB _ rfl, Ln.sameB _ rfl, True.intro⟩ rfl ?_) | (with_reducible refine FOr.pub ?_)))
          all_goals (try (conv => whnf))
          all_goals exact ⟨⟨c + 1, ⟨hltc, all_step (0 : Int) hltc hc2 hw⟩, by omega, [0], Cut.A, allA⟩⟩
      · have hrow : rowS s.C (s.amounts.getD r []) = true := by unfold rowS; rw [decide_eq_true hlen, all_end (by omega) hc2]; rfl
        (repeat' ((try (conv => whnf)); first | (with_reducible first | refine FCond.tA ?_ | refine FCond.fA ?_) | ((with_reducible refine FCond.i (fun hq => ?_) (fun hq => ?_)) <;> (try simp only [zA, zE, zD, zJ, zB, zI, Int.not_le, Int.not_lt] at hq)) | (with_reducible first | refine Fits.in64 (by omega) ?_ | refine FIdx.nat (by omega) ?_ | refine FIdx.int (by omega) ?_ | refine FTo.nat (by omega) ?_ | refine FTo.int (by omega) ?_) | ((with_reducible refine Need.mk ?_ ?_); focus exact needA) | (with_reducible refine FApp.grow ?_) | (with_reducible refine FOr.pub ?_)))
        all_goals (try (conv => whnf))
        all_goals exact ⟨⟨r + 1, ⟨hlt, all_step [] hlt hr2 hrow⟩, by omega, [0], Cut.A, allA⟩⟩
    · have hf : s.ok = false := by
        unfold Sheet.ok
        rw [all_no [] hlt hr2 (by unfold rowS; rw [decide_eq_false hlen]; rfl), Bool.and_false]
      rw [check_80 hf]
      (repeat' ((try (conv => whnf)); first | (with_reducible first | refine FCond.tA ?_ | refine FCond.fA ?_) | ((with_reducible refine FCond.i (fun hq => ?_) (fun hq => ?_)) <;> (try simp only [zA, zE, zD, zJ, zB, zI, Int.not_le, Int.not_lt] at hq)) | (with_reducible first | refine Fits.in64 (by omega) ?_ | refine FIdx.nat (by omega) ?_ | refine FIdx.int (by omega) ?_ | refine FTo.nat (by omega) ?_ | refine FTo.int (by omega) ?_) | ((with_reducible refine Need.mk ?_ ?_); focus exact needA) | (with_reducible refine FApp.grow ?_) | (refine FCall.pure (cC) ⟨Ln.sameB _ rfl, True.intro⟩ rfl ?_) | (with_reducible refine FOr.pub ?_)))
      all_goals (try (conv => whnf))
      all_goals ((refine ⟨⟨_, [], [], Cut.nil _, Ln.sameB _ rfl, ?_, rfl⟩⟩); rfl)
  · have hv : s.ok = true := by unfold Sheet.ok; rw [hhd, all_end (by omega) hr2]; rfl
    rw [check_ok' hv]
    (repeat' ((try (conv => whnf)); first | (with_reducible first | refine FCond.tA ?_ | refine FCond.fA ?_) | ((with_reducible refine FCond.i (fun hq => ?_) (fun hq => ?_)) <;> (try simp only [zA, zE, zD, zJ, zB, zI, Int.not_le, Int.not_lt] at hq)) | (with_reducible first | refine Fits.in64 (by omega) ?_ | refine FIdx.nat (by omega) ?_ | refine FIdx.int (by omega) ?_ | refine FTo.nat (by omega) ?_ | refine FTo.int (by omega) ?_) | ((with_reducible refine Need.mk ?_ ?_); focus exact needA) | (with_reducible refine FApp.grow ?_) | (with_reducible refine FOr.pub ?_)))
    all_goals (try (conv => whnf))
    all_goals ((refine ⟨⟨_, [], [], Cut.nil _, Ln.sameB _ rfl, ?_, rfl⟩⟩); rfl)
theorem refCheckM_ok (f : ShF) (s : Sheet) (hn : Near s) (z e : Bool) (m : List Int) (hm : m.length ≤ 1000) : ACall Try.prog 41 [aSh f s, aInts z e m] [] (fun r h => r = AI (checkM s m) ∧ h = []) := by
  have cC := refCheck_ok f s hn
  (refine fcall_of mixed Try.func41 rfl (by decide) (hs := {}) ?k (ac := ?ac) ?c (rs := ?rs) ?r ?l ?H; (case k => kernel_rfl); (case c => (conv => (lhs; cbv))); (case r => (conv => (lhs; cbv))); (case l => exact Nat.le_of_ble_eq_true rfl))
  cases hk : s.ok
  · rw [check_80 hk] at cC
    rw [show checkM s m = 80 from by unfold checkM; rw [hk]; rfl]
    (repeat' ((try (conv => whnf)); first | (with_reducible first | refine FCond.tA ?_ | refine FCond.fA ?_) | ((with_reducible refine FCond.i (fun hq => ?_) (fun hq => ?_)) <;> (try simp only [zA, zE, zD, zJ, zB, zI, Int.not_le, Int.not_lt] at hq)) | (with_reducible first | refine Fits.in64 (by omega) ?_ | refine FIdx.nat (by omega) ?_ | refine FIdx.int (by omega) ?_ | refine FTo.nat (by omega) ?_ | refine FTo.int (by omega) ?_) | ((with_reducible refine Need.mk ?_ ?_); focus exact needA) | (with_reducible refine FApp.grow ?_) | (refine FCall.pure (cC) ⟨Ln.sameB _ rfl, True.intro⟩ rfl ?_) | (with_reducible refine FOr.pub ?_)))
    all_goals (try (conv => whnf))
    all_goals ((refine ⟨⟨_, [], [], Cut.nil _, Ln.sameB _ rfl, ?_, rfl⟩⟩); rfl)
  · rw [check_ok' hk] at cC
    have hs := sheet_d hk
    have cM := isMask_ok f s (by have := hs.r1; omega) hn z e m hm
    cases hq7 : maskS s m
    · rw [hq7] at cM
      rw [show checkM s m = 81 from by unfold checkM; rw [hk, hq7]; rfl]
      (repeat' ((try (conv => whnf)); first | (with_reducible first | refine FCond.tA ?_ | refine FCond.fA ?_) | ((with_reducible refine FCond.i (fun hq => ?_) (fun hq => ?_)) <;> (try simp only [zA, zE, zD, zJ, zB, zI, Int.not_le, Int.not_lt] at hq)) | (with_reducible first | refine Fits.in64 (by omega) ?_ | refine FIdx.nat (by omega) ?_ | refine FIdx.int (by omega) ?_ | refine FTo.nat (by omega) ?_ | refine FTo.int (by omega) ?_) | ((with_reducible refine Need.mk ?_ ?_); focus exact needA) | (with_reducible refine FApp.grow ?_) | (refine FCall.pure (cC) ⟨Ln.sameB _ rfl, True.intro⟩ rfl ?_) | (refine FCall.pure (cM) ⟨Ln.sameB _ rfl, Ln.sameB _ rfl, True.intro⟩ rfl ?_) | (with_reducible refine FOr.pub ?_)))
      all_goals (try (conv => whnf))
      all_goals ((refine ⟨⟨_, [], [], Cut.nil _, Ln.sameB _ rfl, ?_, rfl⟩⟩); rfl)
    · rw [hq7] at cM
      rw [show checkM s m = 0 from by unfold checkM; rw [hk, hq7]; rfl]
      (repeat' ((try (conv => whnf)); first | (with_reducible first | refine FCond.tA ?_ | refine FCond.fA ?_) | ((with_reducible refine FCond.i (fun hq => ?_) (fun hq => ?_)) <;> (try simp only [zA, zE, zD, zJ, zB, zI, Int.not_le, Int.not_lt] at hq)) | (with_reducible first | refine Fits.in64 (by omega) ?_ | refine FIdx.nat (by omega) ?_ | refine FIdx.int (by omega) ?_ | refine FTo.nat (by omega) ?_ | refine FTo.int (by omega) ?_) | ((with_reducible refine Need.mk ?_ ?_); focus exact needA) | (with_reducible refine FApp.grow ?_) | (refine FCall.pure (cC) ⟨Ln.sameB _ rfl, True.intro⟩ rfl ?_) | (refine FCall.pure (cM) ⟨Ln.sameB _ rfl, Ln.sameB _ rfl, True.intro⟩ rfl ?_) | (with_reducible refine FOr.pub ?_)))
      all_goals (try (conv => whnf))
      all_goals ((refine ⟨⟨_, [], [], Cut.nil _, Ln.sameB _ rfl, ?_, rfl⟩⟩); rfl)
theorem checkM_0 {s : Sheet} {m : List Int} (h : checkM s m = 0) : s.ok = true ∧ maskS s m = true := by
  unfold checkM at h
  split at h
  · rename_i hk
    split at h
    · rename_i h1; exact ⟨hk, h1⟩
    · cases h
  · cases h
theorem refCheckP_ok (f : ShF) (s : Sheet) (hn : Near s) (z e : Bool) (m : List Int) (hm : m.length ≤ 1000) (r c : Int) : ACall Try.prog 13 [aSh f s, aInts z e m, AI r, AI c] [] (fun v h => v = AI (checkP s m r c) ∧ h = []) := by
  have cM := refCheckM_ok f s hn z e m hm
  (refine fcall_of mixed Try.func13 rfl (by decide) (hs := {}) ?k (ac := ?ac) ?c (rs := ?rs) ?r ?l ?H; (case k => kernel_rfl); (case c => (conv => (lhs; cbv))); (case r => (conv => (lhs; cbv))); (case l => exact Nat.le_of_ble_eq_true rfl))
  by_cases h0 : checkM s m = 0
  · obtain ⟨hk, hmk⟩ := checkM_0 h0
    have hs := sheet_d hk
    have r1 := hs.r1
    have r4 := hs.r4
    have c4 := hs.c4
    have hR : s.R = s.amounts.length := rfl
    have cC := columns_ok f s (by omega)
    have w1 := within_ok r 0 ((s.amounts.length : Int) - 1)
    have w2 := within_ok c 0 ((s.C : Int) - 1)
    rw [h0] at cM
    have hp : checkP s m r c = if placeOk s r c then 0 else 1 := by unfold checkP; rw [if_pos h0]
    rw [hp]
    cases a1 : inB r 0 ((s.amounts.length : Int) - 1)
    · rw [a1] at w1
      rw [show placeOk s r c = false from by unfold placeOk; rw [show inB r 0 ((s.R : Int) - 1) = false from a1]; rfl]
      (repeat' ((try (conv => whnf)); first | (with_reducible first | refine FCond.tA ?_ | refine FCond.fA ?_) | ((with_reducible refine FCond.i (fun hq => ?_) (fun hq => ?_)) <;> (try simp only [zA, zE, zD, zJ, zB, zI, Int.not_le, Int.not_lt] at hq)) | (with_reducible first | refine Fits.in64 (by omega) ?_ | refine FIdx.nat (by omega) ?_ | refine FIdx.int (by omega) ?_ | refine FTo.nat (by omega) ?_ | refine FTo.int (by omega) ?_) | ((with_reducible refine Need.mk ?_ ?_); focus exact needA) | (with_reducible refine FApp.grow ?_) | (refine FCall.pure (cM) ⟨Ln.sameB _ rfl, Ln.sameB _ rfl, True.intro⟩ rfl ?_) | (refine FCall.pure (w1) ⟨Ln.sameB _ rfl, Ln.sameB _ rfl, Ln.sameB _ rfl, True.intro⟩ rfl ?_) | (refine FCall.pure (cC) ⟨Ln.sameB _ rfl, True.intro⟩ rfl ?_) | (with_reducible refine FOr.pub ?_)))
      all_goals (try (conv => whnf))
      all_goals ((refine ⟨⟨_, [], [], Cut.nil _, Ln.sameB _ rfl, ?_, rfl⟩⟩); rfl)
    · rw [a1] at w1
      rw [show placeOk s r c = inB c 0 ((s.C : Int) - 1) from by unfold placeOk; rw [show inB r 0 ((s.R : Int) - 1) = true from a1]; rfl]
      cases a2 : inB c 0 ((s.C : Int) - 1)
      · rw [a2] at w2
        (repeat' ((try (conv => whnf)); first | (with_reducible first | refine FCond.tA ?_ | refine FCond.fA ?_) | ((with_reducible refine FCond.i (fun hq => ?_) (fun hq => ?_)) <;> (try simp only [zA, zE, zD, zJ, zB, zI, Int.not_le, Int.not_lt] at hq)) | (with_reducible first | refine Fits.in64 (by omega) ?_ | refine FIdx.nat (by omega) ?_ | refine FIdx.int (by omega) ?_ | refine FTo.nat (by omega) ?_ | refine FTo.int (by omega) ?_) | ((with_reducible refine Need.mk ?_ ?_); focus exact needA) | (with_reducible refine FApp.grow ?_) | (refine FCall.pure (cM) ⟨Ln.sameB _ rfl, Ln.sameB _ rfl, True.intro⟩ rfl ?_) | (refine FCall.pure (w1) ⟨Ln.sameB _ rfl, Ln.sameB _ rfl, Ln.sameB _ rfl, True.intro⟩ rfl ?_) | (refine FCall.pure (cC) ⟨Ln.sameB _ rfl, True.intro⟩ rfl ?_) | (refine FCall.pure (w2) ⟨Ln.sameB _ rfl, Ln.sameB _ rfl, Ln.sameB _ rfl, True.intro⟩ rfl ?_) | (with_reducible refine FOr.pub ?_)))
        all_goals (try (conv => whnf))
        all_goals ((refine ⟨⟨_, [], [], Cut.nil _, Ln.sameB _ rfl, ?_, rfl⟩⟩); rfl)
      · rw [a2] at w2
        (repeat' ((try (conv => whnf)); first | (with_reducible first | refine FCond.tA ?_ | refine FCond.fA ?_) | ((with_reducible refine FCond.i (fun hq => ?_) (fun hq => ?_)) <;> (try simp only [zA, zE, zD, zJ, zB, zI, Int.not_le, Int.not_lt] at hq)) | (with_reducible first | refine Fits.in64 (by omega) ?_ | refine FIdx.nat (by omega) ?_ | refine FIdx.int (by omega) ?_ | refine FTo.nat (by omega) ?_ | refine FTo.int (by omega) ?_) | ((with_reducible refine Need.mk ?_ ?_); focus exact needA) | (with_reducible refine FApp.grow ?_) | (refine FCall.pure (cM) ⟨Ln.sameB _ rfl, Ln.sameB _ rfl, True.intro⟩ rfl ?_) | (refine FCall.pure (w1) ⟨Ln.sameB _ rfl, Ln.sameB _ rfl, Ln.sameB _ rfl, True.intro⟩ rfl ?_) | (refine FCall.pure (cC) ⟨Ln.sameB _ rfl, True.intro⟩ rfl ?_) | (refine FCall.pure (w2) ⟨Ln.sameB _ rfl, Ln.sameB _ rfl, Ln.sameB _ rfl, True.intro⟩ rfl ?_) | (with_reducible refine FOr.pub ?_)))
        all_goals (try (conv => whnf))
        all_goals ((refine ⟨⟨_, [], [], Cut.nil _, Ln.sameB _ rfl, ?_, rfl⟩⟩); rfl)
  · rw [show checkP s m r c = checkM s m from by unfold checkP; rw [if_neg h0]]
    (repeat' ((try (conv => whnf)); first | (with_reducible first | refine FCond.tA ?_ | refine FCond.fA ?_) | ((with_reducible refine FCond.i (fun hq => ?_) (fun hq => ?_)) <;> (try simp only [zA, zE, zD, zJ, zB, zI, Int.not_le, Int.not_lt] at hq)) | (with_reducible first | refine Fits.in64 (by omega) ?_ | refine FIdx.nat (by omega) ?_ | refine FIdx.int (by omega) ?_ | refine FTo.nat (by omega) ?_ | refine FTo.int (by omega) ?_) | ((with_reducible refine Need.mk ?_ ?_); focus exact needA) | (with_reducible refine FApp.grow ?_) | (refine FCall.pure (cM) ⟨Ln.sameB _ rfl, Ln.sameB _ rfl, True.intro⟩ rfl ?_) | (with_reducible refine FOr.pub ?_)))
    all_goals (try (conv => whnf))
    all_goals ((refine ⟨⟨_, [], [], Cut.nil _, Ln.sameB _ rfl, ?_, rfl⟩⟩); rfl)
end Go.Proofs.Ytlffjnmbpoemnaa

namespace Go.Proofs.Ytlffjnmbpoemnaa
open Go.RowKit

/-- The place of the first for which something holds, or -1. -/
def idxP (n : Nat) (p : Nat → Bool) : Nat → Nat → Int
  | 0, _ => -1
  | m + 1, k => if p k then (k : Int) else idxP n p m (k + 1)
theorem idxP_any {n : Nat} {p : Nat → Bool} : ∀ {m k : Nat}, 0 ≤ idxP n p m k ↔ ∃ j, k ≤ j ∧ j < k + m ∧ p j = true
  | 0, k => by
    simp only [idxP]
    constructor
    · intro h; omega
    · rintro ⟨j, h1, h2, _⟩; omega
  | m + 1, k => by
    simp only [idxP]
    split
    · rename_i h
      exact ⟨fun _ => ⟨k, Nat.le_refl _, by omega, h⟩, fun _ => by omega⟩
    · rename_i h
      rw [idxP_any]
      constructor
      · rintro ⟨j, h1, h2, h3⟩; exact ⟨j, by omega, by omega, h3⟩
      · rintro ⟨j, h1, h2, h3⟩
        by_cases e : j = k
        · subst e; exact (h h3).elim
        · exact ⟨j, by omega, by omega, h3⟩
/-- The least and the greatest of the first numbers. -/
def mnK (l : List Int) : Nat → Int
  | 0 => l.getD 0 0
  | k + 1 => min (mnK l k) (l.getD (k + 1) 0)
def mxK (l : List Int) : Nat → Int
  | 0 => l.getD 0 0
  | k + 1 => max (mxK l k) (l.getD (k + 1) 0)
theorem mnK_iff {l : List Int} {b : Int} : ∀ k, (b ≤ mnK l k ↔ ∀ j, j ≤ k → b ≤ l.getD j 0)
  | 0 => ⟨fun h j hj => by obtain rfl : j = 0 := (by omega); exact h, fun h => h 0 (Nat.le_refl _)⟩
  | k + 1 => by
    simp only [mnK]
    constructor
    · intro h j hj
      by_cases e : j = k + 1
      · subst e; omega
      · exact (mnK_iff k).1 (by omega) j (by omega)
    · intro h
      have h1 := (mnK_iff k).2 fun j hj => h j (by omega)
      have h2 := h (k + 1) (Nat.le_refl _)
      omega
theorem mxK_iff {l : List Int} {b : Int} : ∀ k, (mxK l k ≤ b ↔ ∀ j, j ≤ k → l.getD j 0 ≤ b)
  | 0 => ⟨fun h j hj => by obtain rfl : j = 0 := (by omega); exact h, fun h => h 0 (Nat.le_refl _)⟩
  | k + 1 => by
    simp only [mxK]
    constructor
    · intro h j hj
      by_cases e : j = k + 1
      · subst e; omega
      · exact (mxK_iff k).1 (by omega) j (by omega)
    · intro h
      have h1 := (mxK_iff k).2 fun j hj => h j (by omega)
      have h2 := h (k + 1) (Nat.le_refl _)
      omega
set_option maxHeartbeats 8000000
set_option maxRecDepth 100000
theorem min_ok (z e : Bool) (l : List Int) (h0 : 0 < l.length) (hl : l.length ≤ 1000) : ACall Try.prog 60 [aInts z e l] [] (fun r h => r = AI (mnK l (l.length - 1)) ∧ h = []) := by
  (refine fcall_of mixed Try.func60 rfl (by decide) (hs := {}) ?k (ac := ?ac) ?c (rs := ?rs) ?r ?l ?H; (case k => kernel_rfl); (case c => (conv => (lhs; cbv))); (case r => (conv => (lhs; cbv))); (case l => exact Nat.le_of_ble_eq_true rfl))
  (repeat' ((try (conv => whnf)); first | (with_reducible first | refine FCond.tA ?_ | refine FCond.fA ?_) | ((with_reducible refine FCond.i (fun hq => ?_) (fun hq => ?_)) <;> (try simp only [zA, zE, zD, zJ, zB, zI, Int.not_le, Int.not_lt] at hq)) | (with_reducible first | refine Fits.in64 (by omega) ?_ | refine FIdx.nat (by omega) ?_ | refine FIdx.int (by omega) ?_ | refine FTo.nat (by omega) ?_ | refine FTo.int (by omega) ?_) | ((with_reducible refine Need.mk ?_ ?_); focus exact needA) | (with_reducible refine FApp.grow ?_) | (with_reducible refine FOr.pub ?_)))
  all_goals (try (conv => whnf))
  refine FLoop.of (ACalls.mono _) (X := Nat) (fun k => [(0, aInts z e l), (3, AI (mnK l k)), (4, AI (k + 1 : Nat))]) (fun _ => []) (fun k => k + 1 ≤ l.length) (fun k => l.length - k) 0 ⟨h0, [], Cut.A, allA⟩ ?_
  intro k hk
  by_cases hlt : k + 1 < l.length
  · (repeat' ((try (conv => whnf)); first | (with_reducible first | refine FCond.tA ?_ | refine FCond.fA ?_) | ((with_reducible refine FCond.i (fun hq => ?_) (fun hq => ?_)) <;> (try simp only [zA, zE, zD, zJ, zB, zI, Int.not_le, Int.not_lt] at hq)) | (with_reducible first | refine Fits.in64 (by omega) ?_ | refine FIdx.nat (by omega) ?_ | refine FIdx.int (by omega) ?_ | refine FTo.nat (by omega) ?_ | refine FTo.int (by omega) ?_) | ((with_reducible refine Need.mk ?_ ?_); focus exact needA) | (with_reducible refine FApp.grow ?_) | (with_reducible refine FOr.pub ?_)))
    all_goals (try (conv => whnf))
    exact ⟨⟨k + 1, hlt, by omega, [], Cut.nil _, allA⟩⟩
  · have e1 : l.length - 1 = k := by omega
    rw [e1]
    (repeat' ((try (conv => whnf)); first | (with_reducible first | refine FCond.tA ?_ | refine FCond.fA ?_) | ((with_reducible refine FCond.i (fun hq => ?_) (fun hq => ?_)) <;> (try simp only [zA, zE, zD, zJ, zB, zI, Int.not_le, Int.not_lt] at hq)) | (with_reducible first | refine Fits.in64 (by omega) ?_ | refine FIdx.nat (by omega) ?_ | refine FIdx.int (by omega) ?_ | refine FTo.nat (by omega) ?_ | refine FTo.int (by omega) ?_) | ((with_reducible refine Need.mk ?_ ?_); focus exact needA) | (with_reducible refine FApp.grow ?_) | (with_reducible refine FOr.pub ?_)))
    all_goals (try (conv => whnf))
    all_goals ((refine ⟨⟨_, [], [], Cut.nil _, Ln.sameB _ rfl, ?_, rfl⟩⟩); rfl)
theorem max_ok (z e : Bool) (l : List Int) (h0 : 0 < l.length) (hl : l.length ≤ 1000) : ACall Try.prog 61 [aInts z e l] [] (fun r h => r = AI (mxK l (l.length - 1)) ∧ h = []) := by
  (refine fcall_of mixed Try.func61 rfl (by decide) (hs := {}) ?k (ac := ?ac) ?c (rs := ?rs) ?r ?l ?H; (case k => kernel_rfl); (case c => (conv => (lhs; cbv))); (case r => (conv => (lhs; cbv))); (case l => exact Nat.le_of_ble_eq_true rfl))
  (repeat' ((try (conv => whnf)); first | (with_reducible first | refine FCond.tA ?_ | refine FCond.fA ?_) | ((with_reducible refine FCond.i (fun hq => ?_) (fun hq => ?_)) <;> (try simp only [zA, zE, zD, zJ, zB, zI, Int.not_le, Int.not_lt] at hq)) | (with_reducible first | refine Fits.in64 (by omega) ?_ | refine FIdx.nat (by omega) ?_ | refine FIdx.int (by omega) ?_ | refine FTo.nat (by omega) ?_ | refine FTo.int (by omega) ?_) | ((with_reducible refine Need.mk ?_ ?_); focus exact needA) | (with_reducible refine FApp.grow ?_) | (with_reducible refine FOr.pub ?_)))
  all_goals (try (conv => whnf))
  refine FLoop.of (ACalls.mono _) (X := Nat) (fun k => [(0, aInts z e l), (3, AI (mxK l k)), (4, AI (k + 1 : Nat))]) (fun _ => []) (fun k => k + 1 ≤ l.length) (fun k => l.length - k) 0 ⟨h0, [], Cut.A, allA⟩ ?_
  intro k hk
  by_cases hlt : k + 1 < l.length
  · (repeat' ((try (conv => whnf)); first | (with_reducible first | refine FCond.tA ?_ | refine FCond.fA ?_) | ((with_reducible refine FCond.i (fun hq => ?_) (fun hq => ?_)) <;> (try simp only [zA, zE, zD, zJ, zB, zI, Int.not_le, Int.not_lt] at hq)) | (with_reducible first | refine Fits.in64 (by omega) ?_ | refine FIdx.nat (by omega) ?_ | refine FIdx.int (by omega) ?_ | refine FTo.nat (by omega) ?_ | refine FTo.int (by omega) ?_) | ((with_reducible refine Need.mk ?_ ?_); focus exact needA) | (with_reducible refine FApp.grow ?_) | (with_reducible refine FOr.pub ?_)))
    all_goals (try (conv => whnf))
    exact ⟨⟨k + 1, hlt, by omega, [], Cut.nil _, allA⟩⟩
  · have e1 : l.length - 1 = k := by omega
    rw [e1]
    (repeat' ((try (conv => whnf)); first | (with_reducible first | refine FCond.tA ?_ | refine FCond.fA ?_) | ((with_reducible refine FCond.i (fun hq => ?_) (fun hq => ?_)) <;> (try simp only [zA, zE, zD, zJ, zB, zI, Int.not_le, Int.not_lt] at hq)) | (with_reducible first | refine Fits.in64 (by omega) ?_ | refine FIdx.nat (by omega) ?_ | refine FIdx.int (by omega) ?_ | refine FTo.nat (by omega) ?_ | refine FTo.int (by omega) ?_) | ((with_reducible refine Need.mk ?_ ?_); focus exact needA) | (with_reducible refine FApp.grow ?_) | (with_reducible refine FOr.pub ?_)))
    all_goals (try (conv => whnf))
    all_goals ((refine ⟨⟨_, [], [], Cut.nil _, Ln.sameB _ rfl, ?_, rfl⟩⟩); rfl)
abbrev iSh (f : ShF) (s : Sheet) : AV := .ip 3 (cSh f s) 0
abbrev fWrong (f : ShF) (s : Sheet) : AV := .fn 81 1 (ofL [iSh f s])
theorem wrong_ok (f : ShF) (s : Sheet) (hr : 0 < s.R) (hc : s.C ≤ 20) (x : Int) : ACall Try.prog 81 [AI x, iSh f s] [] (fun r h => r = .bool (!inB x 0 (((2 ^ s.C : Nat) : Int) - 1)) ∧ h = []) := by
  have hr' : 0 < s.amounts.length := hr
  have hp := Nat.pow_le_pow_right (show 0 < 2 by decide) hc
  have hC : s.C = (s.amounts.getD 0 []).length := rfl
  rw [hC] at hc hp ⊢
  (refine fcall_of mixed Try.func81 rfl (by decide) (hs := {}) ?k (ac := ?ac) ?c (rs := ?rs) ?r ?l ?H; (case k => kernel_rfl); (case c => (conv => (lhs; cbv))); (case r => (conv => (lhs; cbv))); (case l => exact Nat.le_of_ble_eq_true rfl))
  (repeat' ((try (conv => whnf)); first | (with_reducible first | refine FCond.tA ?_ | refine FCond.fA ?_) | ((with_reducible refine FCond.i (fun hq => ?_) (fun hq => ?_)) <;> (try simp only [zA, zE, zD, zJ, zB, zI, Int.not_le, Int.not_lt] at hq)) | (with_reducible first | refine Fits.in64 (by omega) ?_ | refine FIdx.nat (by omega) ?_ | refine FIdx.int (by omega) ?_ | refine FTo.nat (by omega) ?_ | refine FTo.int (by omega) ?_) | ((with_reducible refine Need.mk ?_ ?_); focus exact needA) | (with_reducible refine FApp.grow ?_) | (refine FBit.shl1 (j := (s.amounts.getD 0 []).length) rfl (by omega) ?_) | (with_reducible refine FOr.pub ?_)))
  all_goals (try (conv => whnf))
  all_goals ((refine ⟨⟨_, [], [], Cut.nil _, Ln.sameB _ rfl, ?_, rfl⟩⟩); first | (rw [show inB x 0 (((2 ^ (s.amounts.getD 0 []).length : Nat) : Int) - 1) = true from decide_eq_true (by omega)]; rfl) | (rw [show inB x 0 (((2 ^ (s.amounts.getD 0 []).length : Nat) : Int) - 1) = false from decide_eq_false (by omega)]; rfl) | exact bool_eq (by unfold inB; rw [← decide_not]; exact decide_eq_decide.2 (by omega)))
theorem idx_w (f : ShF) (s : Sheet) (z e : Bool) (l : List Int) (q : Int → Bool) (hl : l.length ≤ 1000) (hG : ∀ x, ACall Try.prog 81 [AI x, iSh f s] [] (fun r h => r = .bool (q x) ∧ h = [])) : ACall Try.prog 88 [aInts z e l, fWrong f s] [] (fun r h => r = AI (idxP l.length (fun k => q (l.getD k 0)) l.length 0) ∧ h = []) := by
  (refine fcall_of mixed Try.func88 rfl (by decide) (hs := {}) ?k (ac := ?ac) ?c (rs := ?rs) ?r ?l ?H; (case k => kernel_rfl); (case c => (conv => (lhs; cbv))); (case r => (conv => (lhs; cbv))); (case l => exact Nat.le_of_ble_eq_true rfl))
  (repeat' ((try (conv => whnf)); first | (with_reducible first | refine FCond.tA ?_ | refine FCond.fA ?_) | ((with_reducible refine FCond.i (fun hq => ?_) (fun hq => ?_)) <;> (try simp only [zA, zE, zD, zJ, zB, zI, Int.not_le, Int.not_lt] at hq)) | (with_reducible first | refine Fits.in64 (by omega) ?_ | refine FIdx.nat (by omega) ?_ | refine FIdx.int (by omega) ?_ | refine FTo.nat (by omega) ?_ | refine FTo.int (by omega) ?_) | ((with_reducible refine Need.mk ?_ ?_); focus exact needA) | (with_reducible refine FApp.grow ?_) | (with_reducible refine FOr.pub ?_)))
  all_goals (try (conv => whnf))
  refine FLoop.of (ACalls.mono _) (X := Nat) (fun k => [(0, aInts z e l), (1, fWrong f s), (7, AI l.length), (8, AI k)]) (fun _ => []) (fun k => k ≤ l.length ∧ idxP l.length (fun k => q (l.getD k 0)) l.length 0 = idxP l.length (fun k => q (l.getD k 0)) (l.length - k) k) (fun k => l.length - k) 0 ⟨⟨Nat.zero_le _, rfl⟩, [], Cut.A, allA⟩ ?_
  rintro k ⟨hk, hL⟩
  by_cases hlt : k < l.length
  · obtain ⟨m, hm⟩ : ∃ m, l.length - k = m + 1 := ⟨l.length - k - 1, by omega⟩
    rw [hm, idxP] at hL
    have hGk := hG (l.getD k 0)
    (repeat' ((try (conv => whnf)); first | (with_reducible first | refine FCond.tA ?_ | refine FCond.fA ?_) | ((with_reducible refine FCond.i (fun hq => ?_) (fun hq => ?_)) <;> (try simp only [zA, zE, zD, zJ, zB, zI, Int.not_le, Int.not_lt] at hq)) | (with_reducible first | refine Fits.in64 (by omega) ?_ | refine FIdx.nat (by omega) ?_ | refine FIdx.int (by omega) ?_ | refine FTo.nat (by omega) ?_ | refine FTo.int (by omega) ?_) | ((with_reducible refine Need.mk ?_ ?_); focus exact needA) | (with_reducible refine FApp.grow ?_) | (refine FCall.pure (hGk) ⟨Ln.sameB _ rfl, Ln.sameB _ rfl, True.intro⟩ rfl ?_) | (with_reducible refine FOr.pub ?_)))
    all_goals (try (conv => whnf))
    · (refine ⟨⟨_, [], [], Cut.nil _, Ln.sameB _ rfl, ?_, rfl⟩⟩)
      rw [hL, if_pos hq]
    · (exact ⟨⟨(k + 1), ⟨hlt, by rw [hL, if_neg (by rw [hq]; decide), show l.length - (k + 1) = m by omega]⟩, by show _ < _; omega, [], Cut.A, allA⟩⟩)
  · rw [show l.length - k = 0 by omega, idxP] at hL
    (repeat' ((try (conv => whnf)); first | (with_reducible first | refine FCond.tA ?_ | refine FCond.fA ?_) | ((with_reducible refine FCond.i (fun hq => ?_) (fun hq => ?_)) <;> (try simp only [zA, zE, zD, zJ, zB, zI, Int.not_le, Int.not_lt] at hq)) | (with_reducible first | refine Fits.in64 (by omega) ?_ | refine FIdx.nat (by omega) ?_ | refine FIdx.int (by omega) ?_ | refine FTo.nat (by omega) ?_ | refine FTo.int (by omega) ?_) | ((with_reducible refine Need.mk ?_ ?_); focus exact needA) | (with_reducible refine FApp.grow ?_) | (with_reducible refine FOr.pub ?_)))
    all_goals (try (conv => whnf))
    (refine ⟨⟨_, [], [], Cut.nil _, Ln.sameB _ rfl, ?_, rfl⟩⟩)
    rw [hL]
theorem cont_w (f : ShF) (s : Sheet) (z e : Bool) (l : List Int) (q : Int → Bool) (hl : l.length ≤ 1000) (hG : ∀ x, ACall Try.prog 81 [AI x, iSh f s] [] (fun r h => r = .bool (q x) ∧ h = [])) : ACall Try.prog 82 [aInts z e l, fWrong f s] [] (fun r h => r = .bool (l.any q) ∧ h = []) := by
  have hI := idx_w f s z e l q hl hG
  have e1 : decide (0 ≤ idxP l.length (fun k => q (l.getD k 0)) l.length 0) = l.any q := by
    rw [Bool.eq_iff_iff, decide_eq_true_eq, idxP_any, List.any_eq_true]
    constructor
    · rintro ⟨j, _, hj, h⟩
      have hj : j < l.length := by omega
      exact ⟨l[j], List.getElem_mem hj, by simpa [List.getD, List.getElem?_eq_getElem hj] using h⟩
    · rintro ⟨x, hx, h⟩
      obtain ⟨k, hk, rfl⟩ := List.getElem_of_mem hx
      exact ⟨k, by omega, by omega, by simpa [List.getD, List.getElem?_eq_getElem hk] using h⟩
  rw [← e1]
  (refine fcall_of mixed Try.func82 rfl (by decide) (hs := {}) ?k (ac := ?ac) ?c (rs := ?rs) ?r ?l ?H; (case k => kernel_rfl); (case c => (conv => (lhs; cbv))); (case r => (conv => (lhs; cbv))); (case l => exact Nat.le_of_ble_eq_true rfl))
  (repeat' ((try (conv => whnf)); first | (with_reducible first | refine FCond.tA ?_ | refine FCond.fA ?_) | ((with_reducible refine FCond.i (fun hq => ?_) (fun hq => ?_)) <;> (try simp only [zA, zE, zD, zJ, zB, zI, Int.not_le, Int.not_lt] at hq)) | (with_reducible first | refine Fits.in64 (by omega) ?_ | refine FIdx.nat (by omega) ?_ | refine FIdx.int (by omega) ?_ | refine FTo.nat (by omega) ?_ | refine FTo.int (by omega) ?_) | ((with_reducible refine Need.mk ?_ ?_); focus exact needA) | (with_reducible refine FApp.grow ?_) | (refine FCall.pure (hI) ⟨Ln.sameB _ rfl, Ln.sameB _ rfl, True.intro⟩ rfl ?_) | (with_reducible refine FOr.pub ?_)))
  all_goals (try (conv => whnf))
  all_goals ((refine ⟨⟨_, [], [], Cut.nil _, Ln.sameB _ rfl, ?_, rfl⟩⟩); rfl)
theorem Ln.boxP {σ : Nat → Nat → Prop} {Bp : Nat → Prop} {H : List AB} {d o m : Nat} {c c' : Nat → AV} (h : Bp d) (hd : H[d]? = some (.box m c)) (hc : LnN σ Bp H m c c') (hp : ((List.range m).all fun i => (c' i).pureB) = true) : Ln σ Bp H (.ptr d o) (.ip m c' o) :=
  Ln.pubp d o m c c' h hd hc.get fun i hi => pureB_ok _ (by simp only [List.all_eq_true, List.mem_range] at hp; exact hp i hi)
theorem masks_ok (f : ShF) (s : Sheet) (hr : 0 < s.R) (hn : Near s) (z e : Bool) (m : List Int) (hm : m.length ≤ 1000) : ACall Try.prog 73 [aSh f s, aInts z e m] [] (fun r h => r = .bool (maskS s m) ∧ h = []) := by
  have c20 := hn.C
  have r20 := hn.r
  have hR : s.R = s.amounts.length := rfl
  have cW := cont_w f s z e m (fun x => !inB x 0 (((2 ^ s.C : Nat) : Int) - 1)) hm (wrong_ok f s hr c20)
  have e1 : (m.any fun x => !inB x 0 (((2 ^ s.C : Nat) : Int) - 1)) = !(m.all fun x => inB x 0 (((2 ^ s.C : Nat) : Int) - 1)) := by rw [List.all_eq_not_any_not]; simp
  rw [e1] at cW
  (refine fcall_of mixed Try.func73 rfl (by decide) (hs := {}) ?k (ac := ?ac) ?c (rs := ?rs) ?r ?l ?H; (case k => kernel_rfl); (case c => (conv => (lhs; cbv))); (case r => (conv => (lhs; cbv))); (case l => exact Nat.le_of_ble_eq_true rfl))
  by_cases hl : m.length = s.amounts.length
  · have hv : maskS s m = m.all (fun x => inB x 0 (((2 ^ s.C : Nat) : Int) - 1)) := by unfold maskS; rw [decide_eq_true (show m.length = s.R from hl), Bool.and_true]
    rw [hv]
    (repeat' ((try (conv => whnf)); first | (with_reducible first | refine FCond.tA ?_ | refine FCond.fA ?_) | ((with_reducible refine FCond.i (fun hq => ?_) (fun hq => ?_)) <;> (try simp only [zA, zE, zD, zJ, zB, zI, Int.not_le, Int.not_lt] at hq)) | (with_reducible first | refine Fits.in64 (by omega) ?_ | refine FIdx.nat (by omega) ?_ | refine FIdx.int (by omega) ?_ | refine FTo.nat (by omega) ?_ | refine FTo.int (by omega) ?_) | ((with_reducible refine Need.mk ?_ ?_); focus exact needA) | (with_reducible refine FApp.grow ?_) | (refine FCall.lend [0] cW ⟨Ln.sameB _ rfl, Ln.fnN ⟨True.intro, Ln.boxP (by decide) rfl ⟨⟨⟨True.intro, Ln.sameB _ rfl⟩, Ln.sameB _ rfl⟩, Ln.sameB _ rfl⟩ rfl⟩, True.intro⟩ rfl trivial ?_) | (with_reducible refine FOr.pub ?_)))
    all_goals (try (conv => whnf))
    all_goals ((refine ⟨⟨_, [], [], Cut.nil _, Ln.sameB _ rfl, ?_, rfl⟩⟩); first | rfl | (simp; done))
  · have hv : maskS s m = false := by unfold maskS; rw [decide_eq_false (show ¬ m.length = s.R from hl), Bool.and_false]
    rw [hv]
    (repeat' ((try (conv => whnf)); first | (with_reducible first | refine FCond.tA ?_ | refine FCond.fA ?_) | ((with_reducible refine FCond.i (fun hq => ?_) (fun hq => ?_)) <;> (try simp only [zA, zE, zD, zJ, zB, zI, Int.not_le, Int.not_lt] at hq)) | (with_reducible first | refine Fits.in64 (by omega) ?_ | refine FIdx.nat (by omega) ?_ | refine FIdx.int (by omega) ?_ | refine FTo.nat (by omega) ?_ | refine FTo.int (by omega) ?_) | ((with_reducible refine Need.mk ?_ ?_); focus exact needA) | (with_reducible refine FApp.grow ?_) | (with_reducible refine FOr.pub ?_)))
    all_goals (try (conv => whnf))
    all_goals ((refine ⟨⟨_, [], [], Cut.nil _, Ln.sameB _ rfl, ?_, rfl⟩⟩); rfl)
end Go.Proofs.Ytlffjnmbpoemnaa

namespace Go.Proofs.Ytlffjnmbpoemnaa
open Go.RowKit

theorem below_step {p : Nat → Prop} {i : Nat} (h : ∀ k, k < i → p k) (hi : p i) : ∀ k, k < i + 1 → p k := fun k hk => by
  rcases Nat.lt_or_ge k i with h' | h'
  · exact h k h'
  · obtain rfl : k = i := by omega
    exact hi
theorem rowMM {l : List Int} {C : Nat} (hC : 0 < C) (hl : l.length = C) : l.all (fun x => inB x 0 10000) = (decide (0 ≤ mnK l (l.length - 1)) && decide (mxK l (l.length - 1) ≤ 10000)) := by
  rw [Bool.eq_iff_iff, Bool.and_eq_true, decide_eq_true_eq, decide_eq_true_eq, mnK_iff, mxK_iff, List.all_eq_true]
  constructor
  · intro h
    have key : ∀ j, j ≤ l.length - 1 → 0 ≤ l.getD j 0 ∧ l.getD j 0 ≤ 10000 := fun j hj => by
      have hj' : j < l.length := by omega
      have := h (l.getD j 0) (by simp [List.getD, List.getElem?_eq_getElem hj'])
      simpa only [inB, decide_eq_true_eq] using this
    exact ⟨fun j hj => (key j hj).1, fun j hj => (key j hj).2⟩
  · rintro ⟨h1, h2⟩ x hx
    obtain ⟨k, hk, rfl⟩ := List.getElem_of_mem hx
    have a := h1 k (by omega)
    have b := h2 k (by omega)
    simp only [List.getD, List.getElem?_eq_getElem hk, Option.getD_some] at a b
    exact decide_eq_true ⟨a, b⟩
/-- The first rows are as they must be, with their sets of secret columns. -/
def upTo (s : Sheet) (r : Nat) : Prop := ∀ k, k < r → rowS s.C (s.amounts.getD k []) = true ∧ inB (s.secret.getD k 0) 0 (((2 ^ s.C : Nat) : Int) - 1) = true
theorem upTo_ok {s : Sheet} (h1 : inB s.R 1 4 = true) (h2 : inB s.C 1 4 = true) (h3 : inB s.gap 1 1000 = true) (h4 : s.secret.length = s.R) (h : upTo s s.R) : s.ok = true := by
  unfold Sheet.ok Sheet.head maskS
  simp only [Bool.and_eq_true, decide_eq_true_eq, List.all_eq_true]
  refine ⟨⟨⟨⟨of_decide_eq_true h1, of_decide_eq_true h2⟩, of_decide_eq_true h3⟩, fun x hx => ?_, h4⟩, fun l hl => ?_⟩
  · obtain ⟨k, hk, rfl⟩ := List.getElem_of_mem hx
    have := (h k (by omega)).2
    simp only [List.getD, List.getElem?_eq_getElem hk, Option.getD_some, inB, decide_eq_true_eq] at this
    exact this
  · obtain ⟨k, hk, rfl⟩ := List.getElem_of_mem hl
    have := (h k hk).1
    simp only [List.getD, List.getElem?_eq_getElem hk, Option.getD_some] at this
    exact this
theorem upTo_no {s : Sheet} {r : Nat} (hr : r < s.R) (h4 : s.secret.length = s.R) (h : rowS s.C (s.amounts.getD r []) = false ∨ inB (s.secret.getD r 0) 0 (((2 ^ s.C : Nat) : Int) - 1) = false) : s.ok = false := by
  cases hk : s.ok
  · rfl
  · exfalso
    have hs := sheet_d hk
    rcases h with h | h
    · unfold Sheet.ok at hk
      simp only [Bool.and_eq_true] at hk
      have := all_getD [] hk.2 (show r < s.amounts.length from hr)
      rw [h] at this; cases this
    · have := hs.sec.bd r hr
      have := of_decide_eq_false h
      omega
set_option maxHeartbeats 8000000
set_option maxRecDepth 100000
theorem check_ok (f : ShF) (s : Sheet) (hn : Near s) : ACall Try.prog 30 [aSh f s] [] (fun r h => r = AI (checkS s) ∧ h = []) := by
  have c20 := hn.C
  have r20 := hn.r
  have m20 := hn.m
  have hR : s.R = s.amounts.length := rfl
  have hC : s.C = (s.amounts.getD 0 []).length := rfl
  have hp := Nat.pow_le_pow_right (show 0 < 2 by decide) c20
  have hC2 : (s.amounts.getD (Int.toNat 0) []).length = s.C := rfl
  (refine fcall_of mixed Try.func30 rfl (by decide) (hs := {}) ?k (ac := ?ac) ?c (rs := ?rs) ?r ?l ?H; (case k => kernel_rfl); (case c => (conv => (lhs; cbv))); (case r => (conv => (lhs; cbv))); (case l => exact Nat.le_of_ble_eq_true rfl))
  by_cases a1 : 1 ≤ s.amounts.length ∧ s.amounts.length ≤ 4
  · by_cases a4 : s.secret.length = s.amounts.length
    · by_cases a3 : 1 ≤ s.gap ∧ s.gap ≤ 1000
      · by_cases a2 : 1 ≤ s.C ∧ s.C ≤ 4
        · have i1 : inB (s.R : Int) 1 4 = true := decide_eq_true (by omega)
          have i2 : inB (s.C : Int) 1 4 = true := decide_eq_true (by omega)
          have i3 : inB s.gap 1 1000 = true := decide_eq_true a3
          (repeat' ((try (conv => whnf)); first | (with_reducible first | refine FCond.tA ?_ | refine FCond.fA ?_) | ((with_reducible refine FCond.i (fun hq => ?_) (fun hq => ?_)) <;> (try simp only [zA, zE, zD, zJ, zB, zI, Int.not_le, Int.not_lt] at hq)) | (with_reducible first | refine Fits.in64 (by omega) ?_ | refine FIdx.nat (by omega) ?_ | refine FIdx.int (by omega) ?_ | refine FTo.nat (by omega) ?_ | refine FTo.int (by omega) ?_) | ((with_reducible refine Need.mk ?_ ?_); focus exact needA) | (with_reducible first | refine FBit.hasT rfl (by assumption) ?_ | refine FBit.hasF rfl (by assumption) ?_ | refine FBit.shrN rfl (by omega) ?_ | refine FBit.half rfl ?_ | refine FBit.shl1 rfl (by omega) ?_ | refine Fits.inU (by omega) ?_ | refine FBit.shrNI rfl (by omega) ?_ | refine FBit.shrIN rfl (by omega) (by omega) ?_ | refine FBit.shrI rfl (by omega) (by omega) ?_ | refine FBit.shl1I rfl (by omega) ?_) | (with_reducible refine FBit.has rfl (fun hq => ?_) (fun hq => ?_)) | (with_reducible first | refine FBit.and1 rfl ?_ | refine FBit.andN rfl (by omega) (by omega) ?_ | refine FBit.orN rfl (by omega) (by omega) ?_ | refine FBit.andNotN rfl (by omega) (by omega) ?_) | (with_reducible refine FApp.grow ?_) | (with_reducible refine FOr.pub ?_)))
          all_goals (try (conv => whnf))
          refine FLoop.of (ACalls.mono _) (X := Nat) (fun r => [(1, .ptr 0 0), (4, AI s.C), (45, aRows f.za f.ea f.rz f.re s.amounts), (46, AI s.amounts.length), (47, AI r)]) (fun r => [.box 3 (cSh f s)]) (fun r => r ≤ s.amounts.length ∧ upTo s r) (fun r => s.amounts.length - r) 0 ⟨⟨Nat.zero_le _, fun k hk => absurd hk (Nat.not_lt_zero k)⟩, [0], Cut.A, allA⟩ ?_
          rintro r ⟨hr1, hup⟩
          by_cases hlt : r < s.amounts.length
          · have hl20 := hn.c r
            have hpp := Nat.two_pow_pos s.C
            by_cases hlen : (s.amounts.getD r []).length = s.C
            · have cMn := min_ok (f.rz r) (f.re r) (s.amounts.getD r []) (by omega) (by omega)
              have cMx := max_ok (f.rz r) (f.re r) (s.amounts.getD r []) (by omega) (by omega)
              have hMM := rowMM (show 0 < s.C by omega) hlen
              have hrow : rowS s.C (s.amounts.getD r []) = (decide (0 ≤ mnK (s.amounts.getD r []) ((s.amounts.getD r []).length - 1)) && decide (mxK (s.amounts.getD r []) ((s.amounts.getD r []).length - 1) ≤ 10000)) := by unfold rowS; rw [decide_eq_true hlen, Bool.true_and, hMM]
              by_cases b1 : 0 ≤ mnK (s.amounts.getD r []) ((s.amounts.getD r []).length - 1)
              · by_cases b2 : mxK (s.amounts.getD r []) ((s.amounts.getD r []).length - 1) ≤ 10000
                · by_cases b3 : 0 ≤ s.secret.getD r 0 ∧ s.secret.getD r 0 < ((2 ^ s.C : Nat) : Int)
                  · (repeat' ((try (conv => whnf)); first | (with_reducible first | refine FCond.tA ?_ | refine FCond.fA ?_) | ((with_reducible refine FCond.i (fun hq => ?_) (fun hq => ?_)) <;> (try simp only [zA, zE, zD, zJ, zB, zI, Int.not_le, Int.not_lt] at hq)) | (with_reducible first | refine Fits.in64 (by omega) ?_ | refine FIdx.nat (by omega) ?_ | refine FIdx.int (by omega) ?_ | refine FTo.nat (by omega) ?_ | refine FTo.int (by omega) ?_) | ((with_reducible refine Need.mk ?_ ?_); focus exact needA) | (with_reducible refine FApp.grow ?_) | (refine FCall.pure (cMn) ⟨Ln.sameB _ rfl, True.intro⟩ rfl ?_) | (refine FCall.pure (cMx) ⟨Ln.sameB _ rfl, True.intro⟩ rfl ?_) | (refine FBit.shl1 (j := s.C) rfl (by omega) ?_) | (with_reducible refine FOr.pub ?_)))
                    all_goals (try (conv => whnf))
                    all_goals exact ⟨⟨r + 1, ⟨hlt, below_step hup ⟨by rw [hrow, decide_eq_true b1, decide_eq_true b2]; rfl, decide_eq_true (by omega)⟩⟩, by omega, [0], Cut.A, allA⟩⟩
                  · rw [check_80 (upTo_no (r := r) hlt a4 (.inr (decide_eq_false (by omega))))]
                    by_cases b4 : s.secret.getD r 0 < 0
                    · (repeat' ((try (conv => whnf)); first | (with_reducible first | refine FCond.tA ?_ | refine FCond.fA ?_) | ((with_reducible refine FCond.i (fun hq => ?_) (fun hq => ?_)) <;> (try simp only [zA, zE, zD, zJ, zB, zI, Int.not_le, Int.not_lt] at hq)) | (with_reducible first | refine Fits.in64 (by omega) ?_ | refine FIdx.nat (by omega) ?_ | refine FIdx.int (by omega) ?_ | refine FTo.nat (by omega) ?_ | refine FTo.int (by omega) ?_) | ((with_reducible refine Need.mk ?_ ?_); focus exact needA) | (with_reducible refine FApp.grow ?_) | (refine FCall.pure (cMn) ⟨Ln.sameB _ rfl, True.intro⟩ rfl ?_) | (refine FCall.pure (cMx) ⟨Ln.sameB _ rfl, True.intro⟩ rfl ?_) | (refine FBit.shl1 (j := s.C) rfl (by omega) ?_) | (with_reducible refine FOr.pub ?_)))
                      all_goals (try (conv => whnf))
                      all_goals ((refine ⟨⟨_, [], [], Cut.nil _, Ln.sameB _ rfl, ?_, rfl⟩⟩); rfl)
                    · (repeat' ((try (conv => whnf)); first | (with_reducible first | refine FCond.tA ?_ | refine FCond.fA ?_) | ((with_reducible refine FCond.i (fun hq => ?_) (fun hq => ?_)) <;> (try simp only [zA, zE, zD, zJ, zB, zI, Int.not_le, Int.not_lt] at hq)) | (with_reducible first | refine Fits.in64 (by omega) ?_ | refine FIdx.nat (by omega) ?_ | refine FIdx.int (by omega) ?_ | refine FTo.nat (by omega) ?_ | refine FTo.int (by omega) ?_) | ((with_reducible refine Need.mk ?_ ?_); focus exact needA) | (with_reducible refine FApp.grow ?_) | (refine FCall.pure (cMn) ⟨Ln.sameB _ rfl, True.intro⟩ rfl ?_) | (refine FCall.pure (cMx) ⟨Ln.sameB _ rfl, True.intro⟩ rfl ?_) | (refine FBit.shl1 (j := s.C) rfl (by omega) ?_) | (with_reducible refine FOr.pub ?_)))
                      all_goals (try (conv => whnf))
                      all_goals ((refine ⟨⟨_, [], [], Cut.nil _, Ln.sameB _ rfl, ?_, rfl⟩⟩); rfl)
                · rw [check_80 (upTo_no (r := r) hlt a4 (.inl (by rw [hrow, decide_eq_false b2, Bool.and_false])))]
                  (repeat' ((try (conv => whnf)); first | (with_reducible first | refine FCond.tA ?_ | refine FCond.fA ?_) | ((with_reducible refine FCond.i (fun hq => ?_) (fun hq => ?_)) <;> (try simp only [zA, zE, zD, zJ, zB, zI, Int.not_le, Int.not_lt] at hq)) | (with_reducible first | refine Fits.in64 (by omega) ?_ | refine FIdx.nat (by omega) ?_ | refine FIdx.int (by omega) ?_ | refine FTo.nat (by omega) ?_ | refine FTo.int (by omega) ?_) | ((with_reducible refine Need.mk ?_ ?_); focus exact needA) | (with_reducible refine FApp.grow ?_) | (refine FCall.pure (cMn) ⟨Ln.sameB _ rfl, True.intro⟩ rfl ?_) | (refine FCall.pure (cMx) ⟨Ln.sameB _ rfl, True.intro⟩ rfl ?_) | (with_reducible refine FOr.pub ?_)))
                  all_goals (try (conv => whnf))
                  all_goals ((refine ⟨⟨_, [], [], Cut.nil _, Ln.sameB _ rfl, ?_, rfl⟩⟩); rfl)
              · rw [check_80 (upTo_no (r := r) hlt a4 (.inl (by rw [hrow, decide_eq_false b1, Bool.false_and])))]
                (repeat' ((try (conv => whnf)); first | (with_reducible first | refine FCond.tA ?_ | refine FCond.fA ?_) | ((with_reducible refine FCond.i (fun hq => ?_) (fun hq => ?_)) <;> (try simp only [zA, zE, zD, zJ, zB, zI, Int.not_le, Int.not_lt] at hq)) | (with_reducible first | refine Fits.in64 (by omega) ?_ | refine FIdx.nat (by omega) ?_ | refine FIdx.int (by omega) ?_ | refine FTo.nat (by omega) ?_ | refine FTo.int (by omega) ?_) | ((with_reducible refine Need.mk ?_ ?_); focus exact needA) | (with_reducible refine FApp.grow ?_) | (refine FCall.pure (cMn) ⟨Ln.sameB _ rfl, True.intro⟩ rfl ?_) | (refine FCall.pure (cMx) ⟨Ln.sameB _ rfl, True.intro⟩ rfl ?_) | (with_reducible refine FOr.pub ?_)))
                all_goals (try (conv => whnf))
                all_goals ((refine ⟨⟨_, [], [], Cut.nil _, Ln.sameB _ rfl, ?_, rfl⟩⟩); rfl)
            · rw [check_80 (upTo_no (r := r) hlt a4 (.inl (by unfold rowS; rw [decide_eq_false hlen, Bool.false_and])))]
              (repeat' ((try (conv => whnf)); first | (with_reducible first | refine FCond.tA ?_ | refine FCond.fA ?_) | ((with_reducible refine FCond.i (fun hq => ?_) (fun hq => ?_)) <;> (try simp only [zA, zE, zD, zJ, zB, zI, Int.not_le, Int.not_lt] at hq)) | (with_reducible first | refine Fits.in64 (by omega) ?_ | refine FIdx.nat (by omega) ?_ | refine FIdx.int (by omega) ?_ | refine FTo.nat (by omega) ?_ | refine FTo.int (by omega) ?_) | ((with_reducible refine Need.mk ?_ ?_); focus exact needA) | (with_reducible refine FApp.grow ?_) | (with_reducible refine FOr.pub ?_)))
              all_goals (try (conv => whnf))
              all_goals ((refine ⟨⟨_, [], [], Cut.nil _, Ln.sameB _ rfl, ?_, rfl⟩⟩); rfl)
          · obtain rfl : r = s.amounts.length := by omega
            rw [check_ok' (upTo_ok i1 i2 i3 a4 hup)]
            (repeat' ((try (conv => whnf)); first | (with_reducible first | refine FCond.tA ?_ | refine FCond.fA ?_) | ((with_reducible refine FCond.i (fun hq => ?_) (fun hq => ?_)) <;> (try simp only [zA, zE, zD, zJ, zB, zI, Int.not_le, Int.not_lt] at hq)) | (with_reducible first | refine Fits.in64 (by omega) ?_ | refine FIdx.nat (by omega) ?_ | refine FIdx.int (by omega) ?_ | refine FTo.nat (by omega) ?_ | refine FTo.int (by omega) ?_) | ((with_reducible refine Need.mk ?_ ?_); focus exact needA) | (with_reducible refine FApp.grow ?_) | (with_reducible refine FOr.pub ?_)))
            all_goals (try (conv => whnf))
            all_goals ((refine ⟨⟨_, [], [], Cut.nil _, Ln.sameB _ rfl, ?_, rfl⟩⟩); rfl)
        · have hf : s.ok = false := by
            unfold Sheet.ok Sheet.head; rw [show inB (s.C : Int) 1 4 = false from decide_eq_false (by omega)]; simp
          rw [check_80 hf]
          (repeat' ((try (conv => whnf)); first | (with_reducible first | refine FCond.tA ?_ | refine FCond.fA ?_) | ((with_reducible refine FCond.i (fun hq => ?_) (fun hq => ?_)) <;> (try simp only [zA, zE, zD, zJ, zB, zI, Int.not_le, Int.not_lt] at hq)) | (with_reducible first | refine Fits.in64 (by omega) ?_ | refine FIdx.nat (by omega) ?_ | refine FIdx.int (by omega) ?_ | refine FTo.nat (by omega) ?_ | refine FTo.int (by omega) ?_) | ((with_reducible refine Need.mk ?_ ?_); focus exact needA) | (with_reducible refine FApp.grow ?_) | (with_reducible refine FOr.pub ?_)))
          all_goals (try (conv => whnf))
          all_goals ((refine ⟨⟨_, [], [], Cut.nil _, Ln.sameB _ rfl, ?_, rfl⟩⟩); rfl)
      · have hf : s.ok = false := by
          unfold Sheet.ok Sheet.head; rw [show inB s.gap 1 1000 = false from decide_eq_false a3]; simp
        rw [check_80 hf]
        (repeat' ((try (conv => whnf)); first | (with_reducible first | refine FCond.tA ?_ | refine FCond.fA ?_) | ((with_reducible refine FCond.i (fun hq => ?_) (fun hq => ?_)) <;> (try simp only [zA, zE, zD, zJ, zB, zI, Int.not_le, Int.not_lt] at hq)) | (with_reducible first | refine Fits.in64 (by omega) ?_ | refine FIdx.nat (by omega) ?_ | refine FIdx.int (by omega) ?_ | refine FTo.nat (by omega) ?_ | refine FTo.int (by omega) ?_) | ((with_reducible refine Need.mk ?_ ?_); focus exact needA) | (with_reducible refine FApp.grow ?_) | (with_reducible refine FOr.pub ?_)))
        all_goals (try (conv => whnf))
        all_goals ((refine ⟨⟨_, [], [], Cut.nil _, Ln.sameB _ rfl, ?_, rfl⟩⟩); rfl)
    · have hf : s.ok = false := by
        unfold Sheet.ok Sheet.head maskS; rw [show decide (s.secret.length = s.R) = false from decide_eq_false a4]; simp
      rw [check_80 hf]
      (repeat' ((try (conv => whnf)); first | (with_reducible first | refine FCond.tA ?_ | refine FCond.fA ?_) | ((with_reducible refine FCond.i (fun hq => ?_) (fun hq => ?_)) <;> (try simp only [zA, zE, zD, zJ, zB, zI, Int.not_le, Int.not_lt] at hq)) | (with_reducible first | refine Fits.in64 (by omega) ?_ | refine FIdx.nat (by omega) ?_ | refine FIdx.int (by omega) ?_ | refine FTo.nat (by omega) ?_ | refine FTo.int (by omega) ?_) | ((with_reducible refine Need.mk ?_ ?_); focus exact needA) | (with_reducible refine FApp.grow ?_) | (with_reducible refine FOr.pub ?_)))
      all_goals (try (conv => whnf))
      all_goals ((refine ⟨⟨_, [], [], Cut.nil _, Ln.sameB _ rfl, ?_, rfl⟩⟩); rfl)
  · have hf : s.ok = false := by
      unfold Sheet.ok Sheet.head; rw [show inB (s.R : Int) 1 4 = false from decide_eq_false (by omega)]; simp
    rw [check_80 hf]
    (repeat' ((try (conv => whnf)); first | (with_reducible first | refine FCond.tA ?_ | refine FCond.fA ?_) | ((with_reducible refine FCond.i (fun hq => ?_) (fun hq => ?_)) <;> (try simp only [zA, zE, zD, zJ, zB, zI, Int.not_le, Int.not_lt] at hq)) | (with_reducible first | refine Fits.in64 (by omega) ?_ | refine FIdx.nat (by omega) ?_ | refine FIdx.int (by omega) ?_ | refine FTo.nat (by omega) ?_ | refine FTo.int (by omega) ?_) | ((with_reducible refine Need.mk ?_ ?_); focus exact needA) | (with_reducible refine FApp.grow ?_) | (with_reducible refine FOr.pub ?_)))
    all_goals (try (conv => whnf))
    all_goals ((refine ⟨⟨_, [], [], Cut.nil _, Ln.sameB _ rfl, ?_, rfl⟩⟩); rfl)
end Go.Proofs.Ytlffjnmbpoemnaa

namespace Go.Proofs.Ytlffjnmbpoemnaa
open Go.RowKit

/-- A sheet with a mask, as it lies in memory. -/
abbrev cSt (f : ShF) (s : Sheet) (z e : Bool) (m : List Int) : Nat → AV := ofL [aRows f.za f.ea f.rz f.re s.amounts, aInts f.zs f.es s.secret, AI s.gap, aInts z e m]
abbrev iSt (f : ShF) (s : Sheet) (z e : Bool) (m : List Int) : AV := .ip 4 (cSt f s z e m) 0
def outS (m : List Int) (r c : Nat) : Bool := (m.getD r 0).toNat.testBit c
set_option maxHeartbeats 8000000
set_option maxRecDepth 100000
theorem colsP_ok (f : ShF) (s : Sheet) (hr : 0 < s.R) (z e : Bool) (m : List Int) : ACall Try.prog 64 [iSt f s z e m] [] (fun r h => r = AI s.C ∧ h = []) := by
  have hr' : 0 < s.amounts.length := hr
  (refine fcall_of mixed Try.func64 rfl (by decide) (hs := {}) ?k (ac := ?ac) ?c (rs := ?rs) ?r ?l ?H; (case k => kernel_rfl); (case c => (conv => (lhs; cbv))); (case r => (conv => (lhs; cbv))); (case l => exact Nat.le_of_ble_eq_true rfl))
  (repeat' ((try (conv => whnf)); first | (with_reducible first | refine FCond.tA ?_ | refine FCond.fA ?_) | ((with_reducible refine FCond.i (fun hq => ?_) (fun hq => ?_)) <;> (try simp only [zA, zE, zD, zJ, zB, zI, Int.not_le, Int.not_lt] at hq)) | (with_reducible first | refine Fits.in64 (by omega) ?_ | refine FIdx.nat (by omega) ?_ | refine FIdx.int (by omega) ?_ | refine FTo.nat (by omega) ?_ | refine FTo.int (by omega) ?_) | ((with_reducible refine Need.mk ?_ ?_); focus exact needA) | (with_reducible refine FApp.grow ?_) | (with_reducible refine FOr.pub ?_)))
  all_goals (try (conv => whnf))
  all_goals ((refine ⟨⟨_, [], [], Cut.nil _, Ln.sameB _ rfl, ?_, rfl⟩⟩); rfl)
theorem outP_ok (f : ShF) (s : Sheet) (z e : Bool) (m : List Int) (r c : Nat) (hr : r < m.length) (h0 : 0 ≤ m.getD r 0) (hc : c ≤ 64) : ACall Try.prog 71 [iSt f s z e m, AI r, AI c] [] (fun v h => v = .bool (outS m r c) ∧ h = []) := by
  obtain ⟨k, hk⟩ : ∃ k : Nat, m.getD r 0 = k := ⟨(m.getD r 0).toNat, by omega⟩
  have e1 : outS m r c = k.testBit c := by unfold outS; rw [hk]; rfl
  rw [e1]
  (refine fcall_of mixed Try.func71 rfl (by decide) (hs := {}) ?k (ac := ?ac) ?c (rs := ?rs) ?r ?l ?H; (case k => kernel_rfl); (case c => (conv => (lhs; cbv))); (case r => (conv => (lhs; cbv))); (case l => exact Nat.le_of_ble_eq_true rfl))
  cases hq7 : k.testBit c
  · (repeat' ((try (conv => whnf)); first | (with_reducible first | refine FCond.tA ?_ | refine FCond.fA ?_) | ((with_reducible refine FCond.i (fun hq => ?_) (fun hq => ?_)) <;> (try simp only [zA, zE, zD, zJ, zB, zI, Int.not_le, Int.not_lt] at hq)) | (with_reducible first | refine Fits.in64 (by omega) ?_ | refine FIdx.nat (by omega) ?_ | refine FIdx.int (by omega) ?_ | refine FTo.nat (by omega) ?_ | refine FTo.int (by omega) ?_) | ((with_reducible refine Need.mk ?_ ?_); focus exact needA) | (with_reducible refine FApp.grow ?_) | (rw [hk]; refine FBit.shrN rfl (by omega) ?_) | (refine FBit.hasF rfl hq7 ?_) | (with_reducible refine FOr.pub ?_)))
    all_goals (try (conv => whnf))
    all_goals ((refine ⟨⟨_, [], [], Cut.nil _, Ln.sameB _ rfl, ?_, rfl⟩⟩); rfl)
  · (repeat' ((try (conv => whnf)); first | (with_reducible first | refine FCond.tA ?_ | refine FCond.fA ?_) | ((with_reducible refine FCond.i (fun hq => ?_) (fun hq => ?_)) <;> (try simp only [zA, zE, zD, zJ, zB, zI, Int.not_le, Int.not_lt] at hq)) | (with_reducible first | refine Fits.in64 (by omega) ?_ | refine FIdx.nat (by omega) ?_ | refine FIdx.int (by omega) ?_ | refine FTo.nat (by omega) ?_ | refine FTo.int (by omega) ?_) | ((with_reducible refine Need.mk ?_ ?_); focus exact needA) | (with_reducible refine FApp.grow ?_) | (rw [hk]; refine FBit.shrN rfl (by omega) ?_) | (refine FBit.hasT rfl hq7 ?_) | (with_reducible refine FOr.pub ?_)))
    all_goals (try (conv => whnf))
    all_goals ((refine ⟨⟨_, [], [], Cut.nil _, Ln.sameB _ rfl, ?_, rfl⟩⟩); rfl)
def openV (f : ShF) (s : Sheet) (z e : Bool) (m : List Int) : AV := .tup 2 (ofL [if checkM s m = 0 then iSt f s z e m else .nilp, AI (checkM s m)])
theorem open_ok (f : ShF) (s : Sheet) (hn : Near s) (z e : Bool) (m : List Int) (hm : m.length ≤ 1000) : ACall Try.prog 51 [aSh f s, aInts z e m] [] (fun r h => r = openV f s z e m ∧ h = []) := by
  have cC := check_ok f s hn
  (refine fcall_of mixed Try.func51 rfl (by decide) (hs := {}) ?k (ac := ?ac) ?c (rs := ?rs) ?r ?l ?H; (case k => kernel_rfl); (case c => (conv => (lhs; cbv))); (case r => (conv => (lhs; cbv))); (case l => exact Nat.le_of_ble_eq_true rfl))
  cases hk : s.ok
  · rw [check_80 hk] at cC
    rw [show openV f s z e m = .tup 2 (ofL [.nilp, AI 80]) from by unfold openV checkM; rw [hk]; rfl]
    (repeat' ((try (conv => whnf)); first | (with_reducible first | refine FCond.tA ?_ | refine FCond.fA ?_) | ((with_reducible refine FCond.i (fun hq => ?_) (fun hq => ?_)) <;> (try simp only [zA, zE, zD, zJ, zB, zI, Int.not_le, Int.not_lt] at hq)) | (with_reducible first | refine Fits.in64 (by omega) ?_ | refine FIdx.nat (by omega) ?_ | refine FIdx.int (by omega) ?_ | refine FTo.nat (by omega) ?_ | refine FTo.int (by omega) ?_) | ((with_reducible refine Need.mk ?_ ?_); focus exact needA) | (with_reducible refine FApp.grow ?_) | (refine FCall.pure (cC) ⟨Ln.sameB _ rfl, True.intro⟩ rfl ?_) | (with_reducible refine FOr.pub ?_)))
    all_goals (try (conv => whnf))
    all_goals ((refine ⟨⟨_, [], [], Cut.nil _, Ln.sameB _ rfl, ?_, rfl⟩⟩); rfl)
  · rw [check_ok' hk] at cC
    have hs := sheet_d hk
    have cM := masks_ok f s (by have := hs.r1; omega) hn z e m hm
    cases hq7 : maskS s m
    · rw [hq7] at cM
      rw [show openV f s z e m = .tup 2 (ofL [.nilp, AI 81]) from by unfold openV checkM; rw [hk, hq7]; rfl]
      (repeat' ((try (conv => whnf)); first | (with_reducible first | refine FCond.tA ?_ | refine FCond.fA ?_) | ((with_reducible refine FCond.i (fun hq => ?_) (fun hq => ?_)) <;> (try simp only [zA, zE, zD, zJ, zB, zI, Int.not_le, Int.not_lt] at hq)) | (with_reducible first | refine Fits.in64 (by omega) ?_ | refine FIdx.nat (by omega) ?_ | refine FIdx.int (by omega) ?_ | refine FTo.nat (by omega) ?_ | refine FTo.int (by omega) ?_) | ((with_reducible refine Need.mk ?_ ?_); focus exact needA) | (with_reducible refine FApp.grow ?_) | (refine FCall.pure (cC) ⟨Ln.sameB _ rfl, True.intro⟩ rfl ?_) | (refine FCall.pure (cM) ⟨Ln.sameB _ rfl, Ln.sameB _ rfl, True.intro⟩ rfl ?_) | (with_reducible refine FOr.pub ?_)))
      all_goals (try (conv => whnf))
      all_goals ((refine ⟨⟨_, [], [], Cut.nil _, Ln.sameB _ rfl, ?_, rfl⟩⟩); rfl)
    · rw [hq7] at cM
      rw [show openV f s z e m = .tup 2 (ofL [iSt f s z e m, AI 0]) from by unfold openV checkM; rw [hk, hq7]; rfl]
      (repeat' ((try (conv => whnf)); first | (with_reducible first | refine FCond.tA ?_ | refine FCond.fA ?_) | ((with_reducible refine FCond.i (fun hq => ?_) (fun hq => ?_)) <;> (try simp only [zA, zE, zD, zJ, zB, zI, Int.not_le, Int.not_lt] at hq)) | (with_reducible first | refine Fits.in64 (by omega) ?_ | refine FIdx.nat (by omega) ?_ | refine FIdx.int (by omega) ?_ | refine FTo.nat (by omega) ?_ | refine FTo.int (by omega) ?_) | ((with_reducible refine Need.mk ?_ ?_); focus exact needA) | (with_reducible refine FApp.grow ?_) | (refine FCall.pure (cC) ⟨Ln.sameB _ rfl, True.intro⟩ rfl ?_) | (refine FCall.pure (cM) ⟨Ln.sameB _ rfl, Ln.sameB _ rfl, True.intro⟩ rfl ?_) | (with_reducible refine FOr.pub ?_)))
      all_goals (try (conv => whnf))
      exact ⟨⟨.tup 2 (ofL [iSt f s z e m, AI 0]), [], [], Cut.nil _, Ln.tupN ⟨⟨True.intro, Ln.boxP (goneB rfl) rfl ⟨⟨⟨⟨True.intro, Ln.sameB _ rfl⟩, Ln.sameB _ rfl⟩, Ln.sameB _ rfl⟩, Ln.sameB _ rfl⟩ rfl⟩, Ln.A⟩, rfl, rfl⟩⟩
def spotV (f : ShF) (s : Sheet) (z e : Bool) (m : List Int) (r c : Int) : AV := .tup 2 (ofL [if checkM s m = 0 then iSt f s z e m else .nilp, AI (checkP s m r c)])
theorem spot_ok (f : ShF) (s : Sheet) (hn : Near s) (z e : Bool) (m : List Int) (hm : m.length ≤ 1000) (r c : Int) : ACall Try.prog 48 [aSh f s, aInts z e m, AI r, AI c] [] (fun v h => v = spotV f s z e m r c ∧ h = []) := by
  have cO := open_ok f s hn z e m hm
  (refine fcall_of mixed Try.func48 rfl (by decide) (hs := {}) ?k (ac := ?ac) ?c (rs := ?rs) ?r ?l ?H; (case k => kernel_rfl); (case c => (conv => (lhs; cbv))); (case r => (conv => (lhs; cbv))); (case l => exact Nat.le_of_ble_eq_true rfl))
  by_cases h0 : checkM s m = 0
  · obtain ⟨hk, hmk⟩ := checkM_0 h0
    have hs := sheet_d hk
    have r1 := hs.r1
    have hR : s.R = s.amounts.length := rfl
    have r4 := hs.r4
    have c4 := hs.c4
    have cC := colsP_ok f s (by omega) z e m
    rw [show openV f s z e m = .tup 2 (ofL [iSt f s z e m, AI 0]) from by unfold openV; rw [if_pos h0, h0]] at cO
    by_cases hp : (0 ≤ r ∧ r < s.amounts.length) ∧ 0 ≤ c ∧ c < s.C
    · rw [show spotV f s z e m r c = .tup 2 (ofL [iSt f s z e m, AI 0]) from by
        unfold spotV checkP
        rw [if_pos h0, if_pos h0, show placeOk s r c = true from by unfold placeOk; rw [show inB r 0 ((s.R : Int) - 1) = true from decide_eq_true (by omega), show inB c 0 ((s.C : Int) - 1) = true from decide_eq_true (by omega)]; rfl]
        rfl]
      (repeat' ((try (conv => whnf)); first | (with_reducible first | refine FCond.tA ?_ | refine FCond.fA ?_) | ((with_reducible refine FCond.i (fun hq => ?_) (fun hq => ?_)) <;> (try simp only [zA, zE, zD, zJ, zB, zI, Int.not_le, Int.not_lt] at hq)) | (with_reducible first | refine Fits.in64 (by omega) ?_ | refine FIdx.nat (by omega) ?_ | refine FIdx.int (by omega) ?_ | refine FTo.nat (by omega) ?_ | refine FTo.int (by omega) ?_) | ((with_reducible refine Need.mk ?_ ?_); focus exact needA) | (with_reducible refine FApp.grow ?_) | (refine FCall.pure (cO) ⟨Ln.sameB _ rfl, Ln.sameB _ rfl, True.intro⟩ rfl ?_) | (refine FCall.pure (cC) ⟨Ln.sameB _ rfl, True.intro⟩ rfl ?_) | (with_reducible refine FOr.pub ?_)))
      all_goals (try (conv => whnf))
      all_goals ((refine ⟨⟨_, [], [], Cut.nil _, Ln.sameB _ rfl, ?_, rfl⟩⟩); rfl)
    · rw [show spotV f s z e m r c = .tup 2 (ofL [iSt f s z e m, AI 1]) from by
        unfold spotV checkP
        rw [if_pos h0, if_pos h0, show placeOk s r c = false from by unfold placeOk inB; rw [← Bool.decide_and]; exact decide_eq_false (by omega)]
        rfl]
      by_cases b1 : r < 0
      · (repeat' ((try (conv => whnf)); first | (with_reducible first | refine FCond.tA ?_ | refine FCond.fA ?_) | ((with_reducible refine FCond.i (fun hq => ?_) (fun hq => ?_)) <;> (try simp only [zA, zE, zD, zJ, zB, zI, Int.not_le, Int.not_lt] at hq)) | (with_reducible first | refine Fits.in64 (by omega) ?_ | refine FIdx.nat (by omega) ?_ | refine FIdx.int (by omega) ?_ | refine FTo.nat (by omega) ?_ | refine FTo.int (by omega) ?_) | ((with_reducible refine Need.mk ?_ ?_); focus exact needA) | (with_reducible refine FApp.grow ?_) | (refine FCall.pure (cO) ⟨Ln.sameB _ rfl, Ln.sameB _ rfl, True.intro⟩ rfl ?_) | (refine FCall.pure (cC) ⟨Ln.sameB _ rfl, True.intro⟩ rfl ?_) | (with_reducible refine FOr.pub ?_)))
        all_goals (try (conv => whnf))
        all_goals ((refine ⟨⟨_, [], [], Cut.nil _, Ln.sameB _ rfl, ?_, rfl⟩⟩); rfl)
      by_cases b2 : (s.amounts.length : Int) ≤ r
      · (repeat' ((try (conv => whnf)); first | (with_reducible first | refine FCond.tA ?_ | refine FCond.fA ?_) | ((with_reducible refine FCond.i (fun hq => ?_) (fun hq => ?_)) <;> (try simp only [zA, zE, zD, zJ, zB, zI, Int.not_le, Int.not_lt] at hq)) | (with_reducible first | refine Fits.in64 (by omega) ?_ | refine FIdx.nat (by omega) ?_ | refine FIdx.int (by omega) ?_ | refine FTo.nat (by omega) ?_ | refine FTo.int (by omega) ?_) | ((with_reducible refine Need.mk ?_ ?_); focus exact needA) | (with_reducible refine FApp.grow ?_) | (refine FCall.pure (cO) ⟨Ln.sameB _ rfl, Ln.sameB _ rfl, True.intro⟩ rfl ?_) | (refine FCall.pure (cC) ⟨Ln.sameB _ rfl, True.intro⟩ rfl ?_) | (with_reducible refine FOr.pub ?_)))
        all_goals (try (conv => whnf))
        all_goals ((refine ⟨⟨_, [], [], Cut.nil _, Ln.sameB _ rfl, ?_, rfl⟩⟩); rfl)
      by_cases b3 : c < 0
      · (repeat' ((try (conv => whnf)); first | (with_reducible first | refine FCond.tA ?_ | refine FCond.fA ?_) | ((with_reducible refine FCond.i (fun hq => ?_) (fun hq => ?_)) <;> (try simp only [zA, zE, zD, zJ, zB, zI, Int.not_le, Int.not_lt] at hq)) | (with_reducible first | refine Fits.in64 (by omega) ?_ | refine FIdx.nat (by omega) ?_ | refine FIdx.int (by omega) ?_ | refine FTo.nat (by omega) ?_ | refine FTo.int (by omega) ?_) | ((with_reducible refine Need.mk ?_ ?_); focus exact needA) | (with_reducible refine FApp.grow ?_) | (refine FCall.pure (cO) ⟨Ln.sameB _ rfl, Ln.sameB _ rfl, True.intro⟩ rfl ?_) | (refine FCall.pure (cC) ⟨Ln.sameB _ rfl, True.intro⟩ rfl ?_) | (with_reducible refine FOr.pub ?_)))
        all_goals (try (conv => whnf))
        all_goals ((refine ⟨⟨_, [], [], Cut.nil _, Ln.sameB _ rfl, ?_, rfl⟩⟩); rfl)
      · (repeat' ((try (conv => whnf)); first | (with_reducible first | refine FCond.tA ?_ | refine FCond.fA ?_) | ((with_reducible refine FCond.i (fun hq => ?_) (fun hq => ?_)) <;> (try simp only [zA, zE, zD, zJ, zB, zI, Int.not_le, Int.not_lt] at hq)) | (with_reducible first | refine Fits.in64 (by omega) ?_ | refine FIdx.nat (by omega) ?_ | refine FIdx.int (by omega) ?_ | refine FTo.nat (by omega) ?_ | refine FTo.int (by omega) ?_) | ((with_reducible refine Need.mk ?_ ?_); focus exact needA) | (with_reducible refine FApp.grow ?_) | (refine FCall.pure (cO) ⟨Ln.sameB _ rfl, Ln.sameB _ rfl, True.intro⟩ rfl ?_) | (refine FCall.pure (cC) ⟨Ln.sameB _ rfl, True.intro⟩ rfl ?_) | (with_reducible refine FOr.pub ?_)))
        all_goals (try (conv => whnf))
        all_goals ((refine ⟨⟨_, [], [], Cut.nil _, Ln.sameB _ rfl, ?_, rfl⟩⟩); rfl)
  · rw [show openV f s z e m = .tup 2 (ofL [.nilp, AI (checkM s m)]) from by unfold openV; rw [if_neg h0]] at cO
    rw [show spotV f s z e m r c = .tup 2 (ofL [.nilp, AI (checkM s m)]) from by unfold spotV checkP; rw [if_neg h0, if_neg h0]]
    (repeat' ((try (conv => whnf)); first | (with_reducible first | refine FCond.tA ?_ | refine FCond.fA ?_) | ((with_reducible refine FCond.i (fun hq => ?_) (fun hq => ?_)) <;> (try simp only [zA, zE, zD, zJ, zB, zI, Int.not_le, Int.not_lt] at hq)) | (with_reducible first | refine Fits.in64 (by omega) ?_ | refine FIdx.nat (by omega) ?_ | refine FIdx.int (by omega) ?_ | refine FTo.nat (by omega) ?_ | refine FTo.int (by omega) ?_) | ((with_reducible refine Need.mk ?_ ?_); focus exact needA) | (with_reducible refine FApp.grow ?_) | (refine FCall.pure (cO) ⟨Ln.sameB _ rfl, Ln.sameB _ rfl, True.intro⟩ rfl ?_) | (with_reducible refine FOr.pub ?_)))
    all_goals (try (conv => whnf))
    all_goals ((refine ⟨⟨_, [], [], Cut.nil _, Ln.sameB _ rfl, ?_, rfl⟩⟩); rfl)
end Go.Proofs.Ytlffjnmbpoemnaa

namespace Go.Proofs.Ytlffjnmbpoemnaa
open Go.RowKit

def sumTo (f : Nat → Int) : Nat → Int
  | 0 => 0
  | k + 1 => sumTo f k + f k
theorem sumTo_congr {f g : Nat → Int} : ∀ {k : Nat}, (∀ i, i < k → f i = g i) → sumTo f k = sumTo g k
  | 0, _ => rfl
  | k + 1, h => by simp only [sumTo]; rw [sumTo_congr fun i hi => h i (by omega), h k (by omega)]
theorem sumTo_bd {f : Nat → Int} {B : Int} (hB : 0 ≤ B) : ∀ {k : Nat}, (∀ i, i < k → -B ≤ f i ∧ f i ≤ B) → -(k * B) ≤ sumTo f k ∧ sumTo f k ≤ k * B
  | 0, _ => by simp [sumTo]
  | k + 1, h => by
    have ih := sumTo_bd hB (k := k) fun i hi => h i (by omega)
    have hk := h k (by omega)
    simp only [sumTo]
    rw [show ((k + 1 : Nat) : Int) * B = (k : Int) * B + B by rw [Int.natCast_add, Int.add_mul]; simp]
    omega
def at2 (l : List (List Int)) (r c : Nat) : Int := (l.getD r []).getD c 0
def rowSum (l : List (List Int)) (C r : Nat) : Int := sumTo (at2 l r) C
def colTo (l : List (List Int)) (r c : Nat) : Int := sumTo (fun i => at2 l i c) r
def allTo (l : List (List Int)) (C r : Nat) : Int := sumTo (rowSum l C) r
/-- Amounts of a shape, not too large. -/
structure Shape (l : List (List Int)) (R C : Nat) : Prop where
  r : l.length = R
  r1 : 1 ≤ R ∧ R ≤ 20
  c1 : 1 ≤ C ∧ C ≤ 20
  len : ∀ r, r < R → (l.getD r []).length = C
  bd : ∀ r c, r < R → c < C → -40000 ≤ at2 l r c ∧ at2 l r c ≤ 40000
theorem rowSum_bd {l : List (List Int)} {R C : Nat} (h : Shape l R C) {r : Nat} (hr : r < R) {c : Nat} (hc : c ≤ C) : -800000 ≤ sumTo (at2 l r) c ∧ sumTo (at2 l r) c ≤ 800000 := by
  have := sumTo_bd (B := 40000) (by decide) (k := c) fun i hi => h.bd r i hr (by omega)
  have := h.c1
  omega
theorem colTo_bd {l : List (List Int)} {R C : Nat} (h : Shape l R C) {c : Nat} (hc : c < C) {r : Nat} (hr : r ≤ R) : -800000 ≤ colTo l r c ∧ colTo l r c ≤ 800000 := by
  have := sumTo_bd (f := fun i => at2 l i c) (B := 40000) (by decide) (k := r) fun i hi => h.bd i c (by omega) hc
  have := h.r1
  unfold colTo
  omega
theorem allTo_bd {l : List (List Int)} {R C : Nat} (h : Shape l R C) {r : Nat} (hr : r ≤ R) : -16000000 ≤ allTo l C r ∧ allTo l C r ≤ 16000000 := by
  have := sumTo_bd (f := rowSum l C) (B := 800000) (by decide) (k := r) fun i hi => rowSum_bd h (show i < R by omega) (Nat.le_refl C)
  have := h.r1
  unfold allTo
  omega
abbrev aFun (n : Nat) (g : Nat → Int) : AV := .sl false false n 1 (fun k _ => AI (g k))
abbrev rowF (n : Nat) (g : Nat → Int) : AB := .row n 1 (fun k _ => AI (g k))
/-- The rows' sums so far: nil at first. -/
def oR : Nat → AV
  | 0 => nilS
  | r + 1 => .own 1 (r + 1)
def hR (h : AB) (g : Nat → Int) : Nat → List AB
  | 0 => [h]
  | r + 1 => [h, rowF (r + 1) g]
def midC (l : List (List Int)) (r c k : Nat) : Int := if k < c then colTo l (r + 1) k else colTo l r k
theorem midC_at (l : List (List Int)) (r c : Nat) : midC l r c c = colTo l r c := if_neg (Nat.lt_irrefl c)
theorem midC_step (l : List (List Int)) (r c k : Nat) : midC l r (c + 1) k = if k = c then midC l r c c + at2 l r c else midC l r c k := by
  rw [midC_at]
  unfold midC
  by_cases e : k = c
  · subst e; rw [if_pos (Nat.lt_succ_self k), if_pos rfl]; rfl
  · rw [if_neg e]
    by_cases hk : k < c
    · rw [if_pos hk, if_pos (by omega)]
    · rw [if_neg hk, if_neg (by omega)]
theorem midC_all (l : List (List Int)) (r : Nat) {C k : Nat} (hk : k < C) : midC l r C k = colTo l (r + 1) k := if_pos hk
theorem midC_zero (l : List (List Int)) (r k : Nat) : midC l r 0 k = colTo l r k := if_neg (Nat.not_lt_zero k)
set_option maxHeartbeats 8000000
set_option maxRecDepth 100000
theorem sums_ok (z e : Bool) (rz re : Nat → Bool) (l : List (List Int)) (R C : Nat) (h : Shape l R C) : ACall Try.prog 55 [aRows z e rz re l] [] (fun v h => v = .tup 3 (ofL [aFun R (rowSum l C), aFun C (fun c => colTo l R c), AI (allTo l C R)]) ∧ h = []) := by
  have hl := h.r
  have r1 := h.r1
  have c1 := h.c1
  have h0 := h.len 0 (by omega)
  have h0' : (l.getD (Int.toNat 0) []).length = C := h0
  (refine fcall_of mixed Try.func55 rfl (by decide) (hs := {}) ?k (ac := ?ac) ?c (rs := ?rs) ?r ?l ?H; (case k => kernel_rfl); (case c => (conv => (lhs; cbv))); (case r => (conv => (lhs; cbv))); (case l => exact Nat.le_of_ble_eq_true rfl))
  (repeat' ((try (conv => whnf)); first | (with_reducible first | refine FCond.tA ?_ | refine FCond.fA ?_) | ((with_reducible refine FCond.i (fun hq => ?_) (fun hq => ?_)) <;> (try simp only [zA, zE, zD, zJ, zB, zI, Int.not_le, Int.not_lt] at hq)) | (with_reducible first | refine Fits.in64 (by omega) ?_ | refine FIdx.nat (by omega) ?_ | refine FIdx.int (by omega) ?_ | refine FTo.nat (by omega) ?_ | refine FTo.int (by omega) ?_) | ((with_reducible refine Need.mk ?_ ?_); focus exact needA) | (with_reducible refine FApp.grow ?_) | (with_reducible refine FOr.pub ?_)))
  all_goals (try (conv => whnf))
  refine FLoop.of (ACalls.mono _) (X := Nat) (fun r => [(0, aRows z e rz re l), (2, oR r), (3, .own 0 C), (4, AI (allTo l C r)), (5, AI r)]) (fun r => hR (rowF C (colTo l r)) (rowSum l C) r) (fun r => r ≤ R) (fun r => R - r) 0
    ⟨Nat.zero_le _, [0], Cut.of (Nat.le_of_ble_eq_true rfl) rfl rfl (CutL.turned rfl (LnB.rowE (by omega) fun k hk o ho => by obtain rfl : o = 0 := (by omega); rfl) CutL.done), ⟨Ln.A, Ln.A, Ln.ownE rfl (by omega), Ln.A, Ln.A, True.intro⟩⟩ ?_
  intro r hr
  have hab := allTo_bd h hr
  by_cases hlt : r < R
  · have hlen := h.len r hlt
    have hrb := rowSum_bd h hlt (Nat.le_refl C)
    rcases r with _ | r
    · (repeat' ((try (conv => whnf)); first | (with_reducible first | refine FCond.tA ?_ | refine FCond.fA ?_) | ((with_reducible refine FCond.i (fun hq => ?_) (fun hq => ?_)) <;> (try simp only [zA, zE, zD, zJ, zB, zI, Int.not_le, Int.not_lt] at hq)) | (with_reducible first | refine Fits.in64 (by omega) ?_ | refine FIdx.nat (by omega) ?_ | refine FIdx.int (by omega) ?_ | refine FTo.nat (by omega) ?_ | refine FTo.int (by omega) ?_) | ((with_reducible refine Need.mk ?_ ?_); focus exact needA) | (with_reducible refine FApp.grow ?_) | (with_reducible refine FOr.pub ?_)))
      all_goals (try (conv => whnf))
      refine FLoop.of (ACalls.mono _) (X := Nat) (fun c => [(0, aRows z e rz re l), (2, oR (0)), (3, .own 0 C), (4, AI (allTo l C (0))), (5, AI (0 : Nat)), (6, AI (sumTo (at2 l (0)) c)), (7, AI c)]) (fun c => hR (rowF C (midC l (0) c)) (rowSum l C) (0)) (fun c => c ≤ C) (fun c => C - c) 0
        ⟨Nat.zero_le _, [0], Cut.of (Nat.le_of_ble_eq_true rfl) rfl rfl (CutL.turned rfl (LnB.rowE (Nat.le_refl _) fun k hk o ho => by rw [midC_zero]) CutL.done), allA⟩ ?_
      intro c hc
      have hsb := rowSum_bd h hlt hc
      by_cases hltc : c < C
      · have hb : -40000 ≤ (l.getD (0) []).getD c 0 ∧ (l.getD (0) []).getD c 0 ≤ 40000 := h.bd (0) c hlt hltc
        have hmb : -800000 ≤ midC l (0) c c ∧ midC l (0) c c ≤ 800000 := by rw [midC_at]; exact colTo_bd h hltc hr
        (repeat' ((try (conv => whnf)); first | (with_reducible first | refine FCond.tA ?_ | refine FCond.fA ?_) | ((with_reducible refine FCond.i (fun hq => ?_) (fun hq => ?_)) <;> (try simp only [zA, zE, zD, zJ, zB, zI, Int.not_le, Int.not_lt] at hq)) | (with_reducible first | refine Fits.in64 (by omega) ?_ | refine FIdx.nat (by omega) ?_ | refine FIdx.int (by omega) ?_ | refine FTo.nat (by omega) ?_ | refine FTo.int (by omega) ?_) | ((with_reducible refine Need.mk ?_ ?_); focus exact needA) | (with_reducible refine FApp.grow ?_) | (with_reducible refine FOr.pub ?_)))
        all_goals (try (conv => whnf))
        exact ⟨⟨c + 1, hltc, by omega, [0], Cut.of (Nat.le_of_ble_eq_true rfl) rfl rfl (CutL.turned rfl (LnB.rowE (Nat.le_refl _) fun k hk o ho => by
          rw [midC_step]; obtain rfl : o = 0 := (by omega); simp only [updRm]
          by_cases e : k = c
          · rw [if_pos e, if_pos e]; rfl
          · rw [if_neg e, if_neg e]) CutL.done), allA⟩⟩
      · obtain rfl : c = C := by omega
        have hrs : rowSum l c (0) = sumTo (at2 l (0)) c := rfl
        (repeat' ((try (conv => whnf)); first | (with_reducible first | refine FCond.tA ?_ | refine FCond.fA ?_) | ((with_reducible refine FCond.i (fun hq => ?_) (fun hq => ?_)) <;> (try simp only [zA, zE, zD, zJ, zB, zI, Int.not_le, Int.not_lt] at hq)) | (with_reducible first | refine Fits.in64 (by omega) ?_ | refine FIdx.nat (by omega) ?_ | refine FIdx.int (by omega) ?_ | refine FTo.nat (by omega) ?_ | refine FTo.int (by omega) ?_) | ((with_reducible refine Need.mk ?_ ?_); focus exact needA) | (with_reducible refine FApp.grow ?_) | (with_reducible refine FOr.pub ?_)))
        all_goals (try (conv => whnf))
        exact ⟨⟨0 + 1, hlt, by omega, [0, 1], Cut.of (Nat.le_of_ble_eq_true rfl) rfl rfl (CutL.turned rfl (LnB.rowE (Nat.le_refl _) fun k hk o ho => by rw [midC_all l _ hk]) (CutL.turned rfl (LnB.app (fun k hk => absurd hk (Nat.not_lt_zero k)) (fun o ho => by obtain rfl : o = 0 := (by omega); rfl)) CutL.done)), allA⟩⟩
    · (repeat' ((try (conv => whnf)); first | (with_reducible first | refine FCond.tA ?_ | refine FCond.fA ?_) | ((with_reducible refine FCond.i (fun hq => ?_) (fun hq => ?_)) <;> (try simp only [zA, zE, zD, zJ, zB, zI, Int.not_le, Int.not_lt] at hq)) | (with_reducible first | refine Fits.in64 (by omega) ?_ | refine FIdx.nat (by omega) ?_ | refine FIdx.int (by omega) ?_ | refine FTo.nat (by omega) ?_ | refine FTo.int (by omega) ?_) | ((with_reducible refine Need.mk ?_ ?_); focus exact needA) | (with_reducible refine FApp.grow ?_) | (with_reducible refine FOr.pub ?_)))
      all_goals (try (conv => whnf))
      refine FLoop.of (ACalls.mono _) (X := Nat) (fun c => [(0, aRows z e rz re l), (2, oR (r + 1)), (3, .own 0 C), (4, AI (allTo l C (r + 1))), (5, AI (r + 1 : Nat)), (6, AI (sumTo (at2 l (r + 1)) c)), (7, AI c)]) (fun c => hR (rowF C (midC l (r + 1) c)) (rowSum l C) (r + 1)) (fun c => c ≤ C) (fun c => C - c) 0
        ⟨Nat.zero_le _, [0, 1], Cut.of (Nat.le_of_ble_eq_true rfl) rfl rfl (CutL.turned rfl (LnB.rowE (Nat.le_refl _) fun k hk o ho => by rw [midC_zero]) (CutL.turned rfl LnB.A CutL.done)), allA⟩ ?_
      intro c hc
      have hsb := rowSum_bd h hlt hc
      by_cases hltc : c < C
      · have hb : -40000 ≤ (l.getD (r + 1) []).getD c 0 ∧ (l.getD (r + 1) []).getD c 0 ≤ 40000 := h.bd (r + 1) c hlt hltc
        have hmb : -800000 ≤ midC l (r + 1) c c ∧ midC l (r + 1) c c ≤ 800000 := by rw [midC_at]; exact colTo_bd h hltc hr
        (repeat' ((try (conv => whnf)); first | (with_reducible first | refine FCond.tA ?_ | refine FCond.fA ?_) | ((with_reducible refine FCond.i (fun hq => ?_) (fun hq => ?_)) <;> (try simp only [zA, zE, zD, zJ, zB, zI, Int.not_le, Int.not_lt] at hq)) | (with_reducible first | refine Fits.in64 (by omega) ?_ | refine FIdx.nat (by omega) ?_ | refine FIdx.int (by omega) ?_ | refine FTo.nat (by omega) ?_ | refine FTo.int (by omega) ?_) | ((with_reducible refine Need.mk ?_ ?_); focus exact needA) | (with_reducible refine FApp.grow ?_) | (with_reducible refine FOr.pub ?_)))
        all_goals (try (conv => whnf))
        exact ⟨⟨c + 1, hltc, by omega, [0, 1], Cut.of (Nat.le_of_ble_eq_true rfl) rfl rfl (CutL.turned rfl (LnB.rowE (Nat.le_refl _) fun k hk o ho => by
          rw [midC_step]; obtain rfl : o = 0 := (by omega); simp only [updRm]
          by_cases e : k = c
          · rw [if_pos e, if_pos e]; rfl
          · rw [if_neg e, if_neg e]) (CutL.turned rfl LnB.A CutL.done)), allA⟩⟩
      · obtain rfl : c = C := by omega
        have hrs : rowSum l c (r + 1) = sumTo (at2 l (r + 1)) c := rfl
        (repeat' ((try (conv => whnf)); first | (with_reducible first | refine FCond.tA ?_ | refine FCond.fA ?_) | ((with_reducible refine FCond.i (fun hq => ?_) (fun hq => ?_)) <;> (try simp only [zA, zE, zD, zJ, zB, zI, Int.not_le, Int.not_lt] at hq)) | (with_reducible first | refine Fits.in64 (by omega) ?_ | refine FIdx.nat (by omega) ?_ | refine FIdx.int (by omega) ?_ | refine FTo.nat (by omega) ?_ | refine FTo.int (by omega) ?_) | ((with_reducible refine Need.mk ?_ ?_); focus exact needA) | (with_reducible refine FApp.grow ?_) | (with_reducible refine FOr.pub ?_)))
        all_goals (try (conv => whnf))
        exact ⟨⟨r + 1 + 1, hlt, by omega, [0, 2], Cut.of (Nat.le_of_ble_eq_true rfl) rfl rfl (CutL.turned rfl (LnB.rowE (Nat.le_refl _) fun k hk o ho => by rw [midC_all l _ hk]) (CutL.turned rfl (LnB.app (fun k hk o ho => rfl) (fun o ho => by obtain rfl : o = 0 := (by omega); rfl)) CutL.done)), allA⟩⟩
  · obtain rfl : r = R := by omega
    obtain ⟨n, rfl⟩ : ∃ n, r = n + 1 := ⟨r - 1, by omega⟩
    (repeat' ((try (conv => whnf)); first | (with_reducible first | refine FCond.tA ?_ | refine FCond.fA ?_) | ((with_reducible refine FCond.i (fun hq => ?_) (fun hq => ?_)) <;> (try simp only [zA, zE, zD, zJ, zB, zI, Int.not_le, Int.not_lt] at hq)) | (with_reducible first | refine Fits.in64 (by omega) ?_ | refine FIdx.nat (by omega) ?_ | refine FIdx.int (by omega) ?_ | refine FTo.nat (by omega) ?_ | refine FTo.int (by omega) ?_) | ((with_reducible refine Need.mk ?_ ?_); focus exact needA) | (with_reducible refine FApp.grow ?_) | (with_reducible refine FOr.pub ?_)))
    all_goals (try (conv => whnf))
    exact ⟨⟨.tup 3 (ofL [aFun (n + 1) (rowSum l C), aFun C (fun c => colTo l (n + 1) c), AI (allTo l C (n + 1))]), [], [], Cut.nil _, Ln.tupN ⟨⟨⟨True.intro, Ln.pubE (goneB rfl) rfl (Nat.le_refl _) rfl (fun _ _ _ _ => rfl)⟩, Ln.pubE (goneB rfl) rfl (Nat.le_refl _) rfl (fun _ _ _ _ => rfl)⟩, Ln.A⟩, rfl, rfl⟩⟩
end Go.Proofs.Ytlffjnmbpoemnaa

namespace Go.Proofs.Ytlffjnmbpoemnaa
open Go.RowKit

def eqTo (f g : Nat → Int) (n : Nat) : Bool := (List.range n).all fun k => decide (f k = g k)
theorem eqTo_no {f g : Nat → Int} {n k : Nat} (hk : k < n) (h : f k ≠ g k) : eqTo f g n = false := by
  unfold eqTo
  rw [List.all_eq_false]
  exact ⟨k, List.mem_range.2 hk, by simpa using h⟩
theorem eqTo_yes {f g : Nat → Int} {n : Nat} (h : ∀ k, k < n → f k = g k) : eqTo f g n = true := by
  unfold eqTo
  rw [List.all_eq_true]
  exact fun k hk => decide_eq_true (h k (List.mem_range.1 hk))
theorem eqTo_iff {f g : Nat → Int} {n : Nat} : eqTo f g n = true ↔ ∀ k, k < n → f k = g k := by
  unfold eqTo
  simp [List.all_eq_true]
set_option maxHeartbeats 8000000
set_option maxRecDepth 100000
theorem same_ok (n : Nat) (f g : Nat → Int) (hn : n ≤ 1000) : ACall Try.prog 56 [aFun n f, aFun n g] [] (fun r h => r = .bool (eqTo f g n) ∧ h = []) := by
  (refine fcall_of mixed Try.func56 rfl (by decide) (hs := {}) ?k (ac := ?ac) ?c (rs := ?rs) ?r ?l ?H; (case k => kernel_rfl); (case c => (conv => (lhs; cbv))); (case r => (conv => (lhs; cbv))); (case l => exact Nat.le_of_ble_eq_true rfl))
  (repeat' ((try (conv => whnf)); first | (with_reducible first | refine FCond.tA ?_ | refine FCond.fA ?_) | ((with_reducible refine FCond.i (fun hq => ?_) (fun hq => ?_)) <;> (try simp only [zA, zE, zD, zJ, zB, zI, Int.not_le, Int.not_lt] at hq)) | (with_reducible first | refine Fits.in64 (by omega) ?_ | refine FIdx.nat (by omega) ?_ | refine FIdx.int (by omega) ?_ | refine FTo.nat (by omega) ?_ | refine FTo.int (by omega) ?_) | ((with_reducible refine Need.mk ?_ ?_); focus exact needA) | (with_reducible refine FApp.grow ?_) | (with_reducible refine FOr.pub ?_)))
  all_goals (try (conv => whnf))
  refine FLoop.of (ACalls.mono _) (X := Nat) (fun i => [(0, aFun n f), (1, aFun n g), (5, AI i)]) (fun _ => []) (fun i => i ≤ n ∧ ∀ k, k < i → f k = g k) (fun i => n - i) 0 ⟨⟨Nat.zero_le _, fun k hk => absurd hk (Nat.not_lt_zero k)⟩, [], Cut.A, allA⟩ ?_
  rintro i ⟨hi, hall⟩
  by_cases hlt : i < n
  · by_cases h : f i = g i
    · (repeat' ((try (conv => whnf)); first | (with_reducible first | refine FCond.tA ?_ | refine FCond.fA ?_) | ((with_reducible refine FCond.i (fun hq => ?_) (fun hq => ?_)) <;> (try simp only [zA, zE, zD, zJ, zB, zI, Int.not_le, Int.not_lt] at hq)) | (with_reducible first | refine Fits.in64 (by omega) ?_ | refine FIdx.nat (by omega) ?_ | refine FIdx.int (by omega) ?_ | refine FTo.nat (by omega) ?_ | refine FTo.int (by omega) ?_) | ((with_reducible refine Need.mk ?_ ?_); focus exact needA) | (with_reducible refine FApp.grow ?_) | (with_reducible refine FOr.pub ?_)))
      all_goals (try (conv => whnf))
      all_goals exact ⟨⟨i + 1, ⟨hlt, below_step hall h⟩, by omega, [], Cut.nil _, allA⟩⟩
    · rw [eqTo_no hlt h]
      (repeat' ((try (conv => whnf)); first | (with_reducible first | refine FCond.tA ?_ | refine FCond.fA ?_) | ((with_reducible refine FCond.i (fun hq => ?_) (fun hq => ?_)) <;> (try simp only [zA, zE, zD, zJ, zB, zI, Int.not_le, Int.not_lt] at hq)) | (with_reducible first | refine Fits.in64 (by omega) ?_ | refine FIdx.nat (by omega) ?_ | refine FIdx.int (by omega) ?_ | refine FTo.nat (by omega) ?_ | refine FTo.int (by omega) ?_) | ((with_reducible refine Need.mk ?_ ?_); focus exact needA) | (with_reducible refine FApp.grow ?_) | (with_reducible refine FOr.pub ?_)))
      all_goals (try (conv => whnf))
      all_goals ((refine ⟨⟨_, [], [], Cut.nil _, Ln.sameB _ rfl, ?_, rfl⟩⟩); rfl)
  · obtain rfl : i = n := by omega
    rw [eqTo_yes hall]
    (repeat' ((try (conv => whnf)); first | (with_reducible first | refine FCond.tA ?_ | refine FCond.fA ?_) | ((with_reducible refine FCond.i (fun hq => ?_) (fun hq => ?_)) <;> (try simp only [zA, zE, zD, zJ, zB, zI, Int.not_le, Int.not_lt] at hq)) | (with_reducible first | refine Fits.in64 (by omega) ?_ | refine FIdx.nat (by omega) ?_ | refine FIdx.int (by omega) ?_ | refine FTo.nat (by omega) ?_ | refine FTo.int (by omega) ?_) | ((with_reducible refine Need.mk ?_ ?_); focus exact needA) | (with_reducible refine FApp.grow ?_) | (with_reducible refine FOr.pub ?_)))
    all_goals (try (conv => whnf))
    all_goals ((refine ⟨⟨_, [], [], Cut.nil _, Ln.sameB _ rfl, ?_, rfl⟩⟩); first | rfl | simp)
end Go.Proofs.Ytlffjnmbpoemnaa
