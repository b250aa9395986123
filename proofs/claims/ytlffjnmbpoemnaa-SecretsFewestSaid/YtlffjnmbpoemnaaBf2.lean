/- Secrets: Size of the reference. / Secrets: Better of the reference. / Secrets: the smallest masks (SecretsFewest). / Plain facts on memory: slices that read as lists, worlds that extend other worlds / How the form's readings of data give cells: slices, ints / What a law's row asks behind the walk: the call returned true and the world only has more / From handed data to abstract values; from a reading of a law to what its row asks / Secrets: how sheets, places and wider masks read. -/
import Derived.Test.YtlffjnmbpoemnaaBf1
import Derived.WalkKit
import Derived.WalkSpells
import Derived.WalkLawsBesides
import Derived.Deep.QuietTactic
import Derived.BigQuiet
import Derived.Lib.Hide
import Derived.Deep.Slices
import Derived.Lib.SmallJoins
import Derived.OpenShut
import Derived.WideKeyArgs
import Derived.Deep.OwnRows
import Derived.ProofKit
import Derived.JoinedOf
import Derived.Test.YtlffjnmbpoemnaaBk6
import Derived.Test.YtlffjnmbpoemnaaBk7
set_option linter.unusedSimpArgs false
set_option linter.unusedVariables false
namespace Go.Proofs.Ytlffjnmbpoemnaa
open Go.RowKit

theorem cntR_bd2 (m : List Int) (r : Nat) {c : Nat} (hc : c ≤ 4) : 0 ≤ cntR m r c ∧ cntR m r c ≤ 4 := by
  have h1 := sumTo_bd (f := fun i => if outS m r i then 1 else 0) (B := 1) (by decide) (k := c) fun i hi => by split <;> omega
  have h2 : 0 ≤ cntR m r c := sumTo_nn fun i hi => by split <;> omega
  unfold cntR at h2 ⊢
  omega
theorem left_bd2 {s : Sheet} (hs : SheetOk s) (m : List Int) {r : Nat} (hr : r ≤ s.R) : 0 ≤ leftTo s m r ∧ leftTo s m r ≤ 160000 := by
  have h1 := sumTo_bd (f := fun i => outTo s m i s.C) (B := 40000) (by decide) (k := r) fun i hi => by
    have := outTo_bd hs m (show i < s.R by omega) (Nat.le_refl s.C); omega
  have h2 : 0 ≤ leftTo s m r := sumTo_nn fun i hi => (outTo_bd hs m (show i < s.R by omega) (Nat.le_refl s.C)).1
  have := hs.r4
  unfold leftTo at h2 ⊢
  omega
theorem many_bd2 (m : List Int) {r : Nat} (hr : r ≤ 4) : 0 ≤ manyTo m r ∧ manyTo m r ≤ 16 := by
  have h1 := sumTo_bd (f := fun i => ((pop (m.getD i 0).toNat : Nat) : Int)) (B := 4) (by decide) (k := r) fun i hi => by
    have := pop_le (m.getD i 0).toNat; omega
  have h2 := many_nn m r
  unfold manyTo at h2 ⊢
  omega
theorem cnt_pop {s : Sheet} (hs : SheetOk s) {m : List Int} (hm : MaskOk s m) {r : Nat} (hr : r < s.R) : manyTo m (r + 1) = manyTo m r + cntR m r s.C := by
  have c4 := hs.c4
  obtain ⟨k, hk, hk16, hkC⟩ := mask_16 hs hm hr
  have := pop_cnt s.C (by omega) k hk16 hkC
  show manyTo m r + ((pop (m.getD r 0).toNat : Nat) : Int) = _
  unfold cntR outS
  rw [hk, Int.toNat_natCast, this]
set_option maxHeartbeats 16000000
set_option maxRecDepth 100000
theorem size_ok (f : ShF) (s : Sheet) (hs : SheetOk s) (z e : Bool) (m : List Int) (hm : MaskOk s m) : ACall Try.prog 53 [aSh f s, aInts z e m] [] (fun v h => v = .tup 2 (ofL [AI (manyTo m s.R), AI (leftTo s m s.R)]) ∧ h = []) := by
  have r4 := hs.r4
  have r1 := hs.r1
  have c4 := hs.c4
  have hml := hm.len
  have hRl : s.R = s.amounts.length := rfl
  have cC := columns_ok f s (by omega)
  (refine fcall_of mixed Try.func53 rfl (by decide) (hs := {}) ?k (ac := ?ac) ?c (rs := ?rs) ?r ?l ?H; (case k => kernel_rfl); (case c => (conv => (lhs; cbv))); (case r => (conv => (lhs; cbv))); (case l => exact Nat.le_of_ble_eq_true rfl))
  (repeat' ((try (conv => whnf)); first | (with_reducible first | refine FCond.tA ?_ | refine FCond.fA ?_) | ((with_reducible refine FCond.i (fun hq => ?_) (fun hq => ?_)) <;> (try simp only [zA, zE, zD, zJ, zB, zI, Int.not_le, Int.not_lt] at hq)) | (with_reducible first | refine Fits.in64 (by omega) ?_ | refine FIdx.nat (by omega) ?_ | refine FIdx.int (by omega) ?_ | refine FTo.nat (by omega) ?_ | refine FTo.int (by omega) ?_) | ((with_reducible refine Need.mk ?_ ?_); focus exact needA) | (with_reducible refine FApp.grow ?_) | (with_reducible refine FOr.pub ?_)))
  all_goals (try (conv => whnf))
  refine FLoop.of (ACalls.mono _) (X := Nat) (fun r => [(1, aInts z e m), (2, .ptr 0 0), (4, AI (manyTo m r)), (5, AI (leftTo s m r)), (6, AI r)]) (fun _ => [.box 3 (cSh f s)]) (fun r => r ≤ s.R) (fun r => s.R - r) 0 ⟨Nat.zero_le _, [0], Cut.A, allA⟩ ?_
  intro r hr
  have b1 := many_bd2 m (show r ≤ 4 by omega)
  have b2 := left_bd2 hs m hr
  by_cases hlt : r < s.R
  · obtain ⟨b, hb, hb16, -⟩ := mask_16 hs hm hlt
    have hrow := hs.row r hlt
    (repeat' ((try (conv => whnf)); first | (with_reducible first | refine FCond.tA ?_ | refine FCond.fA ?_) | ((with_reducible refine FCond.i (fun hq => ?_) (fun hq => ?_)) <;> (try simp only [zA, zE, zD, zJ, zB, zI, Int.not_le, Int.not_lt] at hq)) | (with_reducible first | refine Fits.in64 (by omega) ?_ | refine FIdx.nat (by omega) ?_ | refine FIdx.int (by omega) ?_ | refine FTo.nat (by omega) ?_ | refine FTo.int (by omega) ?_) | ((with_reducible refine Need.mk ?_ ?_); focus exact needA) | (with_reducible refine FApp.grow ?_) | (with_reducible refine FOr.pub ?_)))
    all_goals (try (conv => whnf))
    refine FLoop.of (ACalls.mono _) (X := Nat) (fun c => [(1, aInts z e m), (2, .ptr 0 0), (4, AI (manyTo m r + cntR m r c)), (5, AI (leftTo s m r + outTo s m r c)), (6, AI r), (7, AI c)]) (fun _ => [.box 3 (cSh f s)]) (fun c => c ≤ s.C) (fun c => s.C - c) 0
      ⟨Nat.zero_le _, [0], Cut.A, Ln.A, Ln.A, Ln.int (by show manyTo m r = manyTo m r + 0; omega), Ln.int (by show leftTo s m r = leftTo s m r + 0; omega), Ln.A, Ln.A, True.intro⟩ ?_
    intro c hc
    have b3 := cntR_bd2 m r (show c ≤ 4 by omega)
    have b4 := outTo_bd hs m hlt hc
    by_cases hltc : c < s.C
    · have ha : 0 ≤ (s.amounts.getD r []).getD c 0 ∧ (s.amounts.getD r []).getD c 0 ≤ 10000 := hs.amt r c hlt hltc
      have eo : outS m r c = b.testBit c := by unfold outS; rw [hb]; rfl
      have cH := has_ok b c (by omega)
      cases hq7 : b.testBit c
      · rw [hq7] at cH
        have e1 : cntR m r (c + 1) = cntR m r c + 0 := by show cntR m r c + (if outS m r c then 1 else 0) = _; rw [eo, hq7]; rfl
        have e2 : outTo s m r (c + 1) = outTo s m r c + 0 := by show outTo s m r c + (if outS m r c then s.A r c else 0) = _; rw [eo, hq7]; rfl
        (repeat' ((try (conv => whnf)); first | (with_reducible first | refine FCond.tA ?_ | refine FCond.fA ?_) | ((with_reducible refine FCond.i (fun hq => ?_) (fun hq => ?_)) <;> (try simp only [zA, zE, zD, zJ, zB, zI, Int.not_le, Int.not_lt] at hq)) | (with_reducible first | refine Fits.in64 (by omega) ?_ | refine FIdx.nat (by omega) ?_ | refine FIdx.int (by omega) ?_ | refine FTo.nat (by omega) ?_ | refine FTo.int (by omega) ?_) | ((with_reducible refine Need.mk ?_ ?_); focus exact needA) | (with_reducible refine FApp.grow ?_) | (refine FCall.pure (cC) ⟨Ln.sameB _ rfl, True.intro⟩ rfl ?_) | (rw [hb]; (refine FCall.pure (cH) ⟨Ln.sameB _ rfl, Ln.sameB _ rfl, True.intro⟩ rfl ?_)) | (with_reducible refine FOr.pub ?_)))
        all_goals (try (conv => whnf))
        exact ⟨⟨c + 1, hltc, by show s.C - (c + 1) < s.C - c; omega, [0], Cut.A, allA⟩⟩
      · rw [hq7] at cH
        have e1 : cntR m r (c + 1) = cntR m r c + 1 := by show cntR m r c + (if outS m r c then 1 else 0) = _; rw [eo, hq7]; rfl
        have e2 : outTo s m r (c + 1) = outTo s m r c + (s.amounts.getD r []).getD c 0 := by show outTo s m r c + (if outS m r c then s.A r c else 0) = _; rw [eo, hq7]; rfl
        (repeat' ((try (conv => whnf)); first | (with_reducible first | refine FCond.tA ?_ | refine FCond.fA ?_) | ((with_reducible refine FCond.i (fun hq => ?_) (fun hq => ?_)) <;> (try simp only [zA, zE, zD, zJ, zB, zI, Int.not_le, Int.not_lt] at hq)) | (with_reducible first | refine Fits.in64 (by omega) ?_ | refine FIdx.nat (by omega) ?_ | refine FIdx.int (by omega) ?_ | refine FTo.nat (by omega) ?_ | refine FTo.int (by omega) ?_) | ((with_reducible refine Need.mk ?_ ?_); focus exact needA) | (with_reducible refine FApp.grow ?_) | (refine FCall.pure (cC) ⟨Ln.sameB _ rfl, True.intro⟩ rfl ?_) | (rw [hb]; (refine FCall.pure (cH) ⟨Ln.sameB _ rfl, Ln.sameB _ rfl, True.intro⟩ rfl ?_)) | (with_reducible refine FOr.pub ?_)))
        all_goals (try (conv => whnf))
        exact ⟨⟨c + 1, hltc, by show s.C - (c + 1) < s.C - c; omega, [0], Cut.A, allA⟩⟩
    · have hcE : c = s.C := by omega
      subst hcE
      have e1 := cnt_pop hs hm hlt
      have e2 : leftTo s m (r + 1) = leftTo s m r + outTo s m r s.C := rfl
      (repeat' ((try (conv => whnf)); first | (with_reducible first | refine FCond.tA ?_ | refine FCond.fA ?_) | ((with_reducible refine FCond.i (fun hq => ?_) (fun hq => ?_)) <;> (try simp only [zA, zE, zD, zJ, zB, zI, Int.not_le, Int.not_lt] at hq)) | (with_reducible first | refine Fits.in64 (by omega) ?_ | refine FIdx.nat (by omega) ?_ | refine FIdx.int (by omega) ?_ | refine FTo.nat (by omega) ?_ | refine FTo.int (by omega) ?_) | ((with_reducible refine Need.mk ?_ ?_); focus exact needA) | (with_reducible refine FApp.grow ?_) | (refine FCall.pure (cC) ⟨Ln.sameB _ rfl, True.intro⟩ rfl ?_) | (with_reducible refine FOr.pub ?_)))
      all_goals (try (conv => whnf))
      exact ⟨⟨r + 1, hlt, by show s.R - (r + 1) < s.R - r; omega, [0], Cut.A, allA⟩⟩
  · have hrE : r = s.R := by omega
    subst hrE
    (repeat' ((try (conv => whnf)); first | (with_reducible first | refine FCond.tA ?_ | refine FCond.fA ?_) | ((with_reducible refine FCond.i (fun hq => ?_) (fun hq => ?_)) <;> (try simp only [zA, zE, zD, zJ, zB, zI, Int.not_le, Int.not_lt] at hq)) | (with_reducible first | refine Fits.in64 (by omega) ?_ | refine FIdx.nat (by omega) ?_ | refine FIdx.int (by omega) ?_ | refine FTo.nat (by omega) ?_ | refine FTo.int (by omega) ?_) | ((with_reducible refine Need.mk ?_ ?_); focus exact needA) | (with_reducible refine FApp.grow ?_) | (with_reducible refine FOr.pub ?_)))
    all_goals (try (conv => whnf))
    all_goals ((refine ⟨⟨_, [], [], Cut.nil _, Ln.sameB _ rfl, ?_, rfl⟩⟩); rfl)
end Go.Proofs.Ytlffjnmbpoemnaa

namespace Go.Proofs.Ytlffjnmbpoemnaa
open Go.RowKit

theorem lex_lt (a b : List Int) (k : Nat) : (cmpI (a.getD k 0) (b.getD k 0) < 0) = (a.getD k 0 < b.getD k 0) := by
  unfold cmpI
  apply propext
  split
  · omega
  · split <;> omega
theorem cmpM_1 {w : Bool} {s : Sheet} {a b : List Int} (h : ¬ p1 w s a = p1 w s b) : decide (cmpM w s a b < 0) = decide (p1 w s a < p1 w s b) := decide_eq_decide.2 (by rw [cmpM_lt]; omega)
theorem cmpM_2 {w : Bool} {s : Sheet} {a b : List Int} (h : p1 w s a = p1 w s b) (h2 : ¬ p2 w s a = p2 w s b) : decide (cmpM w s a b < 0) = decide (p2 w s a < p2 w s b) := decide_eq_decide.2 (by rw [cmpM_lt]; omega)
theorem cmpM_3 {w : Bool} {s : Sheet} {a b : List Int} (h : p1 w s a = p1 w s b) (h2 : p2 w s a = p2 w s b) : decide (cmpM w s a b < 0) = decide (lexK a b a.length 0 < 0) := decide_eq_decide.2 (by rw [cmpM_lt]; omega)
set_option maxHeartbeats 16000000
set_option maxRecDepth 100000
theorem better_ok (w : Bool) (f : ShF) (s : Sheet) (hs : SheetOk s) (z e : Bool) (a : List Int) (ha : MaskOk s a) (z2 e2 : Bool) (b : List Int) (hb : MaskOk s b) : ACall Try.prog 26 [aSh f s, aInts z e a, aInts z2 e2 b, .bool w] [] (fun v h => v = .bool (decide (cmpM w s a b < 0)) ∧ h = []) := by
  have r4 := hs.r4
  have hal := ha.len
  have hbl := hb.len
  have cA := size_ok f s hs z e a ha
  have cB := size_ok f s hs z2 e2 b hb
  (refine fcall_of mixed Try.func26 rfl (by decide) (hs := {}) ?k (ac := ?ac) ?c (rs := ?rs) ?r ?l ?H; (case k => kernel_rfl); (case c => (conv => (lhs; cbv))); (case r => (conv => (lhs; cbv))); (case l => exact Nat.le_of_ble_eq_true rfl))
  cases w
  · by_cases h1 : manyTo a s.R = manyTo b s.R
    · by_cases h2 : leftTo s a s.R = leftTo s b s.R
      · rw [show decide (cmpM false s a b < 0) = decide (lexK a b a.length 0 < 0) from cmpM_3 h1 h2]
        (repeat' ((try (conv => whnf)); first | (with_reducible first | refine FCond.tA ?_ | refine FCond.fA ?_) | ((with_reducible refine FCond.i (fun hq => ?_) (fun hq => ?_)) <;> (try simp only [zA, zE, zD, zJ, zB, zI, Int.not_le, Int.not_lt] at hq)) | (with_reducible first | refine Fits.in64 (by omega) ?_ | refine FIdx.nat (by omega) ?_ | refine FIdx.int (by omega) ?_ | refine FTo.nat (by omega) ?_ | refine FTo.int (by omega) ?_) | ((with_reducible refine Need.mk ?_ ?_); focus exact needA) | (with_reducible refine FApp.grow ?_) | (refine FCall.pure (cA) ⟨Ln.sameB _ rfl, Ln.sameB _ rfl, True.intro⟩ rfl ?_) | (refine FCall.pure (cB) ⟨Ln.sameB _ rfl, Ln.sameB _ rfl, True.intro⟩ rfl ?_) | (with_reducible refine FOr.pub ?_)))
        all_goals (try (conv => whnf))
        refine FLoop.of (ACalls.mono _) (X := Nat) (fun k => [(1, aInts z e a), (2, aInts z2 e2 b), (13, AI k)]) (fun _ => []) (fun k => k ≤ a.length ∧ lexK a b a.length 0 = lexK a b (a.length - k) k) (fun k => a.length - k) 0 ⟨⟨Nat.zero_le _, rfl⟩, [], Cut.A, allA⟩ ?_
        rintro k ⟨hk, hL⟩
        by_cases hlt : k < a.length
        · obtain ⟨m, hm⟩ : ∃ m, a.length - k = m + 1 := ⟨a.length - k - 1, by omega⟩
          rw [hm, lexK] at hL
          by_cases he : a.getD k 0 = b.getD k 0
          · rw [if_pos he] at hL
            (repeat' ((try (conv => whnf)); first | (with_reducible first | refine FCond.tA ?_ | refine FCond.fA ?_) | ((with_reducible refine FCond.i (fun hq => ?_) (fun hq => ?_)) <;> (try simp only [zA, zE, zD, zJ, zB, zI, Int.not_le, Int.not_lt] at hq)) | (with_reducible first | refine Fits.in64 (by omega) ?_ | refine FIdx.nat (by omega) ?_ | refine FIdx.int (by omega) ?_ | refine FTo.nat (by omega) ?_ | refine FTo.int (by omega) ?_) | ((with_reducible refine Need.mk ?_ ?_); focus exact needA) | (with_reducible refine FApp.grow ?_) | (with_reducible refine FOr.pub ?_)))
            all_goals (try (conv => whnf))
            exact ⟨⟨k + 1, ⟨hlt, by rw [hL, show a.length - (k + 1) = m by omega]⟩, by show _ - (k + 1) < _ - k; omega, [], Cut.nil _, allA⟩⟩
          · rw [if_neg he] at hL
            rw [hL, show decide (cmpI (a.getD k 0) (b.getD k 0) < 0) = decide (a.getD k 0 < b.getD k 0) from decide_eq_decide.2 (by rw [lex_lt])]
            (repeat' ((try (conv => whnf)); first | (with_reducible first | refine FCond.tA ?_ | refine FCond.fA ?_) | ((with_reducible refine FCond.i (fun hq => ?_) (fun hq => ?_)) <;> (try simp only [zA, zE, zD, zJ, zB, zI, Int.not_le, Int.not_lt] at hq)) | (with_reducible first | refine Fits.in64 (by omega) ?_ | refine FIdx.nat (by omega) ?_ | refine FIdx.int (by omega) ?_ | refine FTo.nat (by omega) ?_ | refine FTo.int (by omega) ?_) | ((with_reducible refine Need.mk ?_ ?_); focus exact needA) | (with_reducible refine FApp.grow ?_) | (with_reducible refine FOr.pub ?_)))
            all_goals (try (conv => whnf))
            all_goals ((refine ⟨⟨_, [], [], Cut.nil _, Ln.sameB _ rfl, ?_, rfl⟩⟩); rfl)
        · rw [show a.length - k = 0 by omega, lexK] at hL
          rw [hL]
          (repeat' ((try (conv => whnf)); first | (with_reducible first | refine FCond.tA ?_ | refine FCond.fA ?_) | ((with_reducible refine FCond.i (fun hq => ?_) (fun hq => ?_)) <;> (try simp only [zA, zE, zD, zJ, zB, zI, Int.not_le, Int.not_lt] at hq)) | (with_reducible first | refine Fits.in64 (by omega) ?_ | refine FIdx.nat (by omega) ?_ | refine FIdx.int (by omega) ?_ | refine FTo.nat (by omega) ?_ | refine FTo.int (by omega) ?_) | ((with_reducible refine Need.mk ?_ ?_); focus exact needA) | (with_reducible refine FApp.grow ?_) | (with_reducible refine FOr.pub ?_)))
          all_goals (try (conv => whnf))
          all_goals ((refine ⟨⟨_, [], [], Cut.nil _, Ln.sameB _ rfl, ?_, rfl⟩⟩); rfl)
      · rw [show decide (cmpM false s a b < 0) = decide (leftTo s a s.R < leftTo s b s.R) from cmpM_2 h1 h2]
        (repeat' ((try (conv => whnf)); first | (with_reducible first | refine FCond.tA ?_ | refine FCond.fA ?_) | ((with_reducible refine FCond.i (fun hq => ?_) (fun hq => ?_)) <;> (try simp only [zA, zE, zD, zJ, zB, zI, Int.not_le, Int.not_lt] at hq)) | (with_reducible first | refine Fits.in64 (by omega) ?_ | refine FIdx.nat (by omega) ?_ | refine FIdx.int (by omega) ?_ | refine FTo.nat (by omega) ?_ | refine FTo.int (by omega) ?_) | ((with_reducible refine Need.mk ?_ ?_); focus exact needA) | (with_reducible refine FApp.grow ?_) | (refine FCall.pure (cA) ⟨Ln.sameB _ rfl, Ln.sameB _ rfl, True.intro⟩ rfl ?_) | (refine FCall.pure (cB) ⟨Ln.sameB _ rfl, Ln.sameB _ rfl, True.intro⟩ rfl ?_) | (with_reducible refine FOr.pub ?_)))
        all_goals (try (conv => whnf))
        all_goals ((refine ⟨⟨_, [], [], Cut.nil _, Ln.sameB _ rfl, ?_, rfl⟩⟩); rfl)
    · rw [show decide (cmpM false s a b < 0) = decide (manyTo a s.R < manyTo b s.R) from cmpM_1 h1]
      (repeat' ((try (conv => whnf)); first | (with_reducible first | refine FCond.tA ?_ | refine FCond.fA ?_) | ((with_reducible refine FCond.i (fun hq => ?_) (fun hq => ?_)) <;> (try simp only [zA, zE, zD, zJ, zB, zI, Int.not_le, Int.not_lt] at hq)) | (with_reducible first | refine Fits.in64 (by omega) ?_ | refine FIdx.nat (by omega) ?_ | refine FIdx.int (by omega) ?_ | refine FTo.nat (by omega) ?_ | refine FTo.int (by omega) ?_) | ((with_reducible refine Need.mk ?_ ?_); focus exact needA) | (with_reducible refine FApp.grow ?_) | (refine FCall.pure (cA) ⟨Ln.sameB _ rfl, Ln.sameB _ rfl, True.intro⟩ rfl ?_) | (refine FCall.pure (cB) ⟨Ln.sameB _ rfl, Ln.sameB _ rfl, True.intro⟩ rfl ?_) | (with_reducible refine FOr.pub ?_)))
      all_goals (try (conv => whnf))
      all_goals ((refine ⟨⟨_, [], [], Cut.nil _, Ln.sameB _ rfl, ?_, rfl⟩⟩); rfl)
  · by_cases h1 : leftTo s a s.R = leftTo s b s.R
    · by_cases h2 : manyTo a s.R = manyTo b s.R
      · rw [show decide (cmpM true s a b < 0) = decide (lexK a b a.length 0 < 0) from cmpM_3 h1 h2]
        (repeat' ((try (conv => whnf)); first | (with_reducible first | refine FCond.tA ?_ | refine FCond.fA ?_) | ((with_reducible refine FCond.i (fun hq => ?_) (fun hq => ?_)) <;> (try simp only [zA, zE, zD, zJ, zB, zI, Int.not_le, Int.not_lt] at hq)) | (with_reducible first | refine Fits.in64 (by omega) ?_ | refine FIdx.nat (by omega) ?_ | refine FIdx.int (by omega) ?_ | refine FTo.nat (by omega) ?_ | refine FTo.int (by omega) ?_) | ((with_reducible refine Need.mk ?_ ?_); focus exact needA) | (with_reducible refine FApp.grow ?_) | (refine FCall.pure (cA) ⟨Ln.sameB _ rfl, Ln.sameB _ rfl, True.intro⟩ rfl ?_) | (refine FCall.pure (cB) ⟨Ln.sameB _ rfl, Ln.sameB _ rfl, True.intro⟩ rfl ?_) | (with_reducible refine FOr.pub ?_)))
        all_goals (try (conv => whnf))
        refine FLoop.of (ACalls.mono _) (X := Nat) (fun k => [(1, aInts z e a), (2, aInts z2 e2 b), (13, AI k)]) (fun _ => []) (fun k => k ≤ a.length ∧ lexK a b a.length 0 = lexK a b (a.length - k) k) (fun k => a.length - k) 0 ⟨⟨Nat.zero_le _, rfl⟩, [], Cut.A, allA⟩ ?_
        rintro k ⟨hk, hL⟩
        by_cases hlt : k < a.length
        · obtain ⟨m, hm⟩ : ∃ m, a.length - k = m + 1 := ⟨a.length - k - 1, by omega⟩
          rw [hm, lexK] at hL
          by_cases he : a.getD k 0 = b.getD k 0
          · rw [if_pos he] at hL
            (repeat' ((try (conv => whnf)); first | (with_reducible first | refine FCond.tA ?_ | refine FCond.fA ?_) | ((with_reducible refine FCond.i (fun hq => ?_) (fun hq => ?_)) <;> (try simp only [zA, zE, zD, zJ, zB, zI, Int.not_le, Int.not_lt] at hq)) | (with_reducible first | refine Fits.in64 (by omega) ?_ | refine FIdx.nat (by omega) ?_ | refine FIdx.int (by omega) ?_ | refine FTo.nat (by omega) ?_ | refine FTo.int (by omega) ?_) | ((with_reducible refine Need.mk ?_ ?_); focus exact needA) | (with_reducible refine FApp.grow ?_) | (with_reducible refine FOr.pub ?_)))
            all_goals (try (conv => whnf))
            exact ⟨⟨k + 1, ⟨hlt, by rw [hL, show a.length - (k + 1) = m by omega]⟩, by show _ - (k + 1) < _ - k; omega, [], Cut.nil _, allA⟩⟩
          · rw [if_neg he] at hL
            rw [hL, show decide (cmpI (a.getD k 0) (b.getD k 0) < 0) = decide (a.getD k 0 < b.getD k 0) from decide_eq_decide.2 (by rw [lex_lt])]
            (repeat' ((try (conv => whnf)); first | (with_reducible first | refine FCond.tA ?_ | refine FCond.fA ?_) | ((with_reducible refine FCond.i (fun hq => ?_) (fun hq => ?_)) <;> (try simp only [zA, zE, zD, zJ, zB, zI, Int.not_le, Int.not_lt] at hq)) | (with_reducible first | refine Fits.in64 (by omega) ?_ | refine FIdx.nat (by omega) ?_ | refine FIdx.int (by omega) ?_ | refine FTo.nat (by omega) ?_ | refine FTo.int (by omega) ?_) | ((with_reducible refine Need.mk ?_ ?_); focus exact needA) | (with_reducible refine FApp.grow ?_) | (with_reducible refine FOr.pub ?_)))
            all_goals (try (conv => whnf))
            all_goals ((refine ⟨⟨_, [], [], Cut.nil _, Ln.sameB _ rfl, ?_, rfl⟩⟩); rfl)
        · rw [show a.length - k = 0 by omega, lexK] at hL
          rw [hL]
          (repeat' ((try (conv => whnf)); first | (with_reducible first | refine FCond.tA ?_ | refine FCond.fA ?_) | ((with_reducible refine FCond.i (fun hq => ?_) (fun hq => ?_)) <;> (try simp only [zA, zE, zD, zJ, zB, zI, Int.not_le, Int.not_lt] at hq)) | (with_reducible first | refine Fits.in64 (by omega) ?_ | refine FIdx.nat (by omega) ?_ | refine FIdx.int (by omega) ?_ | refine FTo.nat (by omega) ?_ | refine FTo.int (by omega) ?_) | ((with_reducible refine Need.mk ?_ ?_); focus exact needA) | (with_reducible refine FApp.grow ?_) | (with_reducible refine FOr.pub ?_)))
          all_goals (try (conv => whnf))
          all_goals ((refine ⟨⟨_, [], [], Cut.nil _, Ln.sameB _ rfl, ?_, rfl⟩⟩); rfl)
      · rw [show decide (cmpM true s a b < 0) = decide (manyTo a s.R < manyTo b s.R) from cmpM_2 h1 h2]
        (repeat' ((try (conv => whnf)); first | (with_reducible first | refine FCond.tA ?_ | refine FCond.fA ?_) | ((with_reducible refine FCond.i (fun hq => ?_) (fun hq => ?_)) <;> (try simp only [zA, zE, zD, zJ, zB, zI, Int.not_le, Int.not_lt] at hq)) | (with_reducible first | refine Fits.in64 (by omega) ?_ | refine FIdx.nat (by omega) ?_ | refine FIdx.int (by omega) ?_ | refine FTo.nat (by omega) ?_ | refine FTo.int (by omega) ?_) | ((with_reducible refine Need.mk ?_ ?_); focus exact needA) | (with_reducible refine FApp.grow ?_) | (refine FCall.pure (cA) ⟨Ln.sameB _ rfl, Ln.sameB _ rfl, True.intro⟩ rfl ?_) | (refine FCall.pure (cB) ⟨Ln.sameB _ rfl, Ln.sameB _ rfl, True.intro⟩ rfl ?_) | (with_reducible refine FOr.pub ?_)))
        all_goals (try (conv => whnf))
        all_goals ((refine ⟨⟨_, [], [], Cut.nil _, Ln.sameB _ rfl, ?_, rfl⟩⟩); rfl)
    · rw [show decide (cmpM true s a b < 0) = decide (leftTo s a s.R < leftTo s b s.R) from cmpM_1 h1]
      (repeat' ((try (conv => whnf)); first | (with_reducible first | refine FCond.tA ?_ | refine FCond.fA ?_) | ((with_reducible refine FCond.i (fun hq => ?_) (fun hq => ?_)) <;> (try simp only [zA, zE, zD, zJ, zB, zI, Int.not_le, Int.not_lt] at hq)) | (with_reducible first | refine Fits.in64 (by omega) ?_ | refine FIdx.nat (by omega) ?_ | refine FIdx.int (by omega) ?_ | refine FTo.nat (by omega) ?_ | refine FTo.int (by omega) ?_) | ((with_reducible refine Need.mk ?_ ?_); focus exact needA) | (with_reducible refine FApp.grow ?_) | (refine FCall.pure (cA) ⟨Ln.sameB _ rfl, Ln.sameB _ rfl, True.intro⟩ rfl ?_) | (refine FCall.pure (cB) ⟨Ln.sameB _ rfl, Ln.sameB _ rfl, True.intro⟩ rfl ?_) | (with_reducible refine FOr.pub ?_)))
      all_goals (try (conv => whnf))
      all_goals ((refine ⟨⟨_, [], [], Cut.nil _, Ln.sameB _ rfl, ?_, rfl⟩⟩); rfl)
end Go.Proofs.Ytlffjnmbpoemnaa

namespace Go.Proofs.Ytlffjnmbpoemnaa
open Go.RowKit

def allM (s : Sheet) : List Int := List.replicate s.R (((2 ^ s.C : Nat) : Int) - 1)
theorem allM_get {s : Sheet} {r : Nat} (hr : r < s.R) : (allM s).getD r 0 = ((2 ^ s.C : Nat) : Int) - 1 := by unfold allM; simp [List.getD, hr]
theorem allM_ok (s : Sheet) : MaskOk s (allM s) := ⟨by simp [allM], fun r hr => by rw [allM_get hr]; have := Nat.two_pow_pos s.C; omega⟩
theorem allM_out {s : Sheet} {r c : Nat} (hr : r < s.R) (hc : c < s.C) : outS (allM s) r c = true := by
  unfold outS
  rw [allM_get hr, show (((2 ^ s.C : Nat) : Int) - 1).toNat = 2 ^ s.C - 1 by have := Nat.two_pow_pos s.C; omega, Nat.testBit_two_pow_sub_one]
  exact decide_eq_true hc
theorem allM_safe {s : Sheet} (hs : SheetOk s) {m : List Int} (h : safeS s m = true) : safeS s (allM s) = true := safe_more hs (fun _ _ hr hc _ => allM_out hr hc) h
def alV : Nat → AV
  | 0 => nilS
  | r + 1 => .own 1 (r + 1)
def alB (T : Nat) : Nat → List AB
  | 0 => []
  | r + 1 => [rowF (r + 1) (fun _ => (T : Int) - 1)]
set_option maxHeartbeats 16000000
set_option maxRecDepth 100000
theorem fewest_any (f : ShF) (s : Sheet) (z e : Bool) (m : List Int) : ACall Try.prog 6 [aSh f s, aInts z e m] [] (fun v h => v = .bool true ∧ h = []) := by
  have cV := valid_ok f s z e m
  (refine fcall_of mixed Try.func6 rfl (by decide) (hs := { pub := [10] }) ?k (ac := ?ac) ?c (rs := ?rs) ?r ?l ?H; (case k => kernel_rfl); (case c => (conv => (lhs; cbv))); (case r => (conv => (lhs; cbv))); (case l => exact Nat.le_of_ble_eq_true rfl))
  cases hv : validS s m
  · rw [hv] at cV
    (repeat' ((try (conv => whnf)); first | (with_reducible first | refine FCond.tA ?_ | refine FCond.fA ?_) | ((with_reducible refine FCond.i (fun hq => ?_) (fun hq => ?_)) <;> (try simp only [zA, zE, zD, zJ, zB, zI, Int.not_le, Int.not_lt] at hq)) | (with_reducible first | refine Fits.in64 (by omega) ?_ | refine FIdx.nat (by omega) ?_ | refine FIdx.int (by omega) ?_ | refine FTo.nat (by omega) ?_ | refine FTo.int (by omega) ?_) | ((with_reducible refine Need.mk ?_ ?_); focus exact needA) | (with_reducible refine FApp.grow ?_) | (refine FCall.pure (cV) ⟨Ln.sameB _ rfl, Ln.sameB _ rfl, True.intro⟩ rfl ?_) | (refine FCall.pure works_ok True.intro rfl ?_) | (with_reducible refine FOr.pub ?_)))
    all_goals (try (conv => whnf))
    all_goals ((refine ⟨⟨_, [], [], Cut.nil _, Ln.sameB _ rfl, ?_, rfl⟩⟩); rfl)
  rw [hv] at cV
  obtain ⟨hn, hk, hs, hm, hm20, hR3, hC3⟩ := valid_d hv
  have r1 := hs.r1
  have c1 := hs.c1
  have hml := hm.len
  have hRl : s.R = s.amounts.length := rfl
  have cC := columns_ok f s (by omega)
  have cL := least_ok f s hn (fun _ => hR3)
  have cW := worth_ok f s hn (fun _ => hR3)
  unfold bestV at cL cW
  rw [if_pos hk] at cL cW
  have cS := pSafe_ok f s hn (fun _ => hR3) z e m (by omega)
  rw [safeV_0 (checkM_of hk hm)] at cS
  have hal : (allM s).length = s.R := (allM_ok s).len
  have cA := pSafe_ok f s hn (fun _ => hR3) false false (allM s) (by omega)
  rw [safeV_0 (checkM_of hk (allM_ok s))] at cA
  obtain ⟨T, hT⟩ : ∃ T, 2 ^ s.C = T := ⟨_, rfl⟩
  have hp1 : 1 ≤ T := by rw [← hT]; exact Nat.two_pow_pos _
  have hp2 : T ≤ 8 := by rw [← hT]; exact Nat.pow_le_pow_right (n := 2) (by omega) hC3
  have h1 := best_all false hs
  have h2 := best_all true hs
  cases hb1 : bestO false s with
  | none =>
    rw [hb1] at h1 cL
    cases hb2 : bestO true s with
    | some b => rw [hb2] at h2; have := h1 b h2.1; rw [h2.2.1] at this; cases this
    | none =>
      rw [hb2] at cW
      have q1 := h1 m hm
      have q2 := h1 (allM s) (allM_ok s)
      rw [q1] at cS
      rw [q2] at cA
      clear h1 h2
      (repeat' ((try (conv => whnf)); first | (with_reducible first | refine FCond.tA ?_ | refine FCond.fA ?_) | ((with_reducible refine FCond.i (fun hq => ?_) (fun hq => ?_)) <;> (try simp only [zA, zE, zD, zJ, zB, zI, Int.not_le, Int.not_lt] at hq)) | (with_reducible first | refine Fits.in64 (by omega) ?_ | refine FIdx.nat (by omega) ?_ | refine FIdx.int (by omega) ?_ | refine FTo.nat (by omega) ?_ | refine FTo.int (by omega) ?_) | ((with_reducible refine Need.mk ?_ ?_); focus exact needA) | (with_reducible refine FApp.grow ?_) | (refine FCall.pure (cV) ⟨Ln.sameB _ rfl, Ln.sameB _ rfl, True.intro⟩ rfl ?_) | (refine FCall.pure (cL) ⟨Ln.sameB _ rfl, True.intro⟩ rfl ?_) | (refine FCall.pure (cW) ⟨Ln.sameB _ rfl, True.intro⟩ rfl ?_) | (with_reducible refine FOr.pub ?_)))
      all_goals (try (conv => whnf))
      refine FLoop.of (ACalls.mono _) (X := Nat) (fun r => [(1, aInts z e m), (2, .ptr 0 0), (5, nilS), (6, AI 3), (7, nilS), (8, AI 3), (9, alV r), (10, AI r)]) (fun r => .box 3 (cSh f s) :: alB T r) (fun r => r ≤ s.R) (fun r => s.R - r) 0 ⟨Nat.zero_le _, [0], Cut.A, allA⟩ ?_
      intro r hr
      by_cases hlt : r < s.R
      · rcases r with _ | r
        · (repeat' ((try (conv => whnf)); first | (with_reducible first | refine FCond.tA ?_ | refine FCond.fA ?_) | ((with_reducible refine FCond.i (fun hq => ?_) (fun hq => ?_)) <;> (try simp only [zA, zE, zD, zJ, zB, zI, Int.not_le, Int.not_lt] at hq)) | (with_reducible first | refine Fits.in64 (by omega) ?_ | refine FIdx.nat (by omega) ?_ | refine FIdx.int (by omega) ?_ | refine FTo.nat (by omega) ?_ | refine FTo.int (by omega) ?_) | ((with_reducible refine Need.mk ?_ ?_); focus exact needA) | (with_reducible refine FApp.grow ?_) | (refine FCall.pure (cC) ⟨Ln.sameB _ rfl, True.intro⟩ rfl ?_) | (with_reducible refine Fits.inU (by omega) ?_) | (refine FBit.shl1 rfl (by omega) ?_; rw [hT]) | (with_reducible refine FOr.pub ?_)))
          all_goals (try (conv => whnf))
          exact ⟨⟨0 + 1, hlt, by show s.R - (0 + 1) < s.R - 0; omega, [0, 1], Cut.of (Nat.le_of_ble_eq_true rfl) rfl rfl (CutL.turned rfl LnB.A (CutL.turned rfl (LnB.rowE (Nat.le_refl _) fun k hk o ho => by obtain rfl : k = 0 := Nat.lt_one_iff.1 hk; obtain rfl : o = 0 := Nat.lt_one_iff.1 ho; rfl) CutL.done)), allA⟩⟩
        · (repeat' ((try (conv => whnf)); first | (with_reducible first | refine FCond.tA ?_ | refine FCond.fA ?_) | ((with_reducible refine FCond.i (fun hq => ?_) (fun hq => ?_)) <;> (try simp only [zA, zE, zD, zJ, zB, zI, Int.not_le, Int.not_lt] at hq)) | (with_reducible first | refine Fits.in64 (by omega) ?_ | refine FIdx.nat (by omega) ?_ | refine FIdx.int (by omega) ?_ | refine FTo.nat (by omega) ?_ | refine FTo.int (by omega) ?_) | ((with_reducible refine Need.mk ?_ ?_); focus exact needA) | (with_reducible refine FApp.grow ?_) | (refine FCall.pure (cC) ⟨Ln.sameB _ rfl, True.intro⟩ rfl ?_) | (with_reducible refine Fits.inU (by omega) ?_) | (refine FBit.shl1 rfl (by omega) ?_; rw [hT]) | (with_reducible refine FOr.pub ?_)))
          all_goals (try (conv => whnf))
          exact ⟨⟨r + 1 + 1, hlt, by show s.R - (r + 1 + 1) < s.R - (r + 1); omega, [0, 2], Cut.of (Nat.le_of_ble_eq_true rfl) rfl rfl (CutL.turned rfl LnB.A (CutL.turned rfl (LnB.app (sz := 1) (fun k hk o ho => rfl) (fun o ho => by obtain rfl : o = 0 := Nat.lt_one_iff.1 ho; rfl)) CutL.done)), allA⟩⟩
      obtain ⟨R', hR'⟩ : ∃ R', s.R = R' + 1 := ⟨s.R - 1, by omega⟩
      have hrE : r = R' + 1 := by omega
      subst hrE
      (repeat' ((try (conv => whnf)); first | (with_reducible first | refine FCond.tA ?_ | refine FCond.fA ?_) | ((with_reducible refine FCond.i (fun hq => ?_) (fun hq => ?_)) <;> (try simp only [zA, zE, zD, zJ, zB, zI, Int.not_le, Int.not_lt] at hq)) | (with_reducible first | refine Fits.in64 (by omega) ?_ | refine FIdx.nat (by omega) ?_ | refine FIdx.int (by omega) ?_ | refine FTo.nat (by omega) ?_ | refine FTo.int (by omega) ?_) | ((with_reducible refine Need.mk ?_ ?_); focus exact needA) | (with_reducible refine FApp.grow ?_) | (with_reducible refine FOr.pub ?_)))
      all_goals (try (conv => whnf))
      refine FWk.of [(1, aInts z e m), (2, .ptr 0 0), (5, nilS), (6, AI 3), (7, nilS), (8, AI 3), (9, aInts false false (allM s))] [.box 3 (cSh f s)] [0] Cut.A ⟨Ln.A, Ln.A, Ln.A, Ln.A, Ln.A, Ln.A, Ln.pubE (goneB rfl) rfl (Nat.le_refl _) (by rw [hal]; exact hR'.symm) (fun k hk _ _ => int_eq ((allM_get (by omega)).trans (by rw [hT]))), True.intro⟩ ?_
      (repeat' ((try (conv => whnf)); first | (with_reducible first | refine FCond.t rfl ?_ | refine FCond.f rfl ?_) | ((with_reducible refine FCond.uT (fun hq => ?_)); rw [hq]; (with_reducible refine FCond.t rfl ?_); clear hq) | ((with_reducible refine FCond.uF (fun hq => ?_)); rw [hq]; (with_reducible refine FCond.f rfl ?_); clear hq) | ((with_reducible refine FCond.i2 (fun hq => ?_) (fun hq => ?_)) <;> (rw [hq]; (with_reducible first | refine FCond.t rfl ?_ | refine FCond.f rfl ?_); (try simp only [zA, zE, zD, zJ, zB, zI, Int.not_le, Int.not_lt] at hq))) | (with_reducible first | refine Fits.in64 (by omega) ?_ | refine FIdx.nat (by omega) ?_ | refine FIdx.int (by omega) ?_ | refine FTo.nat (by omega) ?_ | refine FTo.int (by omega) ?_) | ((with_reducible refine Need.mk ?_ ?_); focus exact needA) | (with_reducible refine FApp.grow ?_) | (refine FCall.pure (cA) ⟨Ln.sameB _ rfl, Ln.sameB _ rfl, True.intro⟩ rfl ?_) | (refine FCall.pure (cS) ⟨Ln.sameB _ rfl, Ln.sameB _ rfl, True.intro⟩ rfl ?_) | (refine FCall.pure works_ok True.intro rfl ?_) | (with_reducible refine FOr.pub ?_)))
      all_goals (try (conv => whnf))
      all_goals ((refine ⟨⟨_, [], [], Cut.nil _, Ln.sameB _ rfl, ?_, rfl⟩⟩); rfl)
  | some a =>
    rw [hb1] at h1 cL
    cases hb2 : bestO true s with
    | none => rw [hb2] at h2; have := h2 a h1.1; rw [h1.2.1] at this; cases this
    | some b =>
      rw [hb2] at h2 cW
      obtain ⟨ha, hsa, hla⟩ := h1
      obtain ⟨hb, hsb, hlb⟩ := h2
      have hal2 := ha.len
      have hbl2 := hb.len
      rw [allM_safe hs hsa] at cA
      have cI1 := isMask_ok f s (by omega) hn false false a (by omega)
      have cI2 := isMask_ok f s (by omega) hn false false b (by omega)
      rw [mask_of ha] at cI1
      rw [mask_of hb] at cI2
      have cS1 := pSafe_ok f s hn (fun _ => hR3) false false a (by omega)
      have cS2 := pSafe_ok f s hn (fun _ => hR3) false false b (by omega)
      rw [safeV_0 (checkM_of hk ha), hsa] at cS1
      rw [safeV_0 (checkM_of hk hb), hsb] at cS2
      have cB1 := better_ok false f s hs false false b hb false false a ha
      have cB2 := better_ok true f s hs false false a ha false false b hb
      rw [decide_eq_false (hla b hb hsb)] at cB1
      rw [decide_eq_false (hlb a ha hsa)] at cB2
      have cB3 := better_ok false f s hs z e m hm false false a ha
      have cB4 := better_ok true f s hs z e m hm false false b hb
      (repeat' ((try (conv => whnf)); first | (with_reducible first | refine FCond.tA ?_ | refine FCond.fA ?_) | ((with_reducible refine FCond.i (fun hq => ?_) (fun hq => ?_)) <;> (try simp only [zA, zE, zD, zJ, zB, zI, Int.not_le, Int.not_lt] at hq)) | (with_reducible first | refine Fits.in64 (by omega) ?_ | refine FIdx.nat (by omega) ?_ | refine FIdx.int (by omega) ?_ | refine FTo.nat (by omega) ?_ | refine FTo.int (by omega) ?_) | ((with_reducible refine Need.mk ?_ ?_); focus exact needA) | (with_reducible refine FApp.grow ?_) | (refine FCall.pure (cV) ⟨Ln.sameB _ rfl, Ln.sameB _ rfl, True.intro⟩ rfl ?_) | (refine FCall.pure (cL) ⟨Ln.sameB _ rfl, True.intro⟩ rfl ?_) | (refine FCall.pure (cW) ⟨Ln.sameB _ rfl, True.intro⟩ rfl ?_) | (with_reducible refine FOr.pub ?_)))
      all_goals (try (conv => whnf))
      refine FLoop.of (ACalls.mono _) (X := Nat) (fun r => [(1, aInts z e m), (2, .ptr 0 0), (5, aInts false false a), (6, AI 0), (7, aInts false false b), (8, AI 0), (9, alV r), (10, AI r)]) (fun r => .box 3 (cSh f s) :: alB T r) (fun r => r ≤ s.R) (fun r => s.R - r) 0 ⟨Nat.zero_le _, [0], Cut.A, allA⟩ ?_
      intro r hr
      by_cases hlt : r < s.R
      · rcases r with _ | r
        · (repeat' ((try (conv => whnf)); first | (with_reducible first | refine FCond.tA ?_ | refine FCond.fA ?_) | ((with_reducible refine FCond.i (fun hq => ?_) (fun hq => ?_)) <;> (try simp only [zA, zE, zD, zJ, zB, zI, Int.not_le, Int.not_lt] at hq)) | (with_reducible first | refine Fits.in64 (by omega) ?_ | refine FIdx.nat (by omega) ?_ | refine FIdx.int (by omega) ?_ | refine FTo.nat (by omega) ?_ | refine FTo.int (by omega) ?_) | ((with_reducible refine Need.mk ?_ ?_); focus exact needA) | (with_reducible refine FApp.grow ?_) | (refine FCall.pure (cC) ⟨Ln.sameB _ rfl, True.intro⟩ rfl ?_) | (with_reducible refine Fits.inU (by omega) ?_) | (refine FBit.shl1 rfl (by omega) ?_; rw [hT]) | (with_reducible refine FOr.pub ?_)))
          all_goals (try (conv => whnf))
          exact ⟨⟨0 + 1, hlt, by show s.R - (0 + 1) < s.R - 0; omega, [0, 1], Cut.of (Nat.le_of_ble_eq_true rfl) rfl rfl (CutL.turned rfl LnB.A (CutL.turned rfl (LnB.rowE (Nat.le_refl _) fun k hk o ho => by obtain rfl : k = 0 := Nat.lt_one_iff.1 hk; obtain rfl : o = 0 := Nat.lt_one_iff.1 ho; rfl) CutL.done)), allA⟩⟩
        · (repeat' ((try (conv => whnf)); first | (with_reducible first | refine FCond.tA ?_ | refine FCond.fA ?_) | ((with_reducible refine FCond.i (fun hq => ?_) (fun hq => ?_)) <;> (try simp only [zA, zE, zD, zJ, zB, zI, Int.not_le, Int.not_lt] at hq)) | (with_reducible first | refine Fits.in64 (by omega) ?_ | refine FIdx.nat (by omega) ?_ | refine FIdx.int (by omega) ?_ | refine FTo.nat (by omega) ?_ | refine FTo.int (by omega) ?_) | ((with_reducible refine Need.mk ?_ ?_); focus exact needA) | (with_reducible refine FApp.grow ?_) | (refine FCall.pure (cC) ⟨Ln.sameB _ rfl, True.intro⟩ rfl ?_) | (with_reducible refine Fits.inU (by omega) ?_) | (refine FBit.shl1 rfl (by omega) ?_; rw [hT]) | (with_reducible refine FOr.pub ?_)))
          all_goals (try (conv => whnf))
          exact ⟨⟨r + 1 + 1, hlt, by show s.R - (r + 1 + 1) < s.R - (r + 1); omega, [0, 2], Cut.of (Nat.le_of_ble_eq_true rfl) rfl rfl (CutL.turned rfl LnB.A (CutL.turned rfl (LnB.app (sz := 1) (fun k hk o ho => rfl) (fun o ho => by obtain rfl : o = 0 := Nat.lt_one_iff.1 ho; rfl)) CutL.done)), allA⟩⟩
      obtain ⟨R', hR'⟩ : ∃ R', s.R = R' + 1 := ⟨s.R - 1, by omega⟩
      have hrE : r = R' + 1 := by omega
      subst hrE
      (repeat' ((try (conv => whnf)); first | (with_reducible first | refine FCond.tA ?_ | refine FCond.fA ?_) | ((with_reducible refine FCond.i (fun hq => ?_) (fun hq => ?_)) <;> (try simp only [zA, zE, zD, zJ, zB, zI, Int.not_le, Int.not_lt] at hq)) | (with_reducible first | refine Fits.in64 (by omega) ?_ | refine FIdx.nat (by omega) ?_ | refine FIdx.int (by omega) ?_ | refine FTo.nat (by omega) ?_ | refine FTo.int (by omega) ?_) | ((with_reducible refine Need.mk ?_ ?_); focus exact needA) | (with_reducible refine FApp.grow ?_) | (with_reducible refine FOr.pub ?_)))
      all_goals (try (conv => whnf))
      refine FWk.of [(1, aInts z e m), (2, .ptr 0 0), (5, aInts false false a), (6, AI 0), (7, aInts false false b), (8, AI 0), (9, aInts false false (allM s))] [.box 3 (cSh f s)] [0] Cut.A ⟨Ln.A, Ln.A, Ln.A, Ln.A, Ln.A, Ln.A, Ln.pubE (goneB rfl) rfl (Nat.le_refl _) (by rw [hal]; exact hR'.symm) (fun k hk _ _ => int_eq ((allM_get (by omega)).trans (by rw [hT]))), True.intro⟩ ?_
      cases hq1 : safeS s m
      · rw [hq1] at cS
        clear hla hlb
        (repeat' ((try (conv => whnf)); first | (with_reducible first | refine FCond.t rfl ?_ | refine FCond.f rfl ?_) | ((with_reducible refine FCond.uT (fun hq => ?_)); rw [hq]; (with_reducible refine FCond.t rfl ?_); clear hq) | ((with_reducible refine FCond.uF (fun hq => ?_)); rw [hq]; (with_reducible refine FCond.f rfl ?_); clear hq) | ((with_reducible refine FCond.i2 (fun hq => ?_) (fun hq => ?_)) <;> (rw [hq]; (with_reducible first | refine FCond.t rfl ?_ | refine FCond.f rfl ?_); (try simp only [zA, zE, zD, zJ, zB, zI, Int.not_le, Int.not_lt] at hq))) | (with_reducible first | refine Fits.in64 (by omega) ?_ | refine FIdx.nat (by omega) ?_ | refine FIdx.int (by omega) ?_ | refine FTo.nat (by omega) ?_ | refine FTo.int (by omega) ?_) | ((with_reducible refine Need.mk ?_ ?_); focus exact needA) | (with_reducible refine FApp.grow ?_) | (refine FCall.pure (cA) ⟨Ln.sameB _ rfl, Ln.sameB _ rfl, True.intro⟩ rfl ?_) | (refine FCall.pure (cS) ⟨Ln.sameB _ rfl, Ln.sameB _ rfl, True.intro⟩ rfl ?_) | (refine FCall.pure (cS1) ⟨Ln.sameB _ rfl, Ln.sameB _ rfl, True.intro⟩ rfl ?_) | (refine FCall.pure (cS2) ⟨Ln.sameB _ rfl, Ln.sameB _ rfl, True.intro⟩ rfl ?_) | (refine FCall.pure (cI1) ⟨Ln.sameB _ rfl, Ln.sameB _ rfl, True.intro⟩ rfl ?_) | (refine FCall.pure (cI2) ⟨Ln.sameB _ rfl, Ln.sameB _ rfl, True.intro⟩ rfl ?_) | (refine FCall.pure (cB1) ⟨Ln.sameB _ rfl, Ln.sameB _ rfl, Ln.sameB _ rfl, Ln.sameB _ rfl, True.intro⟩ rfl ?_) | (refine FCall.pure (cB2) ⟨Ln.sameB _ rfl, Ln.sameB _ rfl, Ln.sameB _ rfl, Ln.sameB _ rfl, True.intro⟩ rfl ?_) | (refine FCall.pure works_ok True.intro rfl ?_) | (with_reducible refine FOr.pub ?_)))
        all_goals (try (conv => whnf))
        all_goals ((refine ⟨⟨_, [], [], Cut.nil _, Ln.sameB _ rfl, ?_, rfl⟩⟩); rfl)
      · rw [hq1] at cS
        rw [decide_eq_false (hla m hm hq1)] at cB3
        rw [decide_eq_false (hlb m hm hq1)] at cB4
        clear hla hlb
        (repeat' ((try (conv => whnf)); first | (with_reducible first | refine FCond.t rfl ?_ | refine FCond.f rfl ?_) | ((with_reducible refine FCond.uT (fun hq => ?_)); rw [hq]; (with_reducible refine FCond.t rfl ?_); clear hq) | ((with_reducible refine FCond.uF (fun hq => ?_)); rw [hq]; (with_reducible refine FCond.f rfl ?_); clear hq) | ((with_reducible refine FCond.i2 (fun hq => ?_) (fun hq => ?_)) <;> (rw [hq]; (with_reducible first | refine FCond.t rfl ?_ | refine FCond.f rfl ?_); (try simp only [zA, zE, zD, zJ, zB, zI, Int.not_le, Int.not_lt] at hq))) | (with_reducible first | refine Fits.in64 (by omega) ?_ | refine FIdx.nat (by omega) ?_ | refine FIdx.int (by omega) ?_ | refine FTo.nat (by omega) ?_ | refine FTo.int (by omega) ?_) | ((with_reducible refine Need.mk ?_ ?_); focus exact needA) | (with_reducible refine FApp.grow ?_) | (refine FCall.pure (cA) ⟨Ln.sameB _ rfl, Ln.sameB _ rfl, True.intro⟩ rfl ?_) | (refine FCall.pure (cS) ⟨Ln.sameB _ rfl, Ln.sameB _ rfl, True.intro⟩ rfl ?_) | (refine FCall.pure (cS1) ⟨Ln.sameB _ rfl, Ln.sameB _ rfl, True.intro⟩ rfl ?_) | (refine FCall.pure (cS2) ⟨Ln.sameB _ rfl, Ln.sameB _ rfl, True.intro⟩ rfl ?_) | (refine FCall.pure (cI1) ⟨Ln.sameB _ rfl, Ln.sameB _ rfl, True.intro⟩ rfl ?_) | (refine FCall.pure (cI2) ⟨Ln.sameB _ rfl, Ln.sameB _ rfl, True.intro⟩ rfl ?_) | (refine FCall.pure (cB1) ⟨Ln.sameB _ rfl, Ln.sameB _ rfl, Ln.sameB _ rfl, Ln.sameB _ rfl, True.intro⟩ rfl ?_) | (refine FCall.pure (cB2) ⟨Ln.sameB _ rfl, Ln.sameB _ rfl, Ln.sameB _ rfl, Ln.sameB _ rfl, True.intro⟩ rfl ?_) | (refine FCall.pure (cB3) ⟨Ln.sameB _ rfl, Ln.sameB _ rfl, Ln.sameB _ rfl, Ln.sameB _ rfl, True.intro⟩ rfl ?_) | (refine FCall.pure (cB4) ⟨Ln.sameB _ rfl, Ln.sameB _ rfl, Ln.sameB _ rfl, Ln.sameB _ rfl, True.intro⟩ rfl ?_) | (refine FCall.pure works_ok True.intro rfl ?_) | (with_reducible refine FOr.pub ?_)))
        all_goals (try (conv => whnf))
        all_goals ((refine ⟨⟨_, [], [], Cut.nil _, Ln.sameB _ rfl, ?_, rfl⟩⟩); rfl)
end Go.Proofs.Ytlffjnmbpoemnaa

namespace Go.Proofs.Ytlffjnmbpoemnaa
open Go.RowKit

theorem add_of_add (a : Addr) (i j : Nat) : (a.add i).add j = a.add (i + j) := by
  unfold Addr.add
  by_cases hi : i = 0 <;> by_cases hj : j = 0 <;> simp [hi, hj, Nat.add_assoc]

/-- w' has all that w has, unchanged. -/
abbrev Ext (w w' : World) : Prop := Below w.heap.size w w'

theorem Ext.refl (w : World) : Ext w w := Below.refl _ w
theorem Ext.trans {a b c : World} (h : Ext a b) (k : Ext b c) : Ext a c := Below.trans h (k.mono h.size)
theorem Ext.of_alloc (w : World) (o : Obj) : Ext w (w.alloc o) := (Below.refl _ w).alloc (Nat.le_refl _) o
theorem Ext.alloc {a w : World} (h : Ext a w) (o : Obj) : Ext a (w.alloc o) := Below.alloc h h.size o
theorem Ext.cellOf {w w' : World} (h : Ext w w') {p : Addr} (hp : p.block < w.heap.size) : w'.cell? p = w.cell? p := Below.cell h hp

/-- The n elements (size cells each) of a slice at A are the cells xs. -/
def Sl (w : World) (size : Nat) (A : Option Addr) (n : Nat) (xs : List Value) : Prop :=
  xs.length = n * size ∧ (0 < n → ∃ b off, A = some ⟨b, off, none⟩ ∧ b < w.heap.size ∧ ∀ (j : Nat) (u : Value), xs[j]? = some u → w.cell? ⟨b, off + j, none⟩ = some u)

theorem Sl.ext {w w' : World} {size n : Nat} {A : Option Addr} {xs : List Value} (h : Sl w size A n xs) (e : Ext w w') : Sl w' size A n xs :=
  ⟨h.1, fun hn => by
    obtain ⟨b, off, hA, hb, hc⟩ := h.2 hn
    exact ⟨b, off, hA, Nat.lt_of_lt_of_le hb e.size, fun j u hu => (e.cellOf (p := ⟨b, off + j, none⟩) hb).trans (hc j u hu)⟩⟩
theorem Sl.nil (w : World) (size : Nat) (A : Option Addr) : Sl w size A 0 [] := ⟨by simp, fun h => absurd h (by omega)⟩
theorem own_lt {w : World} {g : Nat} {o : Obj} (hh : w.heap[g]? = some o) : g < w.heap.size := by
  rcases Nat.lt_or_ge g w.heap.size with hlt | hge
  · exact hlt
  · rw [Array.getElem?_eq_none hge] at hh; cases hh
theorem Sl.of_own {w : World} {base size n c : Nat} {e : TypeId} {A : Option Addr} {xs : List Value} (h : w.ownsRow base e size (.slice A n c) n xs) : Sl w size A n xs := by
  refine ⟨h.1, fun hn => ?_⟩
  rcases h.2 with ⟨hv, hx⟩ | ⟨g, cap, cur, hv, hb, hh, _⟩
  · injection hv with hA hn'
    omega
  · injection hv with hA
    subst hA
    refine ⟨g, 0, rfl, own_lt hh, fun j u hu => ?_⟩
    have h1 := h.cells (g := g) rfl j u hu
    unfold Addr.add at h1
    split at h1
    · rename_i h0; subst h0; exact h1
    · simpa using h1
theorem Sl.at {w : World} {size n : Nat} {A : Option Addr} {xs : List Value} (h : Sl w size A n xs) {k : Nat} (hk : k < n) :
    ∃ b off, A = some ⟨b, off, none⟩ ∧ b < w.heap.size ∧ ∀ i, i < size → ∃ u, xs[k * size + i]? = some u ∧ w.cell? ⟨b, off + (k * size + i), none⟩ = some u := by
  obtain ⟨b, off, hA, hb, hc⟩ := h.2 (by omega)
  refine ⟨b, off, hA, hb, fun i hi => ?_⟩
  have hlt : k * size + i < xs.length := by
    rw [h.1]
    have : (k + 1) * size ≤ n * size := Nat.mul_le_mul_right _ hk
    rw [Nat.add_mul] at this
    omega
  exact ⟨xs[k * size + i], List.getElem?_eq_getElem hlt, hc _ _ (List.getElem?_eq_getElem hlt)⟩

/-- A slice of ints. -/
def Ints (w : World) (A : Option Addr) (l : List Int) : Prop :=
  ∀ k, k < l.length → ∃ b off, A = some ⟨b, off, none⟩ ∧ b < w.heap.size ∧ w.cell? ⟨b, off + k, none⟩ = some (.int .i64 (l.getD k 0))
theorem Ints.ext {w w' : World} {A : Option Addr} {l : List Int} (h : Ints w A l) (e : Ext w w') : Ints w' A l := fun k hk => by
  obtain ⟨b, off, hA, hb, hc⟩ := h k hk
  exact ⟨b, off, hA, Nat.lt_of_lt_of_le hb e.size, (e.cellOf (p := ⟨b, off + k, none⟩) hb).trans hc⟩
theorem Ints.of_own {w : World} {base n c : Nat} {e : TypeId} {A : Option Addr} {l : List Int} (h : w.ownsRow base e 1 (.slice A n c) n (l.map (.int .i64))) : n = l.length ∧ Ints w A l := by
  have hl : n = l.length := by have := h.1; simp at this; omega
  refine ⟨hl, fun k hk => ?_⟩
  obtain ⟨b, off, hA, hb, hc⟩ := (Sl.of_own h).at (k := k) (by omega)
  obtain ⟨u, hu, hcu⟩ := hc 0 (by omega)
  refine ⟨b, off, hA, hb, ?_⟩
  simp at hu hcu
  obtain ⟨a, ha, rfl⟩ := hu
  rw [hcu]
  simp [List.getD, ha]

theorem Ext.box {w wr : World} {cs : Array Value} {T : TypeId} (h : Ext (w.alloc (.cells cs T)) wr) (i : Nat) : wr.cell? ⟨w.heap.size, i, none⟩ = cs[i]? := by
  rw [h.cellOf (by simp), World.cell?_alloc_at _ _ _ _ rfl]
theorem Ext.lt {w wr : World} {o : Obj} (h : Ext (w.alloc o) wr) : w.heap.size < wr.heap.size := by have := h.size; simp at this; omega
theorem Ext.le {w wr : World} (h : Ext w wr) : w.heap.size ≤ wr.heap.size := h.size

theorem Ext.grown {w w' : World} (h : Ext w w') (row : Option Nat) : w.grownBy w' row := ⟨h.os, h.tape, h.output, h.size, fun i hi _ => h.block i hi⟩
/-- Block g is just the cells cs of element type t, none frozen. -/
def Blk (w : World) (g : Nat) (t : TypeId) (cs : Array Value) : Prop := w.heap[g]? = some (.cells cs t (0, 0))
theorem Blk.lt {w : World} {g : Nat} {t : TypeId} {cs : Array Value} (h : Blk w g t cs) : g < w.heap.size := own_lt h
theorem Blk.cell {w : World} {g : Nat} {t : TypeId} {cs : Array Value} (h : Blk w g t cs) (i : Nat) : w.cell? ⟨g, i, none⟩ = cs[i]? := by
  unfold Blk at h; simp [World.cell?, h]
theorem Blk.ext {w w' : World} {g : Nat} {t : TypeId} {cs : Array Value} (h : Blk w g t cs) (e : Ext w w') : Blk w' g t cs := (e.block g h.lt).trans h
theorem Blk.alloc {w : World} {g : Nat} {t : TypeId} {cs : Array Value} (h : Blk w g t cs) (o : Obj) : Blk (w.alloc o) g t cs := h.ext (Ext.of_alloc _ _)
theorem Blk.grown {w w' : World} {g : Nat} {t : TypeId} {cs : Array Value} {row : Option Nat} (h : Blk w g t cs) (hb : w.grownBy w' row) (hg : some g ≠ row) : Blk w' g t cs := (hb.block g h.lt hg).trans h
theorem Blk.ne {w : World} {g g' : Nat} {t t' : TypeId} {cs cs' : Array Value} (h : Blk w g t cs) (h' : Blk w g' t' cs') (hne : t ≠ t') : g ≠ g' := by
  rintro rfl
  unfold Blk at h h'
  rw [h] at h'
  injection h' with h'
  injection h' with _ ht
  exact hne ht
end Go.Proofs.Ytlffjnmbpoemnaa

namespace Go.Proofs.Ytlffjnmbpoemnaa
open Go.RowKit Go.ChangeShapes Go.WideShapes Go.Deep

section
variable {H : Type} {enc : TypeId × Value → H} {P : Program} {w : World} {base : Nat} {held : Bool}

/-- A slice's elements, cell by cell. -/
theorem rd_slice {t e : TypeId} {sz n : Nat} {v : Value} {y : DataW H × List MemPlace} (ht : P.underlying t = some (.slice e)) (hc : P.cellsOf e = sz) (hsz : 0 < sz) (h : DataW.trod enc P w base (fun _ => true) held n t [v] = some y) :
    ∃ A len cap, v = .slice A len cap ∧ len ≤ 9223372036854775807 ∧ (A = none → len = 0) ∧ ∀ i, i < len → ∃ b off m cs z, A = some ⟨b, off, none⟩ ∧ b < w.heap.size ∧ cs.length = sz ∧ (∀ j, j < sz → w.cell? ⟨b, off + i * sz + j, none⟩ = cs[j]?) ∧
      DataW.trod enc P w base (fun _ => true) held m e cs = some z := by
  rcases open_slice ht h with ⟨h0, _⟩ | ⟨a, len, cap, m, n', D, Pl, h0, hb, hl, hm, hmm, _, hx⟩
  · injection h0 with h0
    exact ⟨none, 0, 0, h0, by omega, fun _ => rfl, fun i hi => by omega⟩
  · injection h0 with h0
    have hmx : maxLen = 9223372036854775807 := rfl
    refine ⟨some a, len, cap, h0, by omega, (fun h => by cases h), fun i hi => ?_⟩
    simp only [if_true] at hmm
    obtain ⟨cs, h1, h2⟩ := hx i (by omega)
    obtain ⟨_, hlen, hcell⟩ := World.cells?_some h1
    rw [hc] at hlen hcell
    have hc0 := hcell 0 hsz
    rw [List.getElem?_eq_getElem (by omega)] at hc0
    obtain ⟨b, off, spot⟩ := a
    have hadd : ∀ (x y : Nat), ((⟨b, off, spot⟩ : Addr).add x).add y = (⟨b, off, spot⟩ : Addr).add (x + y) := fun x y => add_of_add _ _ _
    have hsp : spot = none := by
      obtain ⟨cs0, g1, _⟩ := hx 0 (by omega)
      obtain ⟨_, glen, gcell⟩ := World.cells?_some g1
      rw [hc] at glen gcell
      have g0 := gcell 0 hsz
      rw [List.getElem?_eq_getElem (by omega)] at g0
      have := World.cell?_spot g0
      simpa [hadd, Addr.add] using this
    subst hsp
    have hform : ∀ x, (⟨b, off, none⟩ : Addr).add x = ⟨b, off + x, none⟩ := fun x => by
      unfold Addr.add
      by_cases hx0 : x = 0 <;> simp [hx0]
    refine ⟨b, off, n', cs, _, rfl, ?_, hlen, fun j hj => ?_, h2⟩
    · have := World.block_lt_of_cell? w _ hc0
      rw [hadd, hform] at this
      exact this
    · have := hcell j hj
      rw [hadd, hform] at this
      rw [← this, Nat.add_assoc]

theorem rd_int {t : TypeId} {n : Nat} {cs : List Value} {y : DataW H × List MemPlace} (ht : P.underlying t = some (.int .i64)) (h : DataW.trod enc P w base (fun _ => true) held n t cs = some y) : ∃ i : Int, cs = [.int .i64 i] ∧ -9223372036854775808 ≤ i ∧ i ≤ 9223372036854775807 := by
  obtain ⟨i, h1, _, h3⟩ := DataW.trod_int ht h
  refine ⟨i, h1, ?_⟩
  simpa [Lit.wf, IntKind.min, IntKind.max, IntKind.signed, IntKind.bits] using h3

def I64 (x : Int) : Prop := -9223372036854775808 ≤ x ∧ x ≤ 9223372036854775807

/-- A world that only has more. -/
theorem since_of_ext {W W' : World} (h : Ext W W') : W.Since W.heap.size W' := ⟨h.os, h.tape, h.output, h.size, fun k hk => h.block k hk⟩
/-- An argument reads as before in a world that only has more. -/
theorem stays {t : TypeId} (hl : laidOutB P = true) (hr : P.readableRec t = true) (hrow : t < P.types.size) {W W' : World} {sp' : Nat → Bool} {v : Value} {d : DataW H} {ps : List MemPlace}
    (h : DataW.Trod enc P W 0 (fun _ => true) true t v d ps) (hE : Ext W W') (hlt : ∀ p ∈ ps, p.block < W.heap.size) (hs : ∀ p ∈ ps, sp' p.block = true) : DataW.Trod enc P W' 0 sp' true t v d ps :=
  WideElems.Trod_stays hl hr hrow h (fun p hp => (since_of_ext hE).sameAt (hlt p hp)) hs
end
end Go.Proofs.Ytlffjnmbpoemnaa

namespace Go.Proofs.Ytlffjnmbpoemnaa
open Go.RowKit Go.ChangeShapes Go.WideShapes Go.Deep Go.ChangeAt

section
variable {H : Type} {enc : TypeId × Value → H} {P : Program}
theorem staysAll (hl : laidOutB P = true) {W W' : World} (hE : Ext W W') {sp' : Nat → Bool} : ∀ {ts : List TypeId} {vs : List Value} {ds : List (DataW H)} {ps : List MemPlace}, (∀ t ∈ ts, P.readableRec t = true ∧ t < P.types.size) →
    DataW.TrodAll enc P W 0 (fun _ => true) true ts vs ds ps → (∀ p ∈ ps, p.block < W.heap.size) → (∀ p ∈ ps, sp' p.block = true) → DataW.TrodAll enc P W' 0 sp' true ts vs ds ps := by
  intro ts
  induction ts with
  | nil =>
    intro vs ds ps _ h _ _
    obtain ⟨rfl, rfl, rfl⟩ := trodAll_nil h
    exact trodAll_mk0
  | cons t ts ih =>
    intro vs ds ps ht h hlt hs
    obtain ⟨v, vs', d, ds', p, q, rfl, rfl, rfl, h0, hr⟩ := trodAll_cons h
    exact trodAll_cons_mk (stays hl (ht t List.mem_cons_self).1 (ht t List.mem_cons_self).2 h0 hE (fun x hx => hlt x (List.mem_append_left _ hx)) (fun x hx => hs x (List.mem_append_left _ hx)))
      (ih (fun t' h' => ht t' (List.mem_cons_of_mem _ h')) hr (fun x hx => hlt x (List.mem_append_right _ hx)) (fun x hx => hs x (List.mem_append_right _ hx)))

theorem trodLen {w : World} {base : Nat} {spare : Nat → Bool} {held : Bool} : ∀ {ts : List TypeId} {vs : List Value} {ds : List (DataW H)} {ps : List MemPlace}, DataW.TrodAll enc P w base spare held ts vs ds ps → ds.length = ts.length := by
  intro ts
  induction ts with
  | nil =>
    intro vs ds ps h
    obtain ⟨rfl, rfl, rfl⟩ := trodAll_nil h
    rfl
  | cons t ts ih =>
    intro vs ds ps h
    obtain ⟨v, vs', d, ds', p, q, rfl, rfl, rfl, h0, hr⟩ := trodAll_cons h
    simp [ih hr]

theorem law_post {f : Func} {s : ChangeSpec} {W W' : World} {args : Array Value} {ds gs : List (DataW H)} {before : List MemPlace} {tb : TypeId} (hl : laidOutB P = true) (hts : ∀ t ∈ f.params.toList, P.readableRec t = true ∧ t < P.types.size)
    (hv : s.vars = []) (hb : P.underlying tb = some .bool) (hrt : f.resultTypes = #[tb]) (hspec : ∀ l : List (DataW H), l.length = f.params.toList.length → s.fn H (l ++ []) = { results := [.lit (.bool true)], args := l, vars := [] })
    (hW : DataW.Whole enc P f.params.toList s.vars false W args.toList ds gs before) (hE : Ext W W') : s.post enc P f false true false false W args (.bool true) W' := by
  have hW' := hW
  obtain ⟨p, q, hA, hV, rfl, _, _⟩ := hW
  rw [hv] at hV
  obtain ⟨rfl, rfl⟩ := trodVars_none hV
  have hlt : ∀ x ∈ p, x.block < W.heap.size := fun x hx => hW'.lt x (by simp [hx])
  have hlen := trodLen hA
  have hs := hspec ds hlen
  refine ⟨ds, [], _, [], p, [], hW', ?_, ?_, ?_, (since_of_ext hE).frame _, fun h => by cases h⟩
  · rw [hs, hrt]
    exact trodAll_cons_mk (shut_bool hb _) trodAll_mk0
  · rw [hs]
    exact staysAll hl hE hts hA hlt (fun x hx => by simpa using hlt x hx)
  · rw [hs, hv]
    rfl
end
end Go.Proofs.Ytlffjnmbpoemnaa

namespace Go.Proofs.Ytlffjnmbpoemnaa
open Go.RowKit Go.ChangeShapes Go.WideShapes Go.Deep

def nobody : Nat → Prop := fun _ => False
/-- Cells that are as a table says. -/
def CellsAre (w : World) (cs : List Value) (sz : Nat) (c : Nat → AV) : Prop := cs.length = sz ∧ ∀ o, o < sz → ∃ u, cs[o]? = some u ∧ u.oneCell' = true ∧ rep nobody w (c o) g0 u
theorem law_calls {P : Program} {f : FuncId} {xs : List AV} (H : ACall P f xs [] (fun r h => r = .bool true ∧ h = [])) {w : World} {vs : Array Value} (hs : vs.size = xs.length) (hr : ∀ (i : Nat) (x : AV), xs[i]? = some x → rep nobody w x g0 (vs.getD i undef)) :
    Calls P f vs w fun e w' => e = .returned (.bool true) ∧ Ext w w' := by
  have noM : ∀ b, MM nobody g0 [] b → False := fun b hb => by
    rcases hb with hb | ⟨d, cap, ⟨x, hx, _⟩, _⟩
    · exact hb
    · simp at hx
  refine (H.2 nobody g0 w vs (HOK.nil w (fun _ h => h.elim)) hs fun i x hx => rep_mono (Chg.refl _ w) (fun b _ hb => (noM b hb).elim) _ (GM.le_refl _) (hr i x hx)).mono ?_
  rintro e w' ⟨v, r, h', g', rfl, T, hv, rfl, _⟩
  have : v = .bool true := hv
  subst this
  exact ⟨rfl, T.chg.os, T.chg.tape, T.chg.output, T.chg.size, fun b hb => T.chg.block b hb (fun hm => noM b (.inr hm))⟩
theorem CellsAre.agg {w : World} {cs : List Value} {sz : Nat} {c : Nat → AV} (h : CellsAre w cs sz c) : rep nobody w (.agg sz c) g0 (.agg cs.toArray) :=
  ⟨_, rfl, by simp [h.1], fun i hi => by obtain ⟨u, h1, h2, h3⟩ := h.2 i hi; exact ⟨u, by simpa using h1, h2, h3⟩⟩
theorem CellsAre.val {w : World} {v : Value} {cs : List Value} {c : Nat → AV} (h : CellsAre w cs 1 c) (hv : cs = [v]) : rep nobody w (c 0) g0 v := by
  subst hv
  obtain ⟨u, h1, _, h3⟩ := h.2 0 (by omega)
  simp at h1
  rw [h1]; exact h3
theorem CellsAre.sub {w : World} {cs : List Value} {off k : Nat} {c : Nat → AV} (h : CellsAre w ((cs.drop off).take k) k c) {o : Nat} (ho : o < k) : ∃ u, cs[off + o]? = some u ∧ u.oneCell' = true ∧ rep nobody w (c o) g0 u := by
  obtain ⟨u, h1, h2⟩ := h.2 o ho
  rw [List.getElem?_take] at h1
  simp only [ho, if_true, List.getElem?_drop] at h1
  exact ⟨u, h1, h2⟩
theorem CellsAre.one {w : World} {v : Value} {x : AV} (h1 : v.oneCell' = true) (h : rep nobody w x g0 v) : CellsAre w [v] 1 (fun _ => x) :=
  ⟨rfl, fun o ho => by obtain rfl : o = 0 := (by omega)
                       exact ⟨v, rfl, h1, h⟩⟩
section
variable {H : Type} {enc : TypeId × Value → H} {P : Program} {w : World} {base : Nat} {held : Bool}
theorem rdr_int {t : TypeId} {n : Nat} {cs : List Value} {y : DataW H × List MemPlace} (ht : P.underlying t = some (.int .i64)) (h : DataW.trod enc P w base (fun _ => true) held n t cs = some y) : ∃ i : Int, I64 i ∧ CellsAre w cs 1 (fun _ => .int .i64 i) := by
  obtain ⟨i, rfl, hi⟩ := rd_int ht h
  exact ⟨i, hi, .one rfl rfl⟩
theorem rdr_slice {α : Type} {t e : TypeId} {sz : Nat} (c : α → Nat → AV) (Q : α → Prop) (d : α) (ht : P.underlying t = some (.slice e)) (hc : P.cellsOf e = sz) (hsz : 0 < sz) (rd : ∀ {n : Nat} {cs : List Value} {y : DataW H × List MemPlace}, DataW.trod enc P w base (fun _ => true) held n e cs = some y → ∃ x, Q x ∧ CellsAre w cs sz (c x))
    {n : Nat} {cs : List Value} {y : DataW H × List MemPlace} (h : DataW.trod enc P w base (fun _ => true) held n t cs = some y) :
    ∃ (z : Bool) (l : List α), (l.length ≤ 9223372036854775807 ∧ ∀ x ∈ l, Q x) ∧ CellsAre w cs 1 (fun _ => .sl z false l.length sz (fun k => c (l.getD k d))) := by
  have hmx : maxLen = 9223372036854775807 := rfl
  have h' := h
  rcases open_slice ht h with ⟨rfl, _⟩ | ⟨a, len, cap, m, n', D, Pl, rfl, hb, hl, hm, hmm, _, hx⟩
  · refine ⟨true, [], ⟨by simp, fun x hx => by cases hx⟩, .one rfl ⟨none, 0, rfl, by simp, by simp, fun h => (by cases h), by simp, fun k hk => absurd hk (Nat.not_lt_zero k)⟩⟩
  · obtain ⟨A, len', cap', h0, hl', hn, hxx⟩ := rd_slice ht hc hsz h'
    injection h0 with e1 e2 e3
    subst e1; subst e2; subst e3
    have key : ∀ i, i < len → ∃ x : α, Q x ∧ ∃ b off, (some a : Option Addr) = some ⟨b, off, none⟩ ∧ b < w.heap.size ∧ ∀ o, o < sz → ∃ u, w.cell? ⟨b, off + i * sz + o, none⟩ = some u ∧ u.oneCell' = true ∧ rep nobody w (c x o) g0 u := fun i hi => by
      obtain ⟨b, off, m, cs, z, hA, hb, hlen, hcell, ht'⟩ := hxx i hi
      obtain ⟨x, hq, hcs⟩ := rd ht'
      refine ⟨x, hq, b, off, hA, hb, fun o ho => ?_⟩
      obtain ⟨u, h1, h2⟩ := hcs.2 o ho
      exact ⟨u, (hcell o ho).trans h1, h2⟩
    obtain ⟨f, hf⟩ : ∃ f : Nat → α, ∀ i, i < len → Q (f i) ∧ ∃ b off, (some a : Option Addr) = some ⟨b, off, none⟩ ∧ b < w.heap.size ∧ ∀ o, o < sz → ∃ u, w.cell? ⟨b, off + i * sz + o, none⟩ = some u ∧ u.oneCell' = true ∧ rep nobody w (c (f i) o) g0 u := by
      refine ⟨fun i => open Classical in if hi : i < len then (key i hi).choose else d, fun i hi => ?_⟩
      simp only [hi, dif_pos]
      exact (key i hi).choose_spec
    have hlen : ((List.range len).map f).length = len := by simp
    refine ⟨false, (List.range len).map f, ⟨by rw [hlen]; omega, fun x hx => ?_⟩, ?_⟩
    · obtain ⟨k, hk, rfl⟩ := List.mem_map.1 hx
      exact (hf k (by simpa using hk)).1
    · refine .one rfl ⟨some a, cap, by rw [hlen], by simp, by simp, fun h => (by cases h), by rw [hlen]; exact hl, fun k hk o ho => ?_⟩
      rw [hlen] at hk
      obtain ⟨_, b, off, h1, h2, h3⟩ := hf k hk
      obtain ⟨u, h4, h5, h6⟩ := h3 o ho
      have hg : ((List.range len).map f).getD k d = f k := by simp [List.getD, hk]
      exact ⟨b, off, u, h1, h2, fun h => h, h4, h5, by show rep nobody w (c (((List.range len).map f).getD k d) o) g0 u; rw [hg]; exact h6⟩
theorem rdr_field {t : TypeId} {fs : Array Field} {n : Nat} {cs : List Value} {y : DataW H × List MemPlace} (ht : P.underlying t = some (.struct fs)) (h : DataW.trod enc P w base (fun _ => true) held n t cs = some y) : cs.length = P.cellsOf t ∧ ∀ (k : Nat) (f : Field), fs[k]? = some f → ∃ m x, DataW.trod enc P w base (fun _ => true) held m f.type ((cs.drop f.offset).take (P.cellsOf f.type)) = some x := by
  obtain ⟨xs, m, _, rfl, hl, hlen, hf⟩ := DataW.trod_struct ht h
  refine ⟨hl, fun k f hk => ?_⟩
  have hk' : k < fs.size := by
    rcases Nat.lt_or_ge k fs.size with h | h
    · exact h
    · rw [Array.getElem?_eq_none h] at hk; cases hk
  have := hf k f hk
  rw [List.getElem?_eq_getElem (by omega)] at this
  exact ⟨m, _, this⟩
/-- Each field reads. -/
def FRd (enc : TypeId × Value → H) (P : Program) (w : World) (base : Nat) (held : Bool) (cs : List Value) : List Field → Prop
  | [] => True
  | f :: fs => (∃ m x, DataW.trod enc P w base (fun _ => true) held m f.type ((cs.drop f.offset).take (P.cellsOf f.type)) = some x) ∧ FRd enc P w base held cs fs
theorem FRd.of {cs : List Value} : ∀ {l : List Field}, (∀ f ∈ l, ∃ m x, DataW.trod enc P w base (fun _ => true) held m f.type ((cs.drop f.offset).take (P.cellsOf f.type)) = some x) → FRd enc P w base held cs l
  | [], _ => trivial
  | _ :: _, h => ⟨h _ List.mem_cons_self, FRd.of fun f hf => h f (List.mem_cons_of_mem _ hf)⟩
theorem rdr_fields {t : TypeId} {fs : Array Field} {n : Nat} {cs : List Value} {y : DataW H × List MemPlace} (ht : P.underlying t = some (.struct fs)) (h : DataW.trod enc P w base (fun _ => true) held n t cs = some y) : cs.length = P.cellsOf t ∧ FRd enc P w base held cs fs.toList := by
  obtain ⟨h1, h2⟩ := rdr_field ht h
  refine ⟨h1, FRd.of fun f hf => ?_⟩
  obtain ⟨k, hk, rfl⟩ := List.getElem_of_mem hf
  exact h2 k _ (by simp)
end
end Go.Proofs.Ytlffjnmbpoemnaa

namespace Go.Proofs.Ytlffjnmbpoemnaa
open Go.RowKit Go.ChangeShapes Go.WideShapes Go.Deep

section
variable {H : Type} {enc : TypeId × Value → H} {w : World} {base : Nat} {held : Bool}
theorem csz : Try.prog.cellsOf 3 = 1 ∧ Try.prog.cellsOf 23 = 1 ∧ Try.prog.cellsOf 22 = 1 ∧ Try.prog.cellsOf 25 = 3 ∧ Try.prog.cellsOf 27 = 3 ∧ Try.prog.cellsOf 45 = 4 ∧ Try.prog.cellsOf 51 = 4 ∧ Try.prog.cellsOf 64 = 4 := by
  refine ⟨?_, ?_, ?_, ?_, ?_, ?_, ?_, ?_⟩ <;> kernel_rfl
theorem rt_int {n : Nat} {cs : List Value} {y : DataW H × List MemPlace} (h : DataW.trod enc Try.prog w base (fun _ => true) held n 3 cs = some y) : ∃ i : Int, I64 i ∧ CellsAre w cs 1 (fun _ => AI i) := rdr_int Try.underlying3 h
theorem rt_ints {n : Nat} {cs : List Value} {y : DataW H × List MemPlace} (h : DataW.trod enc Try.prog w base (fun _ => true) held n 23 cs = some y) : ∃ (z : Bool) (l : List Int), (l.length ≤ 9223372036854775807 ∧ ∀ x ∈ l, I64 x) ∧ CellsAre w cs 1 (fun _ => aInts z false l) :=
  rdr_slice (fun (x : Int) _ => AI x) I64 0 Try.underlying23 csz.1 (by omega) rt_int h
theorem rt_row {n : Nat} {cs : List Value} {y : DataW H × List MemPlace} (h : DataW.trod enc Try.prog w base (fun _ => true) held n 23 cs = some y) : ∃ x : Bool × List Int, x.2.length ≤ 9223372036854775807 ∧ CellsAre w cs 1 (fun _ => aInts x.1 false x.2) := by
  obtain ⟨z, l, hl, c⟩ := rt_ints h
  exact ⟨(z, l), hl.1, c⟩
theorem rt_rows {n : Nat} {cs : List Value} {y : DataW H × List MemPlace} (h : DataW.trod enc Try.prog w base (fun _ => true) held n 22 cs = some y) : ∃ (z : Bool) (rz : Nat → Bool) (l : List (List Int)), l.length ≤ 9223372036854775807 ∧ CellsAre w cs 1 (fun _ => aRows z false rz (fun _ => false) l) := by
  obtain ⟨z, l, hl, c⟩ := rdr_slice (fun (x : Bool × List Int) _ => aInts x.1 false x.2) (fun x => x.2.length ≤ 9223372036854775807) (true, []) Try.underlying22 csz.2.1 (by omega) rt_row h
  have hb : ∀ k, (l.map Prod.snd).getD k [] = (l.getD k (true, [])).2 := fun k => by
    simp only [List.getD, List.getElem?_map]
    cases l[k]? <;> rfl
  refine ⟨z, fun k => (l.getD k (true, [])).1, l.map Prod.snd, by simpa using hl.1, ?_⟩
  simp only [aRows, List.length_map, hb]
  exact c
theorem rt_sheet {n : Nat} {cs : List Value} {y : DataW H × List MemPlace} (h : DataW.trod enc Try.prog w base (fun _ => true) held n 25 cs = some y) : ∃ (f : ShF) (s : Sheet), True ∧ CellsAre w cs 3 (cSh f s) := by
  obtain ⟨hl, ⟨_, _, h0⟩, ⟨_, _, h1⟩, ⟨_, _, h2⟩, _⟩ := rdr_fields Try.underlying25 h
  simp only [csz.1, csz.2.1, csz.2.2.1] at h0 h1 h2
  obtain ⟨z0, rz, a, _, c0⟩ := rt_rows h0
  obtain ⟨z1, b, _, c1⟩ := rt_ints h1
  obtain ⟨c, _, c2⟩ := rt_int h2
  refine ⟨⟨z0, false, rz, fun _ => false, z1, false⟩, ⟨a, b, c⟩, trivial, by rw [hl]; exact csz.2.2.2.1, fun o ho => ?_⟩
  rcases (show o = 0 ∨ o = 1 ∨ o = 2 by omega) with rfl | rfl | rfl
  · exact c0.sub (o := 0) (by omega)
  · exact c1.sub (o := 0) (by omega)
  · exact c2.sub (o := 0) (by omega)
structure Plc where
  r : Int
  c : Int
  a : Int
structure Wid where
  z : Bool
  m : List Int
  p : Plc
structure Kno where
  z : Bool
  rz : Nat → Bool
  l : List (List Int)
  p : Plc
end
end Go.Proofs.Ytlffjnmbpoemnaa
