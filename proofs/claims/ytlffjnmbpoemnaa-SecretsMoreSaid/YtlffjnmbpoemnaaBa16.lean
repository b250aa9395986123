/- Secrets: best, Least, Worth of the program. / Secrets: the best mask; the example / Secrets: sameInts, the example, works; Far, valid. / Secrets: with more amounts left out no Range is narrower (SecretsMore). / Plain facts on memory: slices that read as lists, worlds that extend other worlds / How the form's readings of data give cells: slices, ints / What a law's row asks behind the walk: the call returned true and the world only has more -/
import Derived.Test.YtlffjnmbpoemnaaBa15
import Derived.WalkKit
import Derived.WalkSpells
import Derived.WalkLawsBesides
import Derived.Deep.QuietTactic
import Derived.BigQuiet
import Derived.Lib.Hide
import Derived.Deep.Slices
import Derived.Lib.SmallJoins
import Derived.OpenShut
import Derived.WideKeyArgs
import Derived.Deep.OwnRows
import Derived.ProofKit
import Derived.JoinedOf
set_option linter.unusedSimpArgs false
set_option linter.unusedVariables false
namespace Go.Proofs.Ytlffjnmbpoemnaa
open Go.RowKit

/-- The n-th mask of a sheet. -/
def mkS (s : Sheet) (n : Nat) : List Int := (List.range s.R).map fun r => (((n >>> (s.C * r)) &&& (2 ^ s.C - 1) : Nat) : Int)
theorem mkS_len (s : Sheet) (n : Nat) : (mkS s n).length = s.R := by simp [mkS]
theorem mkS_get {s : Sheet} {n r : Nat} (hr : r < s.R) : (mkS s n).getD r 0 = (((n >>> (s.C * r)) &&& (2 ^ s.C - 1) : Nat) : Int) := by
  unfold mkS; simp [List.getD, hr]
theorem mkS_ok (s : Sheet) (n : Nat) : MaskOk s (mkS s n) := ⟨mkS_len s n, fun r hr => by
  rw [mkS_get hr]
  have h1 := Nat.and_le_right (n := n >>> (s.C * r)) (m := 2 ^ s.C - 1)
  have := Nat.two_pow_pos s.C
  omega⟩
/-- The order of two prices: by the number, or by the sum first. -/
def ordI (w : Bool) (a b c d : Int) : Int := if w then orI (b - d) (a - c) else orI (a - c) (b - d)
def cmpM (w : Bool) (s : Sheet) (a b : List Int) : Int := orI (ordI w (manyTo a s.R) (leftTo s a s.R) (manyTo b s.R) (leftTo s b s.R)) (lexK a b a.length 0)
noncomputable def takeS (w : Bool) (s : Sheet) (m : List Int) (b : Option (List Int)) : Bool := (coversS s m && !loneS s m) && (match b with | none => true | some b => decide (cmpM w s m b < 0)) && safeS s m
noncomputable def bstS (w : Bool) (s : Sheet) : Nat → Option (List Int)
  | 0 => none
  | n + 1 => if takeS w s (mkS s n) (bstS w s n) then some (mkS s n) else bstS w s n
theorem bst_no {w : Bool} {s : Sheet} {n : Nat} (h : takeS w s (mkS s n) (bstS w s n) = false) : bstS w s (n + 1) = bstS w s n := by
  simp only [bstS]; rw [if_neg (by rw [h]; decide)]
theorem bst_yes {w : Bool} {s : Sheet} {n : Nat} (h : takeS w s (mkS s n) (bstS w s n) = true) : bstS w s (n + 1) = some (mkS s n) := by
  simp only [bstS]; rw [if_pos h]
theorem bstS_mk {w : Bool} {s : Sheet} {b : List Int} : ∀ {n : Nat}, bstS w s n = some b → ∃ k, k < n ∧ b = mkS s k
  | 0, h => by cases h
  | n + 1, h => by
    simp only [bstS] at h
    split at h
    · injection h with h; exact ⟨n, by omega, h.symm⟩
    · obtain ⟨k, hk, e⟩ := bstS_mk h; exact ⟨k, by omega, e⟩
def fndV (f : ShF) (s : Sheet) : Option (List Int) → AV
  | none => .nilp
  | some m => iSt f s false false m
def mskV : Nat → AV
  | 0 => nilS
  | i + 1 => .own 2 (i + 1)
def mskB (m : List Int) : Nat → List AB
  | 0 => []
  | i + 1 => [.row (i + 1) 1 (fun k _ => AI (m.getD k 0))]
noncomputable def bestO (w : Bool) (s : Sheet) : Option (List Int) := bstS w s (2 ^ (s.C * s.R))
noncomputable def bestV (w : Bool) (s : Sheet) : AV := if s.ok then (match bestO w s with | none => .tup 2 (ofL [nilS, AI 3]) | some m => .tup 2 (ofL [aInts false false m, AI 0])) else .tup 2 (ofL [nilS, AI 80])
abbrev prA (a b : Int) : AV := .agg 2 (ofL [AI a, AI b])
set_option maxHeartbeats 16000000
set_option maxRecDepth 100000
theorem ordL_ok (a b c d : Int) (h : (0 ≤ a ∧ a ≤ 1000) ∧ (0 ≤ b ∧ b ≤ 1000000) ∧ (0 ≤ c ∧ c ≤ 1000) ∧ (0 ≤ d ∧ d ≤ 1000000)) : ACall Try.prog 45 [prA a b, prA c d] [] (fun r h => r = AI (ordI false a b c d) ∧ h = []) := by
  (refine fcall_of mixed Try.func45 rfl (by decide) (hs := {}) ?k (ac := ?ac) ?c (rs := ?rs) ?r ?l ?H; (case k => kernel_rfl); (case c => (conv => (lhs; cbv))); (case r => (conv => (lhs; cbv))); (case l => exact Nat.le_of_ble_eq_true rfl))
  (repeat' ((try (conv => whnf)); first | (with_reducible first | refine FCond.tA ?_ | refine FCond.fA ?_) | ((with_reducible refine FCond.i (fun hq => ?_) (fun hq => ?_)) <;> (try simp only [zA, zE, zD, zJ, zB, zI, Int.not_le, Int.not_lt] at hq)) | (with_reducible first | refine Fits.in64 (by omega) ?_ | refine FIdx.nat (by omega) ?_ | refine FIdx.int (by omega) ?_ | refine FTo.nat (by omega) ?_ | refine FTo.int (by omega) ?_) | ((with_reducible refine Need.mk ?_ ?_); focus exact needA) | (with_reducible refine FApp.grow ?_) | (refine FCall.pure (or2_ok (a - c) (b - d)) ⟨Ln.sl _ _ _ _ _ _ _ (fun h => h) (fun k hk o ho => by have : k = 0 ∨ k = 1 := (by omega); obtain rfl : o = 0 := (by omega); rcases this with rfl | rfl <;> rfl), True.intro⟩ rfl ?_) | (with_reducible refine FOr.pub ?_)))
  all_goals (try (conv => whnf))
  all_goals ((refine ⟨⟨_, [], [], Cut.nil _, Ln.sameB _ rfl, ?_, rfl⟩⟩); rfl)
theorem ordW_ok (a b c d : Int) (h : (0 ≤ a ∧ a ≤ 1000) ∧ (0 ≤ b ∧ b ≤ 1000000) ∧ (0 ≤ c ∧ c ≤ 1000) ∧ (0 ≤ d ∧ d ≤ 1000000)) : ACall Try.prog 47 [prA a b, prA c d] [] (fun r h => r = AI (ordI true a b c d) ∧ h = []) := by
  (refine fcall_of mixed Try.func47 rfl (by decide) (hs := {}) ?k (ac := ?ac) ?c (rs := ?rs) ?r ?l ?H; (case k => kernel_rfl); (case c => (conv => (lhs; cbv))); (case r => (conv => (lhs; cbv))); (case l => exact Nat.le_of_ble_eq_true rfl))
  (repeat' ((try (conv => whnf)); first | (with_reducible first | refine FCond.tA ?_ | refine FCond.fA ?_) | ((with_reducible refine FCond.i (fun hq => ?_) (fun hq => ?_)) <;> (try simp only [zA, zE, zD, zJ, zB, zI, Int.not_le, Int.not_lt] at hq)) | (with_reducible first | refine Fits.in64 (by omega) ?_ | refine FIdx.nat (by omega) ?_ | refine FIdx.int (by omega) ?_ | refine FTo.nat (by omega) ?_ | refine FTo.int (by omega) ?_) | ((with_reducible refine Need.mk ?_ ?_); focus exact needA) | (with_reducible refine FApp.grow ?_) | (refine FCall.pure (or2_ok (b - d) (a - c)) ⟨Ln.sl _ _ _ _ _ _ _ (fun h => h) (fun k hk o ho => by have : k = 0 ∨ k = 1 := (by omega); obtain rfl : o = 0 := (by omega); rcases this with rfl | rfl <;> rfl), True.intro⟩ rfl ?_) | (with_reducible refine FOr.pub ?_)))
  all_goals (try (conv => whnf))
  all_goals ((refine ⟨⟨_, [], [], Cut.nil _, Ln.sameB _ rfl, ?_, rfl⟩⟩); rfl)
theorem best_ok (fo : FuncId) (w : Bool) (hord : ∀ (a b c d : Int), ((0 ≤ a ∧ a ≤ 1000) ∧ (0 ≤ b ∧ b ≤ 1000000) ∧ (0 ≤ c ∧ c ≤ 1000) ∧ (0 ≤ d ∧ d ≤ 1000000)) → ACall Try.prog fo [prA a b, prA c d] [] (fun r h => r = AI (ordI w a b c d) ∧ h = [])) (f : ShF) (s : Sheet) (hn : Near s) (h3 : s.ok = true → s.R ≤ 3) : ACall Try.prog 44 [aSh f s, .fn fo 0 (ofL [])] [] (fun r h => r = bestV w s ∧ h = []) := by
  have cK := check_ok f s hn
  (refine fcall_of mixed Try.func44 rfl (by decide) (hs := { ord := [(16, [(0, []), (1, []), (2, []), (3, []), (4, []), (6, []), (9, []), (10, []), (11, []), (12, []), (13, []), (14, []), (15, []), (16, []), (5, [12, 16]), (7, [12, 16]), (8, [12, 16]), (17, []), (18, []), (19, []), (20, []), (21, [])])], pub := [15] }) ?k (ac := ?ac) ?c (rs := ?rs) ?r ?l ?H; (case k => kernel_rfl); (case c => (conv => (lhs; cbv))); (case r => (conv => (lhs; cbv))); (case l => exact Nat.le_of_ble_eq_true rfl))
  cases hk : s.ok
  · rw [check_80 hk] at cK
    rw [show bestV w s = .tup 2 (ofL [nilS, AI 80]) from by unfold bestV; rw [hk]; rfl]
    (repeat' ((try (conv => whnf)); first | (with_reducible first | refine FCond.tA ?_ | refine FCond.fA ?_) | ((with_reducible refine FCond.i (fun hq => ?_) (fun hq => ?_)) <;> (try simp only [zA, zE, zD, zJ, zB, zI, Int.not_le, Int.not_lt] at hq)) | (with_reducible first | refine Fits.in64 (by omega) ?_ | refine FIdx.nat (by omega) ?_ | refine FIdx.int (by omega) ?_ | refine FTo.nat (by omega) ?_ | refine FTo.int (by omega) ?_) | ((with_reducible refine Need.mk ?_ ?_); focus exact needA) | (with_reducible refine FApp.grow ?_) | (refine FCall.pure (cK) ⟨Ln.sameB _ rfl, True.intro⟩ rfl ?_) | (with_reducible refine FOr.pub ?_)))
    all_goals (try (conv => whnf))
    all_goals ((refine ⟨⟨_, [], [], Cut.nil _, Ln.sameB _ rfl, ?_, rfl⟩⟩); rfl)
  rw [check_ok' hk] at cK
  have hs := sheet_d hk
  have hR3 := h3 hk
  have r1 := hs.r1
  have c4 := hs.c4
  have c1 := hs.c1
  have hR : s.R = s.amounts.length := rfl
  have hC : s.C = (s.amounts.getD 0 []).length := rfl
  have hC2 : (s.amounts.getD (Int.toNat 0) []).length = s.C := rfl
  have hCR : s.C * s.R ≤ 12 := Nat.le_trans (Nat.mul_le_mul c4 hR3) (by decide)
  have hT := Nat.pow_le_pow_right (show 0 < 2 by decide) hCR
  have hTp := Nat.two_pow_pos (s.C * s.R)
  have hCi : (s.C : Int) * (s.amounts.length : Int) = ((s.C * s.R : Nat) : Int) := by rw [hR, Int.natCast_mul]
  rw [show bestV w s = (match bestO w s with | none => AV.tup 2 (ofL [nilS, AI 3]) | some m => AV.tup 2 (ofL [aInts false false m, AI 0])) from by unfold bestV; rw [hk]; rfl]
  (repeat' ((try (conv => whnf)); first | (with_reducible first | refine FCond.tA ?_ | refine FCond.fA ?_) | ((with_reducible refine FCond.i (fun hq => ?_) (fun hq => ?_)) <;> (try simp only [zA, zE, zD, zJ, zB, zI, Int.not_le, Int.not_lt] at hq)) | (with_reducible first | refine Fits.in64 (by omega) ?_ | refine FIdx.nat (by omega) ?_ | refine FIdx.int (by omega) ?_ | refine FTo.nat (by omega) ?_ | refine FTo.int (by omega) ?_) | ((with_reducible refine Need.mk ?_ ?_); focus exact needA) | (with_reducible refine FApp.grow ?_) | (refine FCall.pure (cK) ⟨Ln.sameB _ rfl, True.intro⟩ rfl ?_) | (rw [hC2, hCi]; refine Fits.in64 (by omega) ?_) | (refine FBit.shl1 (j := s.C * s.R) rfl (by omega) ?_) | (with_reducible refine FOr.pub ?_)))
  all_goals (try (conv => whnf))
  refine FLoop.of (ACalls.mono _) (X := Nat) (fun n => [(1, .fn fo 0 (ofL [])), (2, .ptr 0 0), (7, fndV f s (bstS w s n)), (8, AI s.C), (27, AI (2 ^ (s.C * s.R) : Nat)), (28, AI n)]) (fun n => [.box 3 (cSh f s)]) (fun n => n ≤ 2 ^ (s.C * s.R)) (fun n => 2 ^ (s.C * s.R) - n) 0 ⟨Nat.zero_le _, [0], Cut.A, allA⟩ ?_
  intro n hn'
  have hfp : (fndV f s (bstS w s n)).pureB = true := by cases bstS w s n <;> rfl
  by_cases hlt : n < 2 ^ (s.C * s.R)
  · have hmk := mkS_ok s n
    have hml := mkS_len s n
    have cV := covers_ok f s hs false false (mkS s n) hmk
    have cL := lone_ok f s hs false false (mkS s n) hmk
    have cP := price_ok f s hs false false (mkS s n) hmk
    have cS := safeP_ok f s hs hR3 false false (mkS s n) hmk
    (repeat' ((try (conv => whnf)); first | (with_reducible first | refine FCond.tA ?_ | refine FCond.fA ?_) | ((with_reducible refine FCond.i (fun hq => ?_) (fun hq => ?_)) <;> (try simp only [zA, zE, zD, zJ, zB, zI, Int.not_le, Int.not_lt] at hq)) | (with_reducible first | refine Fits.in64 (by omega) ?_ | refine FIdx.nat (by omega) ?_ | refine FIdx.int (by omega) ?_ | refine FTo.nat (by omega) ?_ | refine FTo.int (by omega) ?_) | ((with_reducible refine Need.mk ?_ ?_); focus exact needA) | (with_reducible refine FApp.grow ?_) | (with_reducible refine FOr.pub ?_)))
    all_goals (try (conv => whnf))
    refine FLoop.of (ACalls.mono _) (X := Nat) (fun r => [(1, .fn fo 0 (ofL [])), (2, .ptr 0 0), (7, fndV f s (bstS w s n)), (8, AI s.C), (9, AI n), (10, .ptr 1 0), (27, AI (2 ^ (s.C * s.R) : Nat)), (28, AI n), (36, AI s.R), (37, AI r)]) (fun r => .box 3 (cSh f s) :: .box 4 (ofL [aRows f.za f.ea f.rz f.re s.amounts, aInts f.zs f.es s.secret, AI s.gap, mskV r]) :: mskB (mkS s n) r) (fun r => r ≤ s.R) (fun r => s.R - r) 0 ⟨Nat.zero_le _, [0, 1], Cut.A, allA⟩ ?_
    intro r hr
    by_cases hltr : r < s.R
    · have hcr : (s.C : Int) * (r : Int) = ((s.C * r : Nat) : Int) := by rw [Int.natCast_mul]
      have hcr2 : s.C * r ≤ 12 := Nat.le_trans (Nat.mul_le_mul c4 (show r ≤ 3 by omega)) (by decide)
      have hp1 : ((2 ^ s.C : Nat) : Int) - 1 = ((2 ^ s.C - 1 : Nat) : Int) := by have := Nat.two_pow_pos s.C; omega
      have hpc := Nat.pow_le_pow_right (show 0 < 2 by decide) c4
      have hsh := Nat.shiftRight_le n (s.C * r)
      have hget := mkS_get (n := n) hltr
      rcases r with _ | r
      · (repeat' ((try (conv => whnf)); first | (with_reducible first | refine FCond.tA ?_ | refine FCond.fA ?_) | ((with_reducible refine FCond.i (fun hq => ?_) (fun hq => ?_)) <;> (try simp only [zA, zE, zD, zJ, zB, zI, Int.not_le, Int.not_lt] at hq)) | (with_reducible first | refine Fits.in64 (by omega) ?_ | refine FIdx.nat (by omega) ?_ | refine FIdx.int (by omega) ?_ | refine FTo.nat (by omega) ?_ | refine FTo.int (by omega) ?_) | ((with_reducible refine Need.mk ?_ ?_); focus exact needA) | (with_reducible refine FApp.grow ?_) | (rw [hcr]; refine Fits.in64 (by omega) ?_) | (refine FBit.shrN rfl (by omega) ?_) | (refine FBit.shl1 (j := s.C) rfl (by omega) ?_) | (refine FBit.andI (a := n >>> (s.C * 0)) (b := 2 ^ s.C - 1) rfl rfl hp1 (by omega) (by omega) ?_) | (with_reducible refine FOr.pub ?_)))
        all_goals (try (conv => whnf))
        exact ⟨⟨0 + 1, hltr, by show s.R - (0 + 1) < s.R - 0; omega, [0, 1, 2], Cut.of (Nat.le_of_ble_eq_true rfl) rfl rfl (CutL.turned rfl LnB.A (CutL.turned rfl (LnB.boxN ⟨⟨⟨⟨True.intro, Ln.A⟩, Ln.A⟩, Ln.A⟩, Ln.ownE rfl rfl⟩) (CutL.turned rfl (LnB.rowE (Nat.le_refl _) fun k hk o ho => by obtain rfl : k = 0 := Nat.lt_one_iff.1 hk; obtain rfl : o = 0 := Nat.lt_one_iff.1 ho; exact int_eq hget) CutL.done))), allA⟩⟩
      · (repeat' ((try (conv => whnf)); first | (with_reducible first | refine FCond.tA ?_ | refine FCond.fA ?_) | ((with_reducible refine FCond.i (fun hq => ?_) (fun hq => ?_)) <;> (try simp only [zA, zE, zD, zJ, zB, zI, Int.not_le, Int.not_lt] at hq)) | (with_reducible first | refine Fits.in64 (by omega) ?_ | refine FIdx.nat (by omega) ?_ | refine FIdx.int (by omega) ?_ | refine FTo.nat (by omega) ?_ | refine FTo.int (by omega) ?_) | ((with_reducible refine Need.mk ?_ ?_); focus exact needA) | (with_reducible refine FApp.grow ?_) | (rw [hcr]; refine Fits.in64 (by omega) ?_) | (refine FBit.shrN rfl (by omega) ?_) | (refine FBit.shl1 (j := s.C) rfl (by omega) ?_) | (refine FBit.andI (a := n >>> (s.C * (r + 1))) (b := 2 ^ s.C - 1) rfl rfl hp1 (by omega) (by omega) ?_) | (with_reducible refine FOr.pub ?_)))
        all_goals (try (conv => whnf))
        exact ⟨⟨r + 1 + 1, hltr, by show s.R - (r + 1 + 1) < s.R - (r + 1); omega, [0, 1, 3], Cut.of (Nat.le_of_ble_eq_true rfl) rfl rfl (CutL.turned rfl LnB.A (CutL.turned rfl (LnB.boxN ⟨⟨⟨⟨True.intro, Ln.A⟩, Ln.A⟩, Ln.A⟩, Ln.ownE rfl rfl⟩) (CutL.turned rfl (LnB.app (sz := 1) (fun k hk o ho => rfl) (fun o ho => by obtain rfl : o = 0 := Nat.lt_one_iff.1 ho; exact int_eq hget)) CutL.done))), allA⟩⟩
    · obtain ⟨R', hR'⟩ : ∃ R', s.R = R' + 1 := ⟨s.R - 1, by omega⟩
      have hrE : r = R' + 1 := by omega
      subst hrE
      (repeat' ((try (conv => whnf)); first | (with_reducible first | refine FCond.tA ?_ | refine FCond.fA ?_) | ((with_reducible refine FCond.i (fun hq => ?_) (fun hq => ?_)) <;> (try simp only [zA, zE, zD, zJ, zB, zI, Int.not_le, Int.not_lt] at hq)) | (with_reducible first | refine Fits.in64 (by omega) ?_ | refine FIdx.nat (by omega) ?_ | refine FIdx.int (by omega) ?_ | refine FTo.nat (by omega) ?_ | refine FTo.int (by omega) ?_) | ((with_reducible refine Need.mk ?_ ?_); focus exact needA) | (with_reducible refine FApp.grow ?_) | (with_reducible refine FOr.pub ?_)))
      all_goals (try (conv => whnf))
      refine FWk.of [(1, .fn fo 0 (ofL [])), (2, .ptr 0 0), (7, fndV f s (bstS w s n)), (8, AI s.C), (10, iSt f s false false (mkS s n)), (27, AI (2 ^ (s.C * s.R) : Nat)), (28, AI n)] [.box 3 (cSh f s)] [0] Cut.A ⟨Ln.A, Ln.A, Ln.A, Ln.A, Ln.boxP (goneB rfl) rfl ⟨⟨⟨⟨True.intro, Ln.A⟩, Ln.A⟩, Ln.A⟩, Ln.pubE (goneB rfl) rfl (Nat.le_refl _) (by rw [hml]; exact hR'.symm) (fun _ _ _ _ => rfl)⟩ rfl, Ln.A, Ln.A, True.intro⟩ ?_
      cases q1 : coversS s (mkS s n)
      · rw [q1] at cV
        have e1 : bstS w s (n + 1) = bstS w s n := bst_no (by unfold takeS; rw [q1]; rfl)
        (repeat' ((try (conv => whnf)); first | (with_reducible first | refine FCond.tA ?_ | refine FCond.fA ?_) | ((with_reducible refine FCond.i (fun hq => ?_) (fun hq => ?_)) <;> (try simp only [zA, zE, zD, zJ, zB, zI, Int.not_le, Int.not_lt] at hq)) | (with_reducible first | refine Fits.in64 (by omega) ?_ | refine FIdx.nat (by omega) ?_ | refine FIdx.int (by omega) ?_ | refine FTo.nat (by omega) ?_ | refine FTo.int (by omega) ?_) | ((with_reducible refine Need.mk ?_ ?_); focus exact needA) | (with_reducible refine FApp.grow ?_) | (refine FCall.pure (cV) ⟨Ln.sameB _ rfl, True.intro⟩ rfl ?_) | (with_reducible refine FOr.pub ?_)))
        all_goals (try (conv => whnf))
        exact ⟨⟨n + 1, hlt, by show _ - (n + 1) < _ - n; omega, [0], Cut.A, ⟨Ln.A, Ln.A, by rw [e1]; exact Ln.A, Ln.A, Ln.A, Ln.A, True.intro⟩⟩⟩
      rw [q1] at cV
      rcases Bool.eq_false_or_eq_true (loneS s (mkS s n)) with q2 | q2
      · rw [q2] at cL
        have e1 : bstS w s (n + 1) = bstS w s n := bst_no (by unfold takeS; rw [q1, q2]; rfl)
        (repeat' ((try (conv => whnf)); first | (with_reducible first | refine FCond.tA ?_ | refine FCond.fA ?_) | ((with_reducible refine FCond.i (fun hq => ?_) (fun hq => ?_)) <;> (try simp only [zA, zE, zD, zJ, zB, zI, Int.not_le, Int.not_lt] at hq)) | (with_reducible first | refine Fits.in64 (by omega) ?_ | refine FIdx.nat (by omega) ?_ | refine FIdx.int (by omega) ?_ | refine FTo.nat (by omega) ?_ | refine FTo.int (by omega) ?_) | ((with_reducible refine Need.mk ?_ ?_); focus exact needA) | (with_reducible refine FApp.grow ?_) | (refine FCall.pure (cV) ⟨Ln.sameB _ rfl, True.intro⟩ rfl ?_) | (refine FCall.pure (cL) ⟨Ln.sameB _ rfl, True.intro⟩ rfl ?_) | (with_reducible refine FOr.pub ?_)))
        all_goals (try (conv => whnf))
        exact ⟨⟨n + 1, hlt, by show _ - (n + 1) < _ - n; omega, [0], Cut.A, ⟨Ln.A, Ln.A, by rw [e1]; exact Ln.A, Ln.A, Ln.A, Ln.A, True.intro⟩⟩⟩
      rw [q2] at cL
      have NO : ∀ {X : Prop}, (bstS w s (n + 1) = bstS w s n → X) → takeS w s (mkS s n) (bstS w s n) = false → X := fun h k => h (bst_no k)
      cases hb : bstS w s n with
      | none =>
        cases q3 : safeS s (mkS s n)
        · rw [q3] at cS
          have e1 : bstS w s (n + 1) = none := by rw [bst_no (by unfold takeS; rw [q1, q2, q3]; simp), hb]
          (repeat' ((try (conv => whnf)); first | (with_reducible first | refine FCond.tA ?_ | refine FCond.fA ?_) | ((with_reducible refine FCond.i (fun hq => ?_) (fun hq => ?_)) <;> (try simp only [zA, zE, zD, zJ, zB, zI, Int.not_le, Int.not_lt] at hq)) | (with_reducible first | refine Fits.in64 (by omega) ?_ | refine FIdx.nat (by omega) ?_ | refine FIdx.int (by omega) ?_ | refine FTo.nat (by omega) ?_ | refine FTo.int (by omega) ?_) | ((with_reducible refine Need.mk ?_ ?_); focus exact needA) | (with_reducible refine FApp.grow ?_) | (refine FCall.pure (cV) ⟨Ln.sameB _ rfl, True.intro⟩ rfl ?_) | (refine FCall.pure (cL) ⟨Ln.sameB _ rfl, True.intro⟩ rfl ?_) | (refine FCall.pure (cS) ⟨Ln.sameB _ rfl, True.intro⟩ rfl ?_) | (with_reducible refine FOr.pub ?_)))
          all_goals (try (conv => whnf))
          exact ⟨⟨n + 1, hlt, by show _ - (n + 1) < _ - n; omega, [0], Cut.A, ⟨Ln.A, Ln.A, by rw [e1]; exact Ln.A, Ln.A, Ln.A, Ln.A, True.intro⟩⟩⟩
        · rw [q3] at cS
          have e1 : bstS w s (n + 1) = some (mkS s n) := bst_yes (by unfold takeS; rw [q1, q2, q3, hb]; rfl)
          (repeat' ((try (conv => whnf)); first | (with_reducible first | refine FCond.tA ?_ | refine FCond.fA ?_) | ((with_reducible refine FCond.i (fun hq => ?_) (fun hq => ?_)) <;> (try simp only [zA, zE, zD, zJ, zB, zI, Int.not_le, Int.not_lt] at hq)) | (with_reducible first | refine Fits.in64 (by omega) ?_ | refine FIdx.nat (by omega) ?_ | refine FIdx.int (by omega) ?_ | refine FTo.nat (by omega) ?_ | refine FTo.int (by omega) ?_) | ((with_reducible refine Need.mk ?_ ?_); focus exact needA) | (with_reducible refine FApp.grow ?_) | (refine FCall.pure (cV) ⟨Ln.sameB _ rfl, True.intro⟩ rfl ?_) | (refine FCall.pure (cL) ⟨Ln.sameB _ rfl, True.intro⟩ rfl ?_) | (refine FCall.pure (cS) ⟨Ln.sameB _ rfl, True.intro⟩ rfl ?_) | (with_reducible refine FOr.pub ?_)))
          all_goals (try (conv => whnf))
          exact ⟨⟨n + 1, hlt, by show _ - (n + 1) < _ - n; omega, [0], Cut.A, ⟨Ln.A, Ln.A, by rw [e1]; exact Ln.A, Ln.A, Ln.A, Ln.A, True.intro⟩⟩⟩
      | some b =>
        obtain ⟨k, hkn, rfl⟩ := bstS_mk hb
        have hmk2 := mkS_ok s k
        have cP2 := price_ok f s hs false false (mkS s k) hmk2
        have b1 := manyTo_bd (mkS s n) (show s.R ≤ 4 by omega)
        have b2 := leftTo_bd hs (mkS s n) (Nat.le_refl s.R)
        have b3 := manyTo_bd (mkS s k) (show s.R ≤ 4 by omega)
        have b4 := leftTo_bd hs (mkS s k) (Nat.le_refl s.R)
        have cF := hord (manyTo (mkS s n) s.R) (leftTo s (mkS s n) s.R) (manyTo (mkS s k) s.R) (leftTo s (mkS s k) s.R) (by omega)
        have cX := compare_ok false false false false (mkS s n) (mkS s k) (by rw [mkS_len, mkS_len]) (by rw [mkS_len]; omega)
        have hor : ∀ {σ : Nat → Nat → Prop} {Bp : Nat → Prop} {H : List AB} {z : Nat → Nat → AV}, Ln σ Bp H (.sl false true 2 1 (bslC z [(0, AI (ordI w (manyTo (mkS s n) s.R) (leftTo s (mkS s n) s.R) (manyTo (mkS s k) s.R) (leftTo s (mkS s k) s.R))), (1, AI (lexK (mkS s n) (mkS s k) (mkS s n).length 0))])) (.sl false true 2 1 (fun j _ => AI (orL (ordI w (manyTo (mkS s n) s.R) (leftTo s (mkS s n) s.R) (manyTo (mkS s k) s.R) (leftTo s (mkS s k) s.R)) (lexK (mkS s n) (mkS s k) (mkS s n).length 0) j))) := Ln.sl _ _ _ _ _ _ _ (fun h => h) (fun j hj o ho => by
          have : j = 0 ∨ j = 1 := by omega
          obtain rfl : o = 0 := by omega
          rcases this with rfl | rfl <;> rfl)
        have cO := or2_ok (ordI w (manyTo (mkS s n) s.R) (leftTo s (mkS s n) s.R) (manyTo (mkS s k) s.R) (leftTo s (mkS s k) s.R)) (lexK (mkS s n) (mkS s k) (mkS s n).length 0)
        rw [show orI (ordI w (manyTo (mkS s n) s.R) (leftTo s (mkS s n) s.R) (manyTo (mkS s k) s.R) (leftTo s (mkS s k) s.R)) (lexK (mkS s n) (mkS s k) (mkS s n).length 0) = cmpM w s (mkS s n) (mkS s k) from rfl] at cO
        by_cases hc : cmpM w s (mkS s n) (mkS s k) < 0
        · cases q3 : safeS s (mkS s n)
          · rw [q3] at cS
            have e1 : bstS w s (n + 1) = some (mkS s k) := by rw [bst_no (by unfold takeS; rw [q3]; simp), hb]
            (repeat' ((try (conv => whnf)); first | (with_reducible first | refine FCond.tA ?_ | refine FCond.fA ?_) | ((with_reducible refine FCond.i (fun hq => ?_) (fun hq => ?_)) <;> (try simp only [zA, zE, zD, zJ, zB, zI, Int.not_le, Int.not_lt] at hq)) | (with_reducible first | refine Fits.in64 (by omega) ?_ | refine FIdx.nat (by omega) ?_ | refine FIdx.int (by omega) ?_ | refine FTo.nat (by omega) ?_ | refine FTo.int (by omega) ?_) | ((with_reducible refine Need.mk ?_ ?_); focus exact needA) | (with_reducible refine FApp.grow ?_) | (refine FCall.pure (cV) ⟨Ln.sameB _ rfl, True.intro⟩ rfl ?_) | (refine FCall.pure (cL) ⟨Ln.sameB _ rfl, True.intro⟩ rfl ?_) | (refine FCall.pure (cP) ⟨Ln.sameB _ rfl, True.intro⟩ rfl ?_) | (refine FCall.pure (cP2) ⟨Ln.sameB _ rfl, True.intro⟩ rfl ?_) | (refine FCall.pure (cF) ⟨Ln.sameB _ rfl, Ln.sameB _ rfl, True.intro⟩ rfl ?_) | (refine FCall.pure (cX) ⟨Ln.sameB _ rfl, Ln.sameB _ rfl, True.intro⟩ rfl ?_) | (refine FCall.pure cO ⟨hor, True.intro⟩ rfl ?_) | (refine FCall.pure (cS) ⟨Ln.sameB _ rfl, True.intro⟩ rfl ?_) | (with_reducible refine FOr.pub ?_)))
            all_goals (try (conv => whnf))
            exact ⟨⟨n + 1, hlt, by show _ - (n + 1) < _ - n; omega, [0], Cut.A, ⟨Ln.A, Ln.A, by rw [e1]; exact Ln.A, Ln.A, Ln.A, Ln.A, True.intro⟩⟩⟩
          · rw [q3] at cS
            have e1 : bstS w s (n + 1) = some (mkS s n) := bst_yes (by unfold takeS; rw [q1, q2, q3, hb]; simp; exact hc)
            (repeat' ((try (conv => whnf)); first | (with_reducible first | refine FCond.tA ?_ | refine FCond.fA ?_) | ((with_reducible refine FCond.i (fun hq => ?_) (fun hq => ?_)) <;> (try simp only [zA, zE, zD, zJ, zB, zI, Int.not_le, Int.not_lt] at hq)) | (with_reducible first | refine Fits.in64 (by omega) ?_ | refine FIdx.nat (by omega) ?_ | refine FIdx.int (by omega) ?_ | refine FTo.nat (by omega) ?_ | refine FTo.int (by omega) ?_) | ((with_reducible refine Need.mk ?_ ?_); focus exact needA) | (with_reducible refine FApp.grow ?_) | (refine FCall.pure (cV) ⟨Ln.sameB _ rfl, True.intro⟩ rfl ?_) | (refine FCall.pure (cL) ⟨Ln.sameB _ rfl, True.intro⟩ rfl ?_) | (refine FCall.pure (cP) ⟨Ln.sameB _ rfl, True.intro⟩ rfl ?_) | (refine FCall.pure (cP2) ⟨Ln.sameB _ rfl, True.intro⟩ rfl ?_) | (refine FCall.pure (cF) ⟨Ln.sameB _ rfl, Ln.sameB _ rfl, True.intro⟩ rfl ?_) | (refine FCall.pure (cX) ⟨Ln.sameB _ rfl, Ln.sameB _ rfl, True.intro⟩ rfl ?_) | (refine FCall.pure cO ⟨hor, True.intro⟩ rfl ?_) | (refine FCall.pure (cS) ⟨Ln.sameB _ rfl, True.intro⟩ rfl ?_) | (with_reducible refine FOr.pub ?_)))
            all_goals (try (conv => whnf))
            exact ⟨⟨n + 1, hlt, by show _ - (n + 1) < _ - n; omega, [0], Cut.A, ⟨Ln.A, Ln.A, by rw [e1]; exact Ln.A, Ln.A, Ln.A, Ln.A, True.intro⟩⟩⟩
        · have e1 : bstS w s (n + 1) = some (mkS s k) := by rw [bst_no (by unfold takeS; rw [hb]; simp [hc]), hb]
          (repeat' ((try (conv => whnf)); first | (with_reducible first | refine FCond.tA ?_ | refine FCond.fA ?_) | ((with_reducible refine FCond.i (fun hq => ?_) (fun hq => ?_)) <;> (try simp only [zA, zE, zD, zJ, zB, zI, Int.not_le, Int.not_lt] at hq)) | (with_reducible first | refine Fits.in64 (by omega) ?_ | refine FIdx.nat (by omega) ?_ | refine FIdx.int (by omega) ?_ | refine FTo.nat (by omega) ?_ | refine FTo.int (by omega) ?_) | ((with_reducible refine Need.mk ?_ ?_); focus exact needA) | (with_reducible refine FApp.grow ?_) | (refine FCall.pure (cV) ⟨Ln.sameB _ rfl, True.intro⟩ rfl ?_) | (refine FCall.pure (cL) ⟨Ln.sameB _ rfl, True.intro⟩ rfl ?_) | (refine FCall.pure (cP) ⟨Ln.sameB _ rfl, True.intro⟩ rfl ?_) | (refine FCall.pure (cP2) ⟨Ln.sameB _ rfl, True.intro⟩ rfl ?_) | (refine FCall.pure (cF) ⟨Ln.sameB _ rfl, Ln.sameB _ rfl, True.intro⟩ rfl ?_) | (refine FCall.pure (cX) ⟨Ln.sameB _ rfl, Ln.sameB _ rfl, True.intro⟩ rfl ?_) | (refine FCall.pure cO ⟨hor, True.intro⟩ rfl ?_) | (with_reducible refine FOr.pub ?_)))
          all_goals (try (conv => whnf))
          exact ⟨⟨n + 1, hlt, by show _ - (n + 1) < _ - n; omega, [0], Cut.A, ⟨Ln.A, Ln.A, by rw [e1]; exact Ln.A, Ln.A, Ln.A, Ln.A, True.intro⟩⟩⟩
  · have hnE : 2 ^ (s.C * s.R) = n := by omega
    have hbo : bestO w s = bstS w s n := by unfold bestO; rw [hnE]
    rw [hbo]
    cases hb : bstS w s n with
    | none =>
      (repeat' ((try (conv => whnf)); first | (with_reducible first | refine FCond.tA ?_ | refine FCond.fA ?_) | ((with_reducible refine FCond.i (fun hq => ?_) (fun hq => ?_)) <;> (try simp only [zA, zE, zD, zJ, zB, zI, Int.not_le, Int.not_lt] at hq)) | (with_reducible first | refine Fits.in64 (by omega) ?_ | refine FIdx.nat (by omega) ?_ | refine FIdx.int (by omega) ?_ | refine FTo.nat (by omega) ?_ | refine FTo.int (by omega) ?_) | ((with_reducible refine Need.mk ?_ ?_); focus exact needA) | (with_reducible refine FApp.grow ?_) | (with_reducible refine FOr.pub ?_)))
      all_goals (try (conv => whnf))
      (refine ⟨⟨_, [], [], Cut.nil _, Ln.sameB _ rfl, ?_, rfl⟩⟩)
      rfl
    | some b =>
      (repeat' ((try (conv => whnf)); first | (with_reducible first | refine FCond.tA ?_ | refine FCond.fA ?_) | ((with_reducible refine FCond.i (fun hq => ?_) (fun hq => ?_)) <;> (try simp only [zA, zE, zD, zJ, zB, zI, Int.not_le, Int.not_lt] at hq)) | (with_reducible first | refine Fits.in64 (by omega) ?_ | refine FIdx.nat (by omega) ?_ | refine FIdx.int (by omega) ?_ | refine FTo.nat (by omega) ?_ | refine FTo.int (by omega) ?_) | ((with_reducible refine Need.mk ?_ ?_); focus exact needA) | (with_reducible refine FApp.grow ?_) | (with_reducible refine FOr.pub ?_)))
      all_goals (try (conv => whnf))
      (refine ⟨⟨_, [], [], Cut.nil _, Ln.sameB _ rfl, ?_, rfl⟩⟩)
      rfl
theorem least_ok (f : ShF) (s : Sheet) (hn : Near s) (h3 : s.ok = true → s.R ≤ 3) : ACall Try.prog 16 [aSh f s] [] (fun r h => r = bestV false s ∧ h = []) := by
  have cB := best_ok 45 false ordL_ok f s hn h3
  unfold bestV at cB ⊢
  (refine fcall_of mixed Try.func16 rfl (by decide) (hs := {}) ?k (ac := ?ac) ?c (rs := ?rs) ?r ?l ?H; (case k => kernel_rfl); (case c => (conv => (lhs; cbv))); (case r => (conv => (lhs; cbv))); (case l => exact Nat.le_of_ble_eq_true rfl))
  cases hk : s.ok
  · rw [hk, if_neg (by decide)] at cB
    (repeat' ((try (conv => whnf)); first | (with_reducible first | refine FCond.tA ?_ | refine FCond.fA ?_) | ((with_reducible refine FCond.i (fun hq => ?_) (fun hq => ?_)) <;> (try simp only [zA, zE, zD, zJ, zB, zI, Int.not_le, Int.not_lt] at hq)) | (with_reducible first | refine Fits.in64 (by omega) ?_ | refine FIdx.nat (by omega) ?_ | refine FIdx.int (by omega) ?_ | refine FTo.nat (by omega) ?_ | refine FTo.int (by omega) ?_) | ((with_reducible refine Need.mk ?_ ?_); focus exact needA) | (with_reducible refine FApp.grow ?_) | (refine FCall.pure (cB) ⟨Ln.sameB _ rfl, Ln.sameB _ rfl, True.intro⟩ rfl ?_) | (with_reducible refine FOr.pub ?_)))
    all_goals (try (conv => whnf))
    all_goals ((refine ⟨⟨_, [], [], Cut.nil _, Ln.sameB _ rfl, ?_, rfl⟩⟩); rfl)
  · rw [hk, if_pos rfl] at cB
    cases hb : bestO false s with
    | none =>
      rw [hb] at cB
      (repeat' ((try (conv => whnf)); first | (with_reducible first | refine FCond.tA ?_ | refine FCond.fA ?_) | ((with_reducible refine FCond.i (fun hq => ?_) (fun hq => ?_)) <;> (try simp only [zA, zE, zD, zJ, zB, zI, Int.not_le, Int.not_lt] at hq)) | (with_reducible first | refine Fits.in64 (by omega) ?_ | refine FIdx.nat (by omega) ?_ | refine FIdx.int (by omega) ?_ | refine FTo.nat (by omega) ?_ | refine FTo.int (by omega) ?_) | ((with_reducible refine Need.mk ?_ ?_); focus exact needA) | (with_reducible refine FApp.grow ?_) | (refine FCall.pure (cB) ⟨Ln.sameB _ rfl, Ln.sameB _ rfl, True.intro⟩ rfl ?_) | (with_reducible refine FOr.pub ?_)))
      all_goals (try (conv => whnf))
      all_goals ((refine ⟨⟨_, [], [], Cut.nil _, Ln.sameB _ rfl, ?_, rfl⟩⟩); rfl)
    | some b =>
      rw [hb] at cB
      (repeat' ((try (conv => whnf)); first | (with_reducible first | refine FCond.tA ?_ | refine FCond.fA ?_) | ((with_reducible refine FCond.i (fun hq => ?_) (fun hq => ?_)) <;> (try simp only [zA, zE, zD, zJ, zB, zI, Int.not_le, Int.not_lt] at hq)) | (with_reducible first | refine Fits.in64 (by omega) ?_ | refine FIdx.nat (by omega) ?_ | refine FIdx.int (by omega) ?_ | refine FTo.nat (by omega) ?_ | refine FTo.int (by omega) ?_) | ((with_reducible refine Need.mk ?_ ?_); focus exact needA) | (with_reducible refine FApp.grow ?_) | (refine FCall.pure (cB) ⟨Ln.sameB _ rfl, Ln.sameB _ rfl, True.intro⟩ rfl ?_) | (with_reducible refine FOr.pub ?_)))
      all_goals (try (conv => whnf))
      all_goals ((refine ⟨⟨_, [], [], Cut.nil _, Ln.sameB _ rfl, ?_, rfl⟩⟩); rfl)
theorem worth_ok (f : ShF) (s : Sheet) (hn : Near s) (h3 : s.ok = true → s.R ≤ 3) : ACall Try.prog 17 [aSh f s] [] (fun r h => r = bestV true s ∧ h = []) := by
  have cB := best_ok 47 true ordW_ok f s hn h3
  unfold bestV at cB ⊢
  (refine fcall_of mixed Try.func17 rfl (by decide) (hs := {}) ?k (ac := ?ac) ?c (rs := ?rs) ?r ?l ?H; (case k => kernel_rfl); (case c => (conv => (lhs; cbv))); (case r => (conv => (lhs; cbv))); (case l => exact Nat.le_of_ble_eq_true rfl))
  cases hk : s.ok
  · rw [hk, if_neg (by decide)] at cB
    (repeat' ((try (conv => whnf)); first | (with_reducible first | refine FCond.tA ?_ | refine FCond.fA ?_) | ((with_reducible refine FCond.i (fun hq => ?_) (fun hq => ?_)) <;> (try simp only [zA, zE, zD, zJ, zB, zI, Int.not_le, Int.not_lt] at hq)) | (with_reducible first | refine Fits.in64 (by omega) ?_ | refine FIdx.nat (by omega) ?_ | refine FIdx.int (by omega) ?_ | refine FTo.nat (by omega) ?_ | refine FTo.int (by omega) ?_) | ((with_reducible refine Need.mk ?_ ?_); focus exact needA) | (with_reducible refine FApp.grow ?_) | (refine FCall.pure (cB) ⟨Ln.sameB _ rfl, Ln.sameB _ rfl, True.intro⟩ rfl ?_) | (with_reducible refine FOr.pub ?_)))
    all_goals (try (conv => whnf))
    all_goals ((refine ⟨⟨_, [], [], Cut.nil _, Ln.sameB _ rfl, ?_, rfl⟩⟩); rfl)
  · rw [hk, if_pos rfl] at cB
    cases hb : bestO true s with
    | none =>
      rw [hb] at cB
      (repeat' ((try (conv => whnf)); first | (with_reducible first | refine FCond.tA ?_ | refine FCond.fA ?_) | ((with_reducible refine FCond.i (fun hq => ?_) (fun hq => ?_)) <;> (try simp only [zA, zE, zD, zJ, zB, zI, Int.not_le, Int.not_lt] at hq)) | (with_reducible first | refine Fits.in64 (by omega) ?_ | refine FIdx.nat (by omega) ?_ | refine FIdx.int (by omega) ?_ | refine FTo.nat (by omega) ?_ | refine FTo.int (by omega) ?_) | ((with_reducible refine Need.mk ?_ ?_); focus exact needA) | (with_reducible refine FApp.grow ?_) | (refine FCall.pure (cB) ⟨Ln.sameB _ rfl, Ln.sameB _ rfl, True.intro⟩ rfl ?_) | (with_reducible refine FOr.pub ?_)))
      all_goals (try (conv => whnf))
      all_goals ((refine ⟨⟨_, [], [], Cut.nil _, Ln.sameB _ rfl, ?_, rfl⟩⟩); rfl)
    | some b =>
      rw [hb] at cB
      (repeat' ((try (conv => whnf)); first | (with_reducible first | refine FCond.tA ?_ | refine FCond.fA ?_) | ((with_reducible refine FCond.i (fun hq => ?_) (fun hq => ?_)) <;> (try simp only [zA, zE, zD, zJ, zB, zI, Int.not_le, Int.not_lt] at hq)) | (with_reducible first | refine Fits.in64 (by omega) ?_ | refine FIdx.nat (by omega) ?_ | refine FIdx.int (by omega) ?_ | refine FTo.nat (by omega) ?_ | refine FTo.int (by omega) ?_) | ((with_reducible refine Need.mk ?_ ?_); focus exact needA) | (with_reducible refine FApp.grow ?_) | (refine FCall.pure (cB) ⟨Ln.sameB _ rfl, Ln.sameB _ rfl, True.intro⟩ rfl ?_) | (with_reducible refine FOr.pub ?_)))
      all_goals (try (conv => whnf))
      all_goals ((refine ⟨⟨_, [], [], Cut.nil _, Ln.sameB _ rfl, ?_, rfl⟩⟩); rfl)
end Go.Proofs.Ytlffjnmbpoemnaa

namespace Go.Proofs.Ytlffjnmbpoemnaa

theorem lexK_trans {a b c : List Int} : ∀ {n k : Nat}, lexK a b n k < 0 → lexK b c n k < 0 → lexK a c n k < 0
  | 0, _, h, _ => by simp [lexK] at h
  | n + 1, k, h1, h2 => by
    simp only [lexK] at h1 h2 ⊢
    by_cases e1 : a.getD k 0 = b.getD k 0
    · rw [if_pos e1] at h1
      by_cases e2 : b.getD k 0 = c.getD k 0
      · rw [if_pos e2] at h2; rw [if_pos (e1.trans e2)]; exact lexK_trans h1 h2
      · rw [if_neg e2] at h2; rw [if_neg (by omega), e1]; exact h2
    · rw [if_neg e1] at h1
      have l1 : a.getD k 0 < b.getD k 0 := by unfold cmpI at h1; split at h1; assumption; split at h1 <;> omega
      by_cases e2 : b.getD k 0 = c.getD k 0
      · rw [if_neg (by omega), ← e2]; exact h1
      · rw [if_neg e2] at h2
        have l2 : b.getD k 0 < c.getD k 0 := by unfold cmpI at h2; split at h2; assumption; split at h2 <;> omega
        rw [if_neg (by omega)]; unfold cmpI; rw [if_pos (by omega)]; decide
def p1 (w : Bool) (s : Sheet) (m : List Int) : Int := if w then leftTo s m s.R else manyTo m s.R
def p2 (w : Bool) (s : Sheet) (m : List Int) : Int := if w then manyTo m s.R else leftTo s m s.R
theorem cmpM_lt {w : Bool} {s : Sheet} {a b : List Int} : cmpM w s a b < 0 ↔ p1 w s a < p1 w s b ∨ (p1 w s a = p1 w s b ∧ (p2 w s a < p2 w s b ∨ (p2 w s a = p2 w s b ∧ lexK a b a.length 0 < 0))) := by
  unfold cmpM ordI orI p1 p2
  cases w
  · simp only [Bool.false_eq_true, if_false]
    split <;> (try split) <;> omega
  · simp only [if_true]
    split <;> (try split) <;> omega
theorem cmpM_trans {w : Bool} {s : Sheet} {a b c : List Int} (hl : a.length = b.length) (h1 : cmpM w s a b < 0) (h2 : cmpM w s b c < 0) : cmpM w s a c < 0 := by
  rw [cmpM_lt] at h1 h2 ⊢
  rcases h1 with h1 | ⟨h1, h1' | ⟨h1', h1''⟩⟩ <;> rcases h2 with h2 | ⟨h2, h2' | ⟨h2', h2''⟩⟩
  any_goals (left; omega)
  any_goals (right; refine ⟨by omega, ?_⟩; left; omega)
  right
  refine ⟨by omega, .inr ⟨by omega, ?_⟩⟩
  rw [← hl] at h2''
  exact lexK_trans h1'' h2''
/-- Masks that the search looks at. -/
noncomputable def goodS (s : Sheet) (m : List Int) : Bool := coversS s m && !loneS s m && safeS s m
theorem bst_inv (w : Bool) (s : Sheet) : ∀ n, match bstS w s n with
    | none => ∀ k, k < n → goodS s (mkS s k) = false
    | some b => goodS s b = true ∧ (∃ k, k < n ∧ b = mkS s k) ∧ ∀ k, k < n → goodS s (mkS s k) = true → ¬ cmpM w s (mkS s k) b < 0
  | 0 => fun k hk => absurd hk (Nat.not_lt_zero k)
  | n + 1 => by
    have ih := bst_inv w s n
    have hgt : ∀ b, takeS w s (mkS s n) b = (goodS s (mkS s n) && (match b with | none => true | some b => decide (cmpM w s (mkS s n) b < 0))) := fun b => by
      unfold takeS goodS
      cases b <;> cases coversS s (mkS s n) <;> cases loneS s (mkS s n) <;> cases safeS s (mkS s n) <;> simp
    cases hb : bstS w s n with
    | none =>
      rw [hb] at ih
      cases hg : goodS s (mkS s n)
      · rw [bst_no (by rw [hgt, hg]; rfl), hb]
        intro k hk
        by_cases e : k = n
        · subst e; exact hg
        · exact ih k (by omega)
      · rw [bst_yes (by rw [hgt, hg, hb]; rfl)]
        refine ⟨hg, ⟨n, Nat.lt_succ_self n, rfl⟩, fun k hk hgk => ?_⟩
        by_cases e : k = n
        · subst e
          rw [cmpM_lt]
          have hirr : ∀ (l : List Int) (n k : Nat), lexK l l n k = 0 := by
            intro l n
            induction n with
            | zero => intro k; rfl
            | succ n ih => intro k; simp only [lexK, if_true]; exact ih _
          rw [hirr]; omega
        · have := ih k (by omega); rw [this] at hgk; cases hgk
    | some b =>
      rw [hb] at ih
      obtain ⟨i1, ⟨k0, hk0, i2⟩, i3⟩ := ih
      cases hg : goodS s (mkS s n)
      · rw [bst_no (by rw [hgt, hg]; rfl), hb]
        refine ⟨i1, ⟨k0, by omega, i2⟩, fun k hk hgk => ?_⟩
        by_cases e : k = n
        · subst e; rw [hg] at hgk; cases hgk
        · exact i3 k (by omega) hgk
      · by_cases hc : cmpM w s (mkS s n) b < 0
        · rw [bst_yes (by rw [hgt, hg, hb]; simpa using hc)]
          refine ⟨hg, ⟨n, Nat.lt_succ_self n, rfl⟩, fun k hk hgk => ?_⟩
          by_cases e : k = n
          · subst e
            intro h
            have hirr : ∀ (l : List Int) (n k : Nat), lexK l l n k = 0 := by
              intro l n
              induction n with
              | zero => intro k; rfl
              | succ n ih => intro k; simp only [lexK, if_true]; exact ih _
            rw [cmpM_lt, hirr] at h; omega
          · intro h
            exact i3 k (by omega) hgk (cmpM_trans (by rw [mkS_len, mkS_len]) h hc)
        · rw [bst_no (by rw [hgt, hg, hb]; simpa using hc), hb]
          refine ⟨i1, ⟨k0, by omega, i2⟩, fun k hk hgk => ?_⟩
          by_cases e : k = n
          · subst e; exact hc
          · exact i3 k (by omega) hgk
/-- The sheet of the examples. -/
def exS : Sheet := ⟨[[20, 50, 10], [8, 19, 22], [17, 32, 12]], [0, 0, 2], 10⟩
def exM : List Int := [0, 3, 3]
theorem exS_ok : exS.ok = true := by decide
theorem ex_pair {r c : Nat} (hr : r < 3) (hc : c < 3) : (r = 0 ∨ r = 1 ∨ r = 2) ∧ (c = 0 ∨ c = 1 ∨ c = 2) := by omega
def ofM (l : List (List Int)) : Nat → Nat → Int := fun r c => at2 l r c
theorem ex_ag {l : List (List Int)} (h : ∀ r, r < 3 → ∀ c, c < 3 → 0 ≤ at2 l r c ∧ (outS exM r c = false → at2 l r c = exS.A r c)) (h1 : ∀ r, r < 3 → sumTo (at2 l r) 3 = sumTo (exS.A r) 3) (h2 : ∀ c, c < 3 → sumTo (fun r => at2 l r c) 3 = sumTo (fun r => exS.A r c) 3) : Ag exS exM (ofM l) :=
  ⟨fun r c hr hc => (h r hr c hc).1, fun r c hr hc => (h r hr c hc).2, h1, h2⟩
theorem ex_hi : IsHi exS exM 2 1 49 := by
  refine ⟨⟨ofM [[20, 50, 10], [25, 2, 22], [0, 49, 12]], ex_ag (by decide) (by decide) (by decide), by decide⟩, fun x hx => ?_⟩
  have h1 := hx.row 2 (show 2 < exS.R by decide)
  have h2 := hx.nn 2 0 (show 2 < exS.R by decide) (show 0 < exS.C by decide)
  have h3 := hx.un 2 2 (show 2 < exS.R by decide) (show 2 < exS.C by decide) (by decide)
  have e1 : sumTo (x 2) exS.C = 0 + x 2 0 + x 2 1 + x 2 2 := rfl
  have e2 : sumTo (exS.A 2) exS.C = 61 := by decide
  have e3 : exS.A 2 2 = 12 := by decide
  omega
theorem ex_lo : IsLo exS exM 2 1 24 := by
  refine ⟨⟨ofM [[20, 50, 10], [0, 27, 22], [25, 24, 12]], ex_ag (by decide) (by decide) (by decide), by decide⟩, fun x hx => ?_⟩
  have h1 := hx.row 2 (show 2 < exS.R by decide)
  have h2 := hx.nn 1 0 (show 1 < exS.R by decide) (show 0 < exS.C by decide)
  have h3 := hx.un 2 2 (show 2 < exS.R by decide) (show 2 < exS.C by decide) (by decide)
  have h4 := hx.un 0 0 (show 0 < exS.R by decide) (show 0 < exS.C by decide) (by decide)
  have h5 := hx.col 0 (show 0 < exS.C by decide)
  have e1 : sumTo (x 2) exS.C = 0 + x 2 0 + x 2 1 + x 2 2 := rfl
  have e2 : sumTo (exS.A 2) exS.C = 61 := by decide
  have e3 : exS.A 2 2 = 12 := by decide
  have e4 : sumTo (fun r => x r 0) exS.R = 0 + x 0 0 + x 1 0 + x 2 0 := rfl
  have e5 : sumTo (fun r => exS.A r 0) exS.R = 45 := by decide
  have e6 : exS.A 0 0 = 20 := by decide
  omega
theorem ex_safe : safeS exS exM = true := by
  unfold safeS rowSafe
  refine rall_yes fun r hr => rall_yes fun c hc => ?_
  have hr : r < 3 := hr
  have hc : c < 3 := hc
  unfold cellSafe
  by_cases h : r = 2 ∧ c = 1
  · obtain ⟨rfl, rfl⟩ := h
    rw [ex_hi.eq, ex_lo.eq]; decide
  · have : outS exS.secret r c = false := by
      obtain ⟨h1, h2⟩ := ex_pair hr hc
      rcases h1 with rfl | rfl | rfl <;> rcases h2 with rfl | rfl | rfl <;> first | decide | (exact absurd ⟨rfl, rfl⟩ h)
    rw [this]; rfl
theorem ex_key : ∀ k, k < 512 → (coversS exS (mkS exS k) && !loneS exS (mkS exS k)) = true → cmpM false exS exM (mkS exS k) < 0 ∨ mkS exS k = exM := by decide +kernel
theorem ex_mk : mkS exS 216 = exM := by decide
theorem ex_best : bestO false exS = some exM := by
  obtain ⟨N, hN⟩ : ∃ N, 2 ^ (exS.C * exS.R) = N := ⟨_, rfl⟩
  have hN5 : N = 512 := by rw [← hN]; decide
  have h := bst_inv false exS N
  have hg : goodS exS (mkS exS 216) = true := by unfold goodS; rw [ex_mk, ex_safe]; decide
  have e : bestO false exS = bstS false exS N := by unfold bestO; rw [hN]
  rw [e]
  cases hb : bstS false exS N with
  | none => rw [hb] at h; have := h 216 (by omega); rw [hg] at this; cases this
  | some b =>
    rw [hb] at h
    obtain ⟨h1, ⟨k, hk, rfl⟩, h3⟩ := h
    have h4 := h3 216 (by omega) hg
    rw [ex_mk] at h4
    have h5 : (coversS exS (mkS exS k) && !loneS exS (mkS exS k)) = true := by unfold goodS at h1; simp only [Bool.and_eq_true] at h1 ⊢; exact h1.1
    rcases ex_key k (by omega) h5 with h6 | h6
    · exact (h4 h6).elim
    · rw [h6]
end Go.Proofs.Ytlffjnmbpoemnaa

namespace Go.Proofs.Ytlffjnmbpoemnaa
open Go.RowKit

theorem same_step {a b : List Int} {i : Nat} (hl : a.length = b.length) (hi : i < a.length) (h : a.take i = b.take i) (e : a.getD i 0 = b.getD i 0) : a.take (i + 1) = b.take (i + 1) := by
  have hb : i < b.length := by omega
  rw [List.take_add_one, List.take_add_one, h]
  simp only [List.getD, List.getElem?_eq_getElem hi, List.getElem?_eq_getElem hb, Option.getD_some] at e
  rw [List.getElem?_eq_getElem hi, List.getElem?_eq_getElem hb, e]
theorem Ln.lits {σ : Nat → Nat → Prop} {Bp : Nat → Prop} {H : List AB} {c : Nat → Nat → AV} {n : Nat} {l : List Int} (hn : n = l.length) (h : ∀ k, k < n → c k 0 = AI (l.getD k 0)) : Ln σ Bp H (.sl false true n 1 c) (aInts false true l) := by
  subst hn
  exact Ln.sl _ _ _ _ _ _ _ (fun h => h) fun k hk o ho => by
    obtain rfl : o = 0 := by omega
    exact (h k hk).symm
theorem k3 {p : Nat → Prop} (h0 : p 0) (h1 : p 1) (h2 : p 2) : ∀ k, k < 3 → p k := below3 h0 h1 h2
set_option maxHeartbeats 8000000
set_option maxRecDepth 100000
theorem sameInts_ok (z e z2 e2 : Bool) (a b : List Int) (h1 : a.length ≤ 1000000) : ACall Try.prog 18 [aInts z e a, aInts z2 e2 b] [] (fun r h => r = .bool (decide (a = b)) ∧ h = []) := by
  (refine fcall_of mixed Try.func18 rfl (by decide) (hs := {}) ?k (ac := ?ac) ?c (rs := ?rs) ?r ?l ?H; (case k => kernel_rfl); (case c => (conv => (lhs; cbv))); (case r => (conv => (lhs; cbv))); (case l => exact Nat.le_of_ble_eq_true rfl))
  (repeat' ((try (conv => whnf)); first | (with_reducible first | refine FCond.tA ?_ | refine FCond.fA ?_) | ((with_reducible refine FCond.i (fun hq => ?_) (fun hq => ?_)) <;> (try simp only [zA, zE, zD, zJ, zB, zI, Int.not_le, Int.not_lt] at hq)) | (with_reducible first | refine Fits.in64 (by omega) ?_ | refine FIdx.nat (by omega) ?_ | refine FIdx.int (by omega) ?_ | refine FTo.nat (by omega) ?_ | refine FTo.int (by omega) ?_) | ((with_reducible refine Need.mk ?_ ?_); focus exact needA) | (with_reducible refine FApp.grow ?_) | (with_reducible refine FOr.pub ?_)))
  all_goals (try (conv => whnf))
  · (refine ⟨⟨_, [], [], Cut.nil _, Ln.sameB _ rfl, ?_, rfl⟩⟩)
    rw [decide_eq_false fun h => hq (by rw [h])]
  · have hl : a.length = b.length := by omega
    refine FLoop.of (ACalls.mono _) (X := Nat) (fun i => [(0, aInts z e a), (1, aInts z2 e2 b), (5, AI i)]) (fun _ => []) (fun i => i ≤ a.length ∧ a.take i = b.take i) (fun i => a.length - i) 0 ⟨⟨by omega, rfl⟩, [], Cut.A, allA⟩ ?_
    rintro i ⟨hi, hL⟩
    by_cases hlt : i < a.length
    · (repeat' ((try (conv => whnf)); first | (with_reducible first | refine FCond.tA ?_ | refine FCond.fA ?_) | ((with_reducible refine FCond.i (fun hq => ?_) (fun hq => ?_)) <;> (try simp only [zA, zE, zD, zJ, zB, zI, Int.not_le, Int.not_lt] at hq)) | (with_reducible first | refine Fits.in64 (by omega) ?_ | refine FIdx.nat (by omega) ?_ | refine FIdx.int (by omega) ?_ | refine FTo.nat (by omega) ?_ | refine FTo.int (by omega) ?_) | ((with_reducible refine Need.mk ?_ ?_); focus exact needA) | (with_reducible refine FApp.grow ?_) | (with_reducible refine FOr.pub ?_)))
      all_goals (try (conv => whnf))
      · (refine ⟨⟨_, [], [], Cut.nil _, Ln.sameB _ rfl, ?_, rfl⟩⟩)
        rw [decide_eq_false fun h => hq (by rw [h])]
      · (exact ⟨⟨(i + 1), ⟨by omega, same_step hl hlt hL hq⟩, by show _ < _; omega, [], Cut.A, allA⟩⟩)
    · (repeat' ((try (conv => whnf)); first | (with_reducible first | refine FCond.tA ?_ | refine FCond.fA ?_) | ((with_reducible refine FCond.i (fun hq => ?_) (fun hq => ?_)) <;> (try simp only [zA, zE, zD, zJ, zB, zI, Int.not_le, Int.not_lt] at hq)) | (with_reducible first | refine Fits.in64 (by omega) ?_ | refine FIdx.nat (by omega) ?_ | refine FIdx.int (by omega) ?_ | refine FTo.nat (by omega) ?_ | refine FTo.int (by omega) ?_) | ((with_reducible refine Need.mk ?_ ?_); focus exact needA) | (with_reducible refine FApp.grow ?_) | (with_reducible refine FOr.pub ?_)))
      all_goals (try (conv => whnf))
      (refine ⟨⟨_, [], [], Cut.nil _, Ln.sameB _ rfl, ?_, rfl⟩⟩)
      rw [List.take_of_length_le (by omega), List.take_of_length_le (by omega)] at hL
      rw [decide_eq_true hL]
def exF : ShF := ⟨false, true, fun _ => false, fun _ => true, false, true⟩
theorem example_ok : ACall Try.prog 43 [] [] (fun r h' => r = aSh exF exS ∧ h' = []) := by
  (refine fcall_of mixed Try.func43 rfl (by decide) (hs := {}) ?k (ac := ?ac) ?c (rs := ?rs) ?r ?l ?H; (case k => kernel_rfl); (case c => (conv => (lhs; cbv))); (case r => (conv => (lhs; cbv))); (case l => exact Nat.le_of_ble_eq_true rfl))
  (repeat' ((try (conv => whnf)); first | (with_reducible first | refine FCond.tA ?_ | refine FCond.fA ?_) | ((with_reducible refine FCond.i (fun hq => ?_) (fun hq => ?_)) <;> (try simp only [zA, zE, zD, zJ, zB, zI, Int.not_le, Int.not_lt] at hq)) | (with_reducible first | refine Fits.in64 (by omega) ?_ | refine FIdx.nat (by omega) ?_ | refine FIdx.int (by omega) ?_ | refine FTo.nat (by omega) ?_ | refine FTo.int (by omega) ?_) | ((with_reducible refine Need.mk ?_ ?_); focus exact needA) | (with_reducible refine FApp.grow ?_) | (with_reducible refine FOr.pub ?_)))
  all_goals (try (conv => whnf))
  have lit : ∀ (c : Nat → Nat → AV) (l : List Int), l.length = 3 → (∀ k, k < 3 → c k 0 = AI (l.getD k 0)) → LeV (.sl false true 3 1 c) (aInts false true l) := fun c l hl h => by
    show LeV _ (.sl false true l.length 1 _)
    rw [hl]
    exact LeV.sl (fun h => h) fun k hk o ho => by obtain rfl : o = 0 := (by omega); exact LeV.of (h k hk).symm
  refine ⟨⟨aSh exF exS, [], [], Cut.nil _, Ln.aggN ⟨⟨⟨True.intro, Ln.le _ _ True.intro (LeV.sl (fun h => h) ?am)⟩, Ln.sl _ _ _ _ _ _ _ (fun h => h) ?sec⟩, Ln.A⟩, rfl, rfl⟩⟩
  case am =>
    exact below3 (fun o ho => by obtain rfl : o = 0 := (by omega); exact lit _ [20, 50, 10] rfl (k3 rfl rfl rfl)) (fun o ho => by obtain rfl : o = 0 := (by omega); exact lit _ [8, 19, 22] rfl (k3 rfl rfl rfl)) (fun o ho => by obtain rfl : o = 0 := (by omega); exact lit _ [17, 32, 12] rfl (k3 rfl rfl rfl))
  case sec => exact below3 (fun o ho => by obtain rfl : o = 0 := (by omega); rfl) (fun o ho => by obtain rfl : o = 0 := (by omega); rfl) (fun o ho => by obtain rfl : o = 0 := (by omega); rfl)
theorem ex_near : Near exS := ⟨by decide, by decide, fun r => by
  show ((exS.amounts).getD r []).length ≤ 20
  rcases r with _ | _ | _ | r <;> simp [exS]⟩
theorem ex_leastC : ACall Try.prog 16 [aSh exF exS] [] (fun r h => r = .tup 2 (ofL [aInts false false exM, AI 0]) ∧ h = []) := by
  have := least_ok exF exS ex_near (fun _ => by decide)
  unfold bestV at this
  rw [exS_ok, ex_best] at this
  exact this
theorem ex_rangeC : ACall Try.prog 20 [aSh exF exS, aInts false true exM, AI 2, AI 1] [] (fun r h => r = .tup 2 (ofL [spanA 24 49, AI 0]) ∧ h = []) := by
  have := pRange_ok exF exS ex_near (fun _ => by decide) false true exM (by decide) 2 1
  unfold rangeV at this
  rw [show checkP exS exM 2 1 = 0 from by decide, if_pos rfl, show loV exS exM (2 : Int).toNat (1 : Int).toNat = 24 from ex_lo.eq, show hiV exS exM (2 : Int).toNat (1 : Int).toNat = 49 from ex_hi.eq] at this
  exact this
theorem ex_same : ACall Try.prog 18 [aInts false false exM, aInts false true exM] [] (fun r h => r = .bool true ∧ h = []) := sameInts_ok false false false true exM exM (by decide)
theorem works_ok : ACall Try.prog 14 [] [] (fun r h' => r = .bool true ∧ h' = []) := by
  (refine fcall_of mixed Try.func14 rfl (by decide) (hs := {}) ?k (ac := ?ac) ?c (rs := ?rs) ?r ?l ?H; (case k => kernel_rfl); (case c => (conv => (lhs; cbv))); (case r => (conv => (lhs; cbv))); (case l => exact Nat.le_of_ble_eq_true rfl))
  (repeat' ((try (conv => whnf)); first | (with_reducible first | refine FCond.tA ?_ | refine FCond.fA ?_) | ((with_reducible refine FCond.i (fun hq => ?_) (fun hq => ?_)) <;> (try simp only [zA, zE, zD, zJ, zB, zI, Int.not_le, Int.not_lt] at hq)) | (with_reducible first | refine Fits.in64 (by omega) ?_ | refine FIdx.nat (by omega) ?_ | refine FIdx.int (by omega) ?_ | refine FTo.nat (by omega) ?_ | refine FTo.int (by omega) ?_) | ((with_reducible refine Need.mk ?_ ?_); focus exact needA) | (with_reducible refine FApp.grow ?_) | (refine FCall.pure example_ok True.intro rfl ?_) | (refine FCall.pure (ex_leastC) ⟨Ln.sameB _ rfl, True.intro⟩ rfl ?_) | (refine FCall.pure ex_rangeC ⟨Ln.sameB _ rfl, Ln.lits rfl (k3 rfl rfl rfl), Ln.A, Ln.A, True.intro⟩ rfl ?_) | (refine FCall.pure ex_same ⟨Ln.sameB _ rfl, Ln.lits rfl (k3 rfl rfl rfl), True.intro⟩ rfl ?_) | (with_reducible refine And.intro rfl ?_) | (with_reducible refine FOr.pub ?_)))
  all_goals (try (conv => whnf))
  all_goals (refine ⟨⟨_, [], [], Cut.nil _, Ln.sameB _ rfl, ?_, rfl⟩⟩)
  all_goals rfl
/-- Larger than the statements look at. -/
def bigS (s : Sheet) : Bool := decide (20 < s.R) || decide (20 < s.secret.length) || (List.range s.R).any fun r => decide (20 < (s.amounts.getD r []).length)
def rowBig (s : Sheet) (r : Nat) : Bool := (List.range s.C).any fun c => decide (30 < s.A r c)
def farS (s : Sheet) : Bool := bigS s || (s.ok && ((List.range s.R).any (rowBig s) || decide (3 < s.R) || decide (3 < s.C)))
theorem far_near {s : Sheet} (h : bigS s = false) : Near s := by
  unfold bigS at h
  simp only [Bool.or_eq_false_iff, decide_eq_false_iff_not, List.any_eq_false, List.mem_range, decide_eq_true_eq] at h
  refine ⟨by omega, by omega, fun r => ?_⟩
  by_cases hr : r < s.R
  · have := h.2 r hr; omega
  · rw [show s.amounts.getD r [] = [] from by simp [List.getD, List.getElem?_eq_none (show s.amounts.length ≤ r from by have : s.R = s.amounts.length := rfl; omega)]]; simp
theorem far_d {s : Sheet} (h : farS s = false) : Near s ∧ (s.ok = true → s.R ≤ 3 ∧ s.C ≤ 3) := by
  unfold farS at h
  rw [Bool.or_eq_false_iff] at h
  refine ⟨far_near h.1, fun hk => ?_⟩
  have h2 := h.2
  rw [hk] at h2
  simp only [Bool.true_and, Bool.or_eq_false_iff, decide_eq_false_iff_not] at h2
  omega
theorem far_ok (f : ShF) (s : Sheet) : ACall Try.prog 21 [aSh f s] [] (fun r h => r = .bool (farS s) ∧ h = []) := by
  have hR : s.R = s.amounts.length := rfl
  have hC2 : (s.amounts.getD (Int.toNat 0) []).length = s.C := rfl
  (refine fcall_of mixed Try.func21 rfl (by decide) (hs := {}) ?k (ac := ?ac) ?c (rs := ?rs) ?r ?l ?H; (case k => kernel_rfl); (case c => (conv => (lhs; cbv))); (case r => (conv => (lhs; cbv))); (case l => exact Nat.le_of_ble_eq_true rfl))
  by_cases h20 : s.amounts.length ≤ 20 ∧ s.secret.length ≤ 20
  · (repeat' ((try (conv => whnf)); first | (with_reducible first | refine FCond.tA ?_ | refine FCond.fA ?_) | ((with_reducible refine FCond.i (fun hq => ?_) (fun hq => ?_)) <;> (try simp only [zA, zE, zD, zJ, zB, zI, Int.not_le, Int.not_lt] at hq)) | (with_reducible first | refine Fits.in64 (by omega) ?_ | refine FIdx.nat (by omega) ?_ | refine FIdx.int (by omega) ?_ | refine FTo.nat (by omega) ?_ | refine FTo.int (by omega) ?_) | ((with_reducible refine Need.mk ?_ ?_); focus exact needA) | (with_reducible refine FApp.grow ?_) | (with_reducible refine FOr.pub ?_)))
    all_goals (try (conv => whnf))
    refine FLoop.of (ACalls.mono _) (X := Nat) (fun r => [(1, .ptr 0 0), (3, AI r)]) (fun r => [.box 3 (cSh f s)]) (fun r => r ≤ s.R ∧ ∀ k, k < r → (s.amounts.getD k []).length ≤ 20) (fun r => s.R - r) 0 ⟨⟨Nat.zero_le _, fun k hk => absurd hk (Nat.not_lt_zero k)⟩, [0], Cut.A, allA⟩ ?_
    rintro r ⟨hr, hup⟩
    by_cases hlt : r < s.R
    · by_cases hl : (s.amounts.getD r []).length ≤ 20
      · (repeat' ((try (conv => whnf)); first | (with_reducible first | refine FCond.tA ?_ | refine FCond.fA ?_) | ((with_reducible refine FCond.i (fun hq => ?_) (fun hq => ?_)) <;> (try simp only [zA, zE, zD, zJ, zB, zI, Int.not_le, Int.not_lt] at hq)) | (with_reducible first | refine Fits.in64 (by omega) ?_ | refine FIdx.nat (by omega) ?_ | refine FIdx.int (by omega) ?_ | refine FTo.nat (by omega) ?_ | refine FTo.int (by omega) ?_) | ((with_reducible refine Need.mk ?_ ?_); focus exact needA) | (with_reducible refine FApp.grow ?_) | (with_reducible refine FOr.pub ?_)))
        all_goals (try (conv => whnf))
        exact ⟨⟨r + 1, ⟨hlt, below_step hup hl⟩, by show s.R - (r + 1) < s.R - r; omega, [0], Cut.A, allA⟩⟩
      · rw [show farS s = true from by unfold farS bigS; rw [any_yes (p := fun r => decide (20 < (s.amounts.getD r []).length)) hlt (decide_eq_true (by omega))]; simp]
        (repeat' ((try (conv => whnf)); first | (with_reducible first | refine FCond.tA ?_ | refine FCond.fA ?_) | ((with_reducible refine FCond.i (fun hq => ?_) (fun hq => ?_)) <;> (try simp only [zA, zE, zD, zJ, zB, zI, Int.not_le, Int.not_lt] at hq)) | (with_reducible first | refine Fits.in64 (by omega) ?_ | refine FIdx.nat (by omega) ?_ | refine FIdx.int (by omega) ?_ | refine FTo.nat (by omega) ?_ | refine FTo.int (by omega) ?_) | ((with_reducible refine Need.mk ?_ ?_); focus exact needA) | (with_reducible refine FApp.grow ?_) | (with_reducible refine FOr.pub ?_)))
        all_goals (try (conv => whnf))
        all_goals ((refine ⟨⟨_, [], [], Cut.nil _, Ln.sameB _ rfl, ?_, rfl⟩⟩); rfl)
    · have hb : bigS s = false := by
        unfold bigS
        rw [decide_eq_false (show ¬ 20 < s.R by omega), decide_eq_false (show ¬ 20 < s.secret.length by omega), any_no fun i hi => decide_eq_false (by have := hup i (by omega); omega)]; rfl
      have hn := far_near hb
      have cK := refCheck_ok f s hn
      have hf : farS s = (s.ok && ((List.range s.R).any (rowBig s) || decide (3 < s.R) || decide (3 < s.C))) := by unfold farS; rw [hb, Bool.false_or]
      rw [hf]
      cases hk : s.ok
      · rw [check_80 hk] at cK
        (repeat' ((try (conv => whnf)); first | (with_reducible first | refine FCond.tA ?_ | refine FCond.fA ?_) | ((with_reducible refine FCond.i (fun hq => ?_) (fun hq => ?_)) <;> (try simp only [zA, zE, zD, zJ, zB, zI, Int.not_le, Int.not_lt] at hq)) | (with_reducible first | refine Fits.in64 (by omega) ?_ | refine FIdx.nat (by omega) ?_ | refine FIdx.int (by omega) ?_ | refine FTo.nat (by omega) ?_ | refine FTo.int (by omega) ?_) | ((with_reducible refine Need.mk ?_ ?_); focus exact needA) | (with_reducible refine FApp.grow ?_) | (refine FCall.pure (cK) ⟨Ln.sameB _ rfl, True.intro⟩ rfl ?_) | (with_reducible refine FOr.pub ?_)))
        all_goals (try (conv => whnf))
        all_goals ((refine ⟨⟨_, [], [], Cut.nil _, Ln.sameB _ rfl, ?_, rfl⟩⟩); rfl)
      · rw [check_ok' hk] at cK
        have hs := sheet_d hk
        have c4 := hs.c4
        have cC := columns_ok f s (by have := hs.r1; omega)
        rw [Bool.true_and]
        (repeat' ((try (conv => whnf)); first | (with_reducible first | refine FCond.tA ?_ | refine FCond.fA ?_) | ((with_reducible refine FCond.i (fun hq => ?_) (fun hq => ?_)) <;> (try simp only [zA, zE, zD, zJ, zB, zI, Int.not_le, Int.not_lt] at hq)) | (with_reducible first | refine Fits.in64 (by omega) ?_ | refine FIdx.nat (by omega) ?_ | refine FIdx.int (by omega) ?_ | refine FTo.nat (by omega) ?_ | refine FTo.int (by omega) ?_) | ((with_reducible refine Need.mk ?_ ?_); focus exact needA) | (with_reducible refine FApp.grow ?_) | (refine FCall.pure (cK) ⟨Ln.sameB _ rfl, True.intro⟩ rfl ?_) | (with_reducible refine FOr.pub ?_)))
        all_goals (try (conv => whnf))
        clear hup
        refine FLoop.of (ACalls.mono _) (X := Nat) (fun r => [(1, .ptr 0 0), (4, AI r)]) (fun r => [.box 3 (cSh f s)]) (fun r => r ≤ s.R ∧ ∀ k, k < r → rowBig s k = false) (fun r => s.R - r) 0 ⟨⟨Nat.zero_le _, fun k hk => absurd hk (Nat.not_lt_zero k)⟩, [0], Cut.A, allA⟩ ?_
        rintro r ⟨hr, hup⟩
        by_cases hlt : r < s.R
        · have hrow := hs.row r hlt
          (repeat' ((try (conv => whnf)); first | (with_reducible first | refine FCond.tA ?_ | refine FCond.fA ?_) | ((with_reducible refine FCond.i (fun hq => ?_) (fun hq => ?_)) <;> (try simp only [zA, zE, zD, zJ, zB, zI, Int.not_le, Int.not_lt] at hq)) | (with_reducible first | refine Fits.in64 (by omega) ?_ | refine FIdx.nat (by omega) ?_ | refine FIdx.int (by omega) ?_ | refine FTo.nat (by omega) ?_ | refine FTo.int (by omega) ?_) | ((with_reducible refine Need.mk ?_ ?_); focus exact needA) | (with_reducible refine FApp.grow ?_) | (with_reducible refine FOr.pub ?_)))
          all_goals (try (conv => whnf))
          refine FLoop.of (ACalls.mono _) (X := Nat) (fun c => [(1, .ptr 0 0), (4, AI r), (5, AI c)]) (fun c => [.box 3 (cSh f s)]) (fun c => c ≤ s.C ∧ ∀ k, k < c → decide (30 < s.A r k) = false) (fun c => s.C - c) 0 ⟨⟨Nat.zero_le _, fun k hk => absurd hk (Nat.not_lt_zero k)⟩, [0], Cut.A, allA⟩ ?_
          rintro c ⟨hc, hupc⟩
          by_cases hltc : c < s.C
          · have hA : s.A r c = (s.amounts.getD r []).getD c 0 := rfl
            by_cases h30 : 30 < (s.amounts.getD r []).getD c 0
            · rw [any_yes hlt (show rowBig s r = true from any_yes (p := fun c => decide (30 < s.A r c)) hltc (decide_eq_true h30)), Bool.true_or, Bool.true_or]
              (repeat' ((try (conv => whnf)); first | (with_reducible first | refine FCond.tA ?_ | refine FCond.fA ?_) | ((with_reducible refine FCond.i (fun hq => ?_) (fun hq => ?_)) <;> (try simp only [zA, zE, zD, zJ, zB, zI, Int.not_le, Int.not_lt] at hq)) | (with_reducible first | refine Fits.in64 (by omega) ?_ | refine FIdx.nat (by omega) ?_ | refine FIdx.int (by omega) ?_ | refine FTo.nat (by omega) ?_ | refine FTo.int (by omega) ?_) | ((with_reducible refine Need.mk ?_ ?_); focus exact needA) | (with_reducible refine FApp.grow ?_) | (with_reducible refine FOr.pub ?_)))
              all_goals (try (conv => whnf))
              all_goals ((refine ⟨⟨_, [], [], Cut.nil _, Ln.sameB _ rfl, ?_, rfl⟩⟩); rfl)
            · (repeat' ((try (conv => whnf)); first | (with_reducible first | refine FCond.tA ?_ | refine FCond.fA ?_) | ((with_reducible refine FCond.i (fun hq => ?_) (fun hq => ?_)) <;> (try simp only [zA, zE, zD, zJ, zB, zI, Int.not_le, Int.not_lt] at hq)) | (with_reducible first | refine Fits.in64 (by omega) ?_ | refine FIdx.nat (by omega) ?_ | refine FIdx.int (by omega) ?_ | refine FTo.nat (by omega) ?_ | refine FTo.int (by omega) ?_) | ((with_reducible refine Need.mk ?_ ?_); focus exact needA) | (with_reducible refine FApp.grow ?_) | (with_reducible refine FOr.pub ?_)))
              all_goals (try (conv => whnf))
              exact ⟨⟨c + 1, ⟨hltc, below_step hupc (decide_eq_false h30)⟩, by show s.C - (c + 1) < s.C - c; omega, [0], Cut.A, allA⟩⟩
          · have hcE : s.C = c := by omega
            (repeat' ((try (conv => whnf)); first | (with_reducible first | refine FCond.tA ?_ | refine FCond.fA ?_) | ((with_reducible refine FCond.i (fun hq => ?_) (fun hq => ?_)) <;> (try simp only [zA, zE, zD, zJ, zB, zI, Int.not_le, Int.not_lt] at hq)) | (with_reducible first | refine Fits.in64 (by omega) ?_ | refine FIdx.nat (by omega) ?_ | refine FIdx.int (by omega) ?_ | refine FTo.nat (by omega) ?_ | refine FTo.int (by omega) ?_) | ((with_reducible refine Need.mk ?_ ?_); focus exact needA) | (with_reducible refine FApp.grow ?_) | (with_reducible refine FOr.pub ?_)))
            all_goals (try (conv => whnf))
            exact ⟨⟨r + 1, ⟨hlt, below_step hup (by unfold rowBig; rw [hcE]; exact any_no hupc)⟩, by show s.R - (r + 1) < s.R - r; omega, [0], Cut.A, allA⟩⟩
        · rw [any_no (n := s.R) fun i hi => hup i (by omega), Bool.false_or]
          by_cases h3 : 3 < s.R
          · rw [decide_eq_true h3, Bool.true_or]
            (repeat' ((try (conv => whnf)); first | (with_reducible first | refine FCond.tA ?_ | refine FCond.fA ?_) | ((with_reducible refine FCond.i (fun hq => ?_) (fun hq => ?_)) <;> (try simp only [zA, zE, zD, zJ, zB, zI, Int.not_le, Int.not_lt] at hq)) | (with_reducible first | refine Fits.in64 (by omega) ?_ | refine FIdx.nat (by omega) ?_ | refine FIdx.int (by omega) ?_ | refine FTo.nat (by omega) ?_ | refine FTo.int (by omega) ?_) | ((with_reducible refine Need.mk ?_ ?_); focus exact needA) | (with_reducible refine FApp.grow ?_) | (with_reducible refine FOr.pub ?_)))
            all_goals (try (conv => whnf))
            all_goals ((refine ⟨⟨_, [], [], Cut.nil _, Ln.sameB _ rfl, ?_, rfl⟩⟩); rfl)
          · rw [decide_eq_false h3, Bool.false_or]
            (repeat' ((try (conv => whnf)); first | (with_reducible first | refine FCond.tA ?_ | refine FCond.fA ?_) | ((with_reducible refine FCond.i (fun hq => ?_) (fun hq => ?_)) <;> (try simp only [zA, zE, zD, zJ, zB, zI, Int.not_le, Int.not_lt] at hq)) | (with_reducible first | refine Fits.in64 (by omega) ?_ | refine FIdx.nat (by omega) ?_ | refine FIdx.int (by omega) ?_ | refine FTo.nat (by omega) ?_ | refine FTo.int (by omega) ?_) | ((with_reducible refine Need.mk ?_ ?_); focus exact needA) | (with_reducible refine FApp.grow ?_) | (refine FCall.pure (cC) ⟨Ln.sameB _ rfl, True.intro⟩ rfl ?_) | (with_reducible refine FOr.pub ?_)))
            all_goals (try (conv => whnf))
            all_goals ((refine ⟨⟨_, [], [], Cut.nil _, Ln.sameB _ rfl, ?_, rfl⟩⟩); exact bool_eq (decide_eq_decide.2 (by omega)))
  · rw [show farS s = true from by unfold farS bigS; rcases (show 20 < s.R ∨ 20 < s.secret.length by omega) with h | h <;> rw [decide_eq_true h] <;> simp]
    by_cases h : s.amounts.length ≤ 20
    · (repeat' ((try (conv => whnf)); first | (with_reducible first | refine FCond.tA ?_ | refine FCond.fA ?_) | ((with_reducible refine FCond.i (fun hq => ?_) (fun hq => ?_)) <;> (try simp only [zA, zE, zD, zJ, zB, zI, Int.not_le, Int.not_lt] at hq)) | (with_reducible first | refine Fits.in64 (by omega) ?_ | refine FIdx.nat (by omega) ?_ | refine FIdx.int (by omega) ?_ | refine FTo.nat (by omega) ?_ | refine FTo.int (by omega) ?_) | ((with_reducible refine Need.mk ?_ ?_); focus exact needA) | (with_reducible refine FApp.grow ?_) | (with_reducible refine FOr.pub ?_)))
      all_goals (try (conv => whnf))
      all_goals ((refine ⟨⟨_, [], [], Cut.nil _, Ln.sameB _ rfl, ?_, rfl⟩⟩); rfl)
    · (repeat' ((try (conv => whnf)); first | (with_reducible first | refine FCond.tA ?_ | refine FCond.fA ?_) | ((with_reducible refine FCond.i (fun hq => ?_) (fun hq => ?_)) <;> (try simp only [zA, zE, zD, zJ, zB, zI, Int.not_le, Int.not_lt] at hq)) | (with_reducible first | refine Fits.in64 (by omega) ?_ | refine FIdx.nat (by omega) ?_ | refine FIdx.int (by omega) ?_ | refine FTo.nat (by omega) ?_ | refine FTo.int (by omega) ?_) | ((with_reducible refine Need.mk ?_ ?_); focus exact needA) | (with_reducible refine FApp.grow ?_) | (with_reducible refine FOr.pub ?_)))
      all_goals (try (conv => whnf))
      all_goals ((refine ⟨⟨_, [], [], Cut.nil _, Ln.sameB _ rfl, ?_, rfl⟩⟩); rfl)
def validS (s : Sheet) (m : List Int) : Bool := !farS s && decide (m.length ≤ 20) && decide (checkM s m = 0)
theorem valid_ok (f : ShF) (s : Sheet) (z e : Bool) (m : List Int) : ACall Try.prog 12 [aSh f s, aInts z e m] [] (fun r h => r = .bool (validS s m) ∧ h = []) := by
  have cF := far_ok f s
  (refine fcall_of mixed Try.func12 rfl (by decide) (hs := {}) ?k (ac := ?ac) ?c (rs := ?rs) ?r ?l ?H; (case k => kernel_rfl); (case c => (conv => (lhs; cbv))); (case r => (conv => (lhs; cbv))); (case l => exact Nat.le_of_ble_eq_true rfl))
  unfold validS
  cases hf : farS s
  · rw [hf] at cF
    by_cases hl : m.length ≤ 20
    · have cM := refCheckM_ok f s (far_d hf).1 z e m (by omega)
      rw [decide_eq_true hl]
      by_cases h0 : checkM s m = 0
      · (repeat' ((try (conv => whnf)); first | (with_reducible first | refine FCond.tA ?_ | refine FCond.fA ?_) | ((with_reducible refine FCond.i (fun hq => ?_) (fun hq => ?_)) <;> (try simp only [zA, zE, zD, zJ, zB, zI, Int.not_le, Int.not_lt] at hq)) | (with_reducible first | refine Fits.in64 (by omega) ?_ | refine FIdx.nat (by omega) ?_ | refine FIdx.int (by omega) ?_ | refine FTo.nat (by omega) ?_ | refine FTo.int (by omega) ?_) | ((with_reducible refine Need.mk ?_ ?_); focus exact needA) | (with_reducible refine FApp.grow ?_) | (refine FCall.pure (cF) ⟨Ln.sameB _ rfl, True.intro⟩ rfl ?_) | (refine FCall.pure (cM) ⟨Ln.sameB _ rfl, Ln.sameB _ rfl, True.intro⟩ rfl ?_) | (with_reducible refine FOr.pub ?_)))
        all_goals (try (conv => whnf))
        all_goals ((refine ⟨⟨_, [], [], Cut.nil _, Ln.sameB _ rfl, ?_, rfl⟩⟩); rfl)
      · (repeat' ((try (conv => whnf)); first | (with_reducible first | refine FCond.tA ?_ | refine FCond.fA ?_) | ((with_reducible refine FCond.i (fun hq => ?_) (fun hq => ?_)) <;> (try simp only [zA, zE, zD, zJ, zB, zI, Int.not_le, Int.not_lt] at hq)) | (with_reducible first | refine Fits.in64 (by omega) ?_ | refine FIdx.nat (by omega) ?_ | refine FIdx.int (by omega) ?_ | refine FTo.nat (by omega) ?_ | refine FTo.int (by omega) ?_) | ((with_reducible refine Need.mk ?_ ?_); focus exact needA) | (with_reducible refine FApp.grow ?_) | (refine FCall.pure (cF) ⟨Ln.sameB _ rfl, True.intro⟩ rfl ?_) | (refine FCall.pure (cM) ⟨Ln.sameB _ rfl, Ln.sameB _ rfl, True.intro⟩ rfl ?_) | (with_reducible refine FOr.pub ?_)))
        all_goals (try (conv => whnf))
        all_goals ((refine ⟨⟨_, [], [], Cut.nil _, Ln.sameB _ rfl, ?_, rfl⟩⟩); rfl)
    · rw [decide_eq_false hl]
      (repeat' ((try (conv => whnf)); first | (with_reducible first | refine FCond.tA ?_ | refine FCond.fA ?_) | ((with_reducible refine FCond.i (fun hq => ?_) (fun hq => ?_)) <;> (try simp only [zA, zE, zD, zJ, zB, zI, Int.not_le, Int.not_lt] at hq)) | (with_reducible first | refine Fits.in64 (by omega) ?_ | refine FIdx.nat (by omega) ?_ | refine FIdx.int (by omega) ?_ | refine FTo.nat (by omega) ?_ | refine FTo.int (by omega) ?_) | ((with_reducible refine Need.mk ?_ ?_); focus exact needA) | (with_reducible refine FApp.grow ?_) | (refine FCall.pure (cF) ⟨Ln.sameB _ rfl, True.intro⟩ rfl ?_) | (with_reducible refine FOr.pub ?_)))
      all_goals (try (conv => whnf))
      all_goals ((refine ⟨⟨_, [], [], Cut.nil _, Ln.sameB _ rfl, ?_, rfl⟩⟩); rfl)
  · rw [hf] at cF
    (repeat' ((try (conv => whnf)); first | (with_reducible first | refine FCond.tA ?_ | refine FCond.fA ?_) | ((with_reducible refine FCond.i (fun hq => ?_) (fun hq => ?_)) <;> (try simp only [zA, zE, zD, zJ, zB, zI, Int.not_le, Int.not_lt] at hq)) | (with_reducible first | refine Fits.in64 (by omega) ?_ | refine FIdx.nat (by omega) ?_ | refine FIdx.int (by omega) ?_ | refine FTo.nat (by omega) ?_ | refine FTo.int (by omega) ?_) | ((with_reducible refine Need.mk ?_ ?_); focus exact needA) | (with_reducible refine FApp.grow ?_) | (refine FCall.pure (cF) ⟨Ln.sameB _ rfl, True.intro⟩ rfl ?_) | (with_reducible refine FOr.pub ?_)))
    all_goals (try (conv => whnf))
    all_goals ((refine ⟨⟨_, [], [], Cut.nil _, Ln.sameB _ rfl, ?_, rfl⟩⟩); rfl)
end Go.Proofs.Ytlffjnmbpoemnaa

namespace Go.Proofs.Ytlffjnmbpoemnaa
open Go.RowKit

theorem mask_of {s : Sheet} {m : List Int} (h : MaskOk s m) : maskS s m = true := by
  unfold maskS
  simp only [Bool.and_eq_true, decide_eq_true_eq, List.all_eq_true]
  refine ⟨fun x hx => ?_, h.len⟩
  obtain ⟨k, hk, rfl⟩ := List.getElem_of_mem hx
  have := h.bd k (by rw [← h.len]; exact hk)
  simp only [List.getD, List.getElem?_eq_getElem hk, Option.getD_some] at this
  omega
theorem checkM_of {s : Sheet} {m : List Int} (hk : s.ok = true) (h : MaskOk s m) : checkM s m = 0 := by
  unfold checkM; rw [hk, mask_of h]; rfl
theorem checkP_of {s : Sheet} {m : List Int} {r c : Int} (hk : s.ok = true) (h : MaskOk s m) (hp : placeOk s r c = true) : checkP s m r c = 0 := by
  unfold checkP; rw [if_pos (checkM_of hk h), hp]; rfl
theorem placeOk_of {s : Sheet} {m : List Int} {r c : Int} (h : checkP s m r c = 0) : placeOk s r c = true := by
  have hp := checkP_0 h
  unfold placeOk
  rw [show inB r 0 ((s.R : Int) - 1) = true from decide_eq_true (by have := hp.r; omega), show inB c 0 ((s.C : Int) - 1) = true from decide_eq_true (by have := hp.c; omega)]; rfl
/-- What is left out by one or the other. -/
def bothS (s : Sheet) (m mo : List Int) : List Int := (List.range s.R).map fun r => (((m.getD r 0).toNat ||| (mo.getD r 0).toNat : Nat) : Int)
theorem bothS_len (s : Sheet) (m mo : List Int) : (bothS s m mo).length = s.R := by simp [bothS]
theorem bothS_get {s : Sheet} {m mo : List Int} {r : Nat} (hr : r < s.R) : (bothS s m mo).getD r 0 = (((m.getD r 0).toNat ||| (mo.getD r 0).toNat : Nat) : Int) := by
  unfold bothS; simp [List.getD, hr]
theorem bothS_ok {s : Sheet} {m mo : List Int} (h1 : MaskOk s m) (h2 : MaskOk s mo) : MaskOk s (bothS s m mo) := ⟨bothS_len s m mo, fun r hr => by
  rw [bothS_get hr]
  have a := h1.bd r hr
  have b := h2.bd r hr
  have := Nat.or_lt_two_pow (show (m.getD r 0).toNat < 2 ^ s.C by omega) (show (mo.getD r 0).toNat < 2 ^ s.C by omega)
  omega⟩
theorem bothS_out {s : Sheet} {m mo : List Int} {r : Nat} (hr : r < s.R) (c : Nat) : outS (bothS s m mo) r c = (outS m r c || outS mo r c) := by
  unfold outS
  rw [bothS_get hr, Int.toNat_natCast, Nat.testBit_or]
theorem Ag.more {s : Sheet} {m m2 : List Int} (hm : ∀ r c, r < s.R → c < s.C → outS m r c = true → outS m2 r c = true) {x : Nat → Nat → Int} (h : Ag s m x) : Ag s m2 x :=
  ⟨h.nn, fun r c hr hc ho => h.un r c hr hc (by cases h2 : outS m r c; rfl; rw [hm r c hr hc h2] at ho; cases ho), h.row, h.col⟩
theorem wider {s : Sheet} (hs : SheetOk s) {m m2 : List Int} (hm : ∀ r c, r < s.R → c < s.C → outS m r c = true → outS m2 r c = true) {r c : Nat} (hr : r < s.R) (hc : c < s.C) : loV s m2 r c ≤ loV s m r c ∧ hiV s m r c ≤ hiV s m2 r c := by
  obtain ⟨⟨x, hx, ex⟩, _⟩ := lo_is hs m hr hc
  obtain ⟨⟨y, hy, ey⟩, _⟩ := hi_is hs m hr hc
  have a := (lo_is hs m2 hr hc).2 x (hx.more hm)
  have b := (hi_is hs m2 hr hc).2 y (hy.more hm)
  omega
theorem safe_more {s : Sheet} (hs : SheetOk s) {m m2 : List Int} (hm : ∀ r c, r < s.R → c < s.C → outS m r c = true → outS m2 r c = true) (h : safeS s m = true) : safeS s m2 = true := by
  unfold safeS rowSafe at h ⊢
  refine rall_yes fun r hr => rall_yes fun c hc => ?_
  have h1 := List.all_eq_true.1 (List.all_eq_true.1 h r (List.mem_range.2 hr)) c (List.mem_range.2 hc)
  unfold cellSafe at h1 ⊢
  simp only [Bool.or_eq_true, Bool.not_eq_true', Bool.and_eq_true, decide_eq_true_eq] at h1 ⊢
  rcases h1 with h1 | ⟨h1, h2⟩
  · exact .inl h1
  · have := wider hs hm hr hc
    exact .inr ⟨hm r c hr hc h1, by omega⟩
theorem valid_d {s : Sheet} {m : List Int} (h : validS s m = true) : Near s ∧ s.ok = true ∧ SheetOk s ∧ MaskOk s m ∧ m.length ≤ 20 ∧ s.R ≤ 3 ∧ s.C ≤ 3 := by
  unfold validS at h
  simp only [Bool.and_eq_true, Bool.not_eq_true', decide_eq_true_eq] at h
  obtain ⟨⟨h1, h2⟩, h3⟩ := h
  obtain ⟨hk, hm⟩ := checkM_0 h3
  have hf := far_d h1
  exact ⟨hf.1, hk, sheet_d hk, mask_d hm, h2, hf.2 hk⟩
theorem rangeV_0 {s : Sheet} {m : List Int} {r c : Nat} (h : checkP s m r c = 0) : rangeV s m r c = .tup 2 (ofL [spanA (loV s m r c) (hiV s m r c), AI 0]) := by
  unfold rangeV; rw [if_pos h, h]; rfl
theorem safeV_0 {s : Sheet} {m : List Int} (h : checkM s m = 0) : safeV s m = .tup 2 (ofL [.bool (safeS s m), AI 0]) := by
  unfold safeV; rw [h]; rfl
def boV : Nat → AV
  | 0 => nilS
  | r + 1 => .own 2 (r + 1)
set_option maxHeartbeats 8000000
set_option maxRecDepth 100000
theorem more_any (f : ShF) (s : Sheet) (z e : Bool) (m : List Int) (z2 e2 : Bool) (mo : List Int) (hmo : mo.length ≤ 9223372036854775807) (r c a : Int) : ACall Try.prog 5 [aSh f s, aInts z e m, .agg 4 (ofL [aInts z2 e2 mo, AI r, AI c, AI a])] [] (fun v h => v = .bool true ∧ h = []) := by
  have cV := valid_ok f s z e m
  (refine fcall_of mixed Try.func5 rfl (by decide) (hs := { ord := [(1, [(0, []), (1, []), (2, []), (3, []), (4, [1, 3]), (5, []), (6, [])])], pub := [9] }) ?k (ac := ?ac) ?c (rs := ?rs) ?r ?l ?H; (case k => kernel_rfl); (case c => (conv => (lhs; cbv))); (case r => (conv => (lhs; cbv))); (case l => exact Nat.le_of_ble_eq_true rfl))
  cases hv : validS s m
  · rw [hv] at cV
    (repeat' ((try (conv => whnf)); first | (with_reducible first | refine FCond.tA ?_ | refine FCond.fA ?_) | ((with_reducible refine FCond.i (fun hq => ?_) (fun hq => ?_)) <;> (try simp only [zA, zE, zD, zJ, zB, zI, Int.not_le, Int.not_lt] at hq)) | (with_reducible first | refine Fits.in64 (by omega) ?_ | refine FIdx.nat (by omega) ?_ | refine FIdx.int (by omega) ?_ | refine FTo.nat (by omega) ?_ | refine FTo.int (by omega) ?_) | ((with_reducible refine Need.mk ?_ ?_); focus exact needA) | (with_reducible refine FApp.grow ?_) | (refine FCall.pure (cV) ⟨Ln.sameB _ rfl, Ln.sameB _ rfl, True.intro⟩ rfl ?_) | (refine FCall.pure works_ok True.intro rfl ?_) | (with_reducible refine FOr.pub ?_)))
    all_goals (try (conv => whnf))
    all_goals ((refine ⟨⟨_, [], [], Cut.nil _, Ln.sameB _ rfl, ?_, rfl⟩⟩); rfl)
  rw [hv] at cV
  obtain ⟨hn, hk, hs, hm, hm20, hR3, hC3⟩ := valid_d hv
  rcases Nat.lt_or_ge 20 mo.length with hl | hl
  · (repeat' ((try (conv => whnf)); first | (with_reducible first | refine FCond.tA ?_ | refine FCond.fA ?_) | ((with_reducible refine FCond.i (fun hq => ?_) (fun hq => ?_)) <;> (try simp only [zA, zE, zD, zJ, zB, zI, Int.not_le, Int.not_lt] at hq)) | (with_reducible first | refine Fits.in64 (by omega) ?_ | refine FIdx.nat (by omega) ?_ | refine FIdx.int (by omega) ?_ | refine FTo.nat (by omega) ?_ | refine FTo.int (by omega) ?_) | ((with_reducible refine Need.mk ?_ ?_); focus exact needA) | (with_reducible refine FApp.grow ?_) | (refine FCall.pure (cV) ⟨Ln.sameB _ rfl, Ln.sameB _ rfl, True.intro⟩ rfl ?_) | (refine FCall.pure works_ok True.intro rfl ?_) | (with_reducible refine FOr.pub ?_)))
    all_goals (try (conv => whnf))
    all_goals ((refine ⟨⟨_, [], [], Cut.nil _, Ln.sameB _ rfl, ?_, rfl⟩⟩); rfl)
  have cI := isMask_ok f s (by have := hs.r1; omega) hn z2 e2 mo (by omega)
  cases hi : maskS s mo
  · rw [hi] at cI
    (repeat' ((try (conv => whnf)); first | (with_reducible first | refine FCond.tA ?_ | refine FCond.fA ?_) | ((with_reducible refine FCond.i (fun hq => ?_) (fun hq => ?_)) <;> (try simp only [zA, zE, zD, zJ, zB, zI, Int.not_le, Int.not_lt] at hq)) | (with_reducible first | refine Fits.in64 (by omega) ?_ | refine FIdx.nat (by omega) ?_ | refine FIdx.int (by omega) ?_ | refine FTo.nat (by omega) ?_ | refine FTo.int (by omega) ?_) | ((with_reducible refine Need.mk ?_ ?_); focus exact needA) | (with_reducible refine FApp.grow ?_) | (refine FCall.pure (cV) ⟨Ln.sameB _ rfl, Ln.sameB _ rfl, True.intro⟩ rfl ?_) | (refine FCall.pure works_ok True.intro rfl ?_) | (refine FCall.pure (cI) ⟨Ln.sameB _ rfl, Ln.sameB _ rfl, True.intro⟩ rfl ?_) | (with_reducible refine FOr.pub ?_)))
    all_goals (try (conv => whnf))
    all_goals ((refine ⟨⟨_, [], [], Cut.nil _, Ln.sameB _ rfl, ?_, rfl⟩⟩); rfl)
  rw [hi] at cI
  have hmo2 := mask_d hi
  have cP := refCheckP_ok f s hn z e m (by omega) r c
  rcases Decidable.em (¬ checkP s m r c = 0) with hp | hp
  · (repeat' ((try (conv => whnf)); first | (with_reducible first | refine FCond.tA ?_ | refine FCond.fA ?_) | ((with_reducible refine FCond.i (fun hq => ?_) (fun hq => ?_)) <;> (try simp only [zA, zE, zD, zJ, zB, zI, Int.not_le, Int.not_lt] at hq)) | (with_reducible first | refine Fits.in64 (by omega) ?_ | refine FIdx.nat (by omega) ?_ | refine FIdx.int (by omega) ?_ | refine FTo.nat (by omega) ?_ | refine FTo.int (by omega) ?_) | ((with_reducible refine Need.mk ?_ ?_); focus exact needA) | (with_reducible refine FApp.grow ?_) | (refine FCall.pure (cV) ⟨Ln.sameB _ rfl, Ln.sameB _ rfl, True.intro⟩ rfl ?_) | (refine FCall.pure works_ok True.intro rfl ?_) | (refine FCall.pure (cI) ⟨Ln.sameB _ rfl, Ln.sameB _ rfl, True.intro⟩ rfl ?_) | (refine FCall.pure (cP) ⟨Ln.sameB _ rfl, Ln.sameB _ rfl, Ln.sameB _ rfl, Ln.sameB _ rfl, True.intro⟩ rfl ?_) | (with_reducible refine FOr.pub ?_)))
    all_goals (try (conv => whnf))
    all_goals ((refine ⟨⟨_, [], [], Cut.nil _, Ln.sameB _ rfl, ?_, rfl⟩⟩); rfl)
  have hp : checkP s m r c = 0 := Decidable.not_not.1 hp
  rw [hp] at cP
  have hpo := placeOk_of hp
  have hpp := checkP_0 hp
  obtain ⟨r', rfl⟩ := Int.eq_ofNat_of_zero_le hpp.r.1
  obtain ⟨c', rfl⟩ := Int.eq_ofNat_of_zero_le hpp.c.1
  have hr' : r' < s.R := by have := hpp.r; omega
  have hc' : c' < s.C := by have := hpp.c; omega
  have hml := hm.len
  have hmol := hmo2.len
  have hbl := bothS_len s m mo
  have hb := bothS_ok hm hmo2
  have hmore : ∀ r c, r < s.R → c < s.C → outS m r c = true → outS (bothS s m mo) r c = true := fun r c hr hc h => by rw [bothS_out hr, h]; rfl
  have cR1 := pRange_ok f s hn (fun _ => hR3) z e m (by omega) r' c'
  have cR2 := pRange_ok f s hn (fun _ => hR3) false false (bothS s m mo) (by omega) r' c'
  have cS1 := pSafe_ok f s hn (fun _ => hR3) z e m (by omega)
  have cS2 := pSafe_ok f s hn (fun _ => hR3) false false (bothS s m mo) (by omega)
  rw [rangeV_0 hp] at cR1
  rw [rangeV_0 (checkP_of hk hb hpo)] at cR2
  rw [safeV_0 (checkM_of hk hm)] at cS1
  rw [safeV_0 (checkM_of hk hb)] at cS2
  have hw := wider hs hmore hr' hc'
  (repeat' ((try (conv => whnf)); first | (with_reducible first | refine FCond.tA ?_ | refine FCond.fA ?_) | ((with_reducible refine FCond.i (fun hq => ?_) (fun hq => ?_)) <;> (try simp only [zA, zE, zD, zJ, zB, zI, Int.not_le, Int.not_lt] at hq)) | (with_reducible first | refine Fits.in64 (by omega) ?_ | refine FIdx.nat (by omega) ?_ | refine FIdx.int (by omega) ?_ | refine FTo.nat (by omega) ?_ | refine FTo.int (by omega) ?_) | ((with_reducible refine Need.mk ?_ ?_); focus exact needA) | (with_reducible refine FApp.grow ?_) | (refine FCall.pure (cV) ⟨Ln.sameB _ rfl, Ln.sameB _ rfl, True.intro⟩ rfl ?_) | (refine FCall.pure works_ok True.intro rfl ?_) | (refine FCall.pure (cI) ⟨Ln.sameB _ rfl, Ln.sameB _ rfl, True.intro⟩ rfl ?_) | (refine FCall.pure (cP) ⟨Ln.sameB _ rfl, Ln.sameB _ rfl, Ln.sameB _ rfl, Ln.sameB _ rfl, True.intro⟩ rfl ?_) | (with_reducible refine FOr.pub ?_)))
  all_goals (try (conv => whnf))
  refine FLoop.of (ACalls.mono _) (X := Nat) (fun r => [(1, aInts z e m), (3, .ptr 0 0), (7, aInts z2 e2 mo), (8, .ptr 1 0), (9, boV r), (10, AI r)]) (fun r => .box 3 (cSh f s) :: .box 3 (ofL [AI r', AI c', AI a]) :: mskB (bothS s m mo) r) (fun r => r ≤ s.R) (fun r => s.R - r) 0 ⟨Nat.zero_le _, [0, 2], Cut.A, allA⟩ ?_
  intro r hr
  by_cases hlt : r < s.R
  · obtain ⟨x, hx, hx16, _⟩ := mask_16 hs hm hlt
    obtain ⟨y, hy, hy16, _⟩ := mask_16 hs hmo2 hlt
    have hget := bothS_get (m := m) (mo := mo) hlt
    rw [hx, hy] at hget
    rcases r with _ | r
    · (repeat' ((try (conv => whnf)); first | (with_reducible first | refine FCond.tA ?_ | refine FCond.fA ?_) | ((with_reducible refine FCond.i (fun hq => ?_) (fun hq => ?_)) <;> (try simp only [zA, zE, zD, zJ, zB, zI, Int.not_le, Int.not_lt] at hq)) | (with_reducible first | refine Fits.in64 (by omega) ?_ | refine FIdx.nat (by omega) ?_ | refine FIdx.int (by omega) ?_ | refine FTo.nat (by omega) ?_ | refine FTo.int (by omega) ?_) | ((with_reducible refine Need.mk ?_ ?_); focus exact needA) | (with_reducible refine FApp.grow ?_) | (rw [hx, hy]; refine FBit.orN rfl (by omega) (by omega) ?_) | (with_reducible refine FOr.pub ?_)))
      all_goals (try (conv => whnf))
      exact ⟨⟨0 + 1, hlt, by show s.R - (0 + 1) < s.R - 0; omega, [0, 1, 2], Cut.of (Nat.le_of_ble_eq_true rfl) rfl rfl (CutL.turned rfl LnB.A (CutL.turned rfl LnB.A (CutL.turned rfl (LnB.rowE (Nat.le_refl _) fun k hk o ho => by obtain rfl : k = 0 := Nat.lt_one_iff.1 hk; obtain rfl : o = 0 := Nat.lt_one_iff.1 ho; exact int_eq hget) CutL.done))), allA⟩⟩
    · (repeat' ((try (conv => whnf)); first | (with_reducible first | refine FCond.tA ?_ | refine FCond.fA ?_) | ((with_reducible refine FCond.i (fun hq => ?_) (fun hq => ?_)) <;> (try simp only [zA, zE, zD, zJ, zB, zI, Int.not_le, Int.not_lt] at hq)) | (with_reducible first | refine Fits.in64 (by omega) ?_ | refine FIdx.nat (by omega) ?_ | refine FIdx.int (by omega) ?_ | refine FTo.nat (by omega) ?_ | refine FTo.int (by omega) ?_) | ((with_reducible refine Need.mk ?_ ?_); focus exact needA) | (with_reducible refine FApp.grow ?_) | (rw [hx, hy]; refine FBit.orN rfl (by omega) (by omega) ?_) | (with_reducible refine FOr.pub ?_)))
      all_goals (try (conv => whnf))
      exact ⟨⟨r + 1 + 1, hlt, by show s.R - (r + 1 + 1) < s.R - (r + 1); omega, [0, 1, 3], Cut.of (Nat.le_of_ble_eq_true rfl) rfl rfl (CutL.turned rfl LnB.A (CutL.turned rfl LnB.A (CutL.turned rfl (LnB.app (sz := 1) (fun k hk o ho => rfl) (fun o ho => by obtain rfl : o = 0 := Nat.lt_one_iff.1 ho; exact int_eq hget)) CutL.done))), allA⟩⟩
  · obtain ⟨R', hR'⟩ : ∃ R', s.R = R' + 1 := ⟨s.R - 1, by have := hs.r1; omega⟩
    have hrE : r = R' + 1 := by omega
    subst hrE
    (repeat' ((try (conv => whnf)); first | (with_reducible first | refine FCond.tA ?_ | refine FCond.fA ?_) | ((with_reducible refine FCond.i (fun hq => ?_) (fun hq => ?_)) <;> (try simp only [zA, zE, zD, zJ, zB, zI, Int.not_le, Int.not_lt] at hq)) | (with_reducible first | refine Fits.in64 (by omega) ?_ | refine FIdx.nat (by omega) ?_ | refine FIdx.int (by omega) ?_ | refine FTo.nat (by omega) ?_ | refine FTo.int (by omega) ?_) | ((with_reducible refine Need.mk ?_ ?_); focus exact needA) | (with_reducible refine FApp.grow ?_) | (with_reducible refine FOr.pub ?_)))
    all_goals (try (conv => whnf))
    refine FWk.of [(1, aInts z e m), (3, .ptr 0 0), (8, .ptr 1 0), (9, aInts false false (bothS s m mo))] [.box 3 (cSh f s), .box 3 (ofL [AI r', AI c', AI a])] [0, 1] Cut.A ⟨Ln.A, Ln.A, Ln.A, Ln.pubE (goneB rfl) rfl (Nat.le_refl _) (by rw [hbl]; exact hR'.symm) (fun _ _ _ _ => rfl), True.intro⟩ ?_
    cases hq1 : safeS s m
    · rw [hq1] at cS1
      (repeat' ((try (conv => whnf)); first | (with_reducible first | refine FCond.tA ?_ | refine FCond.fA ?_) | ((with_reducible refine FCond.i (fun hq => ?_) (fun hq => ?_)) <;> (try simp only [zA, zE, zD, zJ, zB, zI, Int.not_le, Int.not_lt] at hq)) | (with_reducible first | refine Fits.in64 (by omega) ?_ | refine FIdx.nat (by omega) ?_ | refine FIdx.int (by omega) ?_ | refine FTo.nat (by omega) ?_ | refine FTo.int (by omega) ?_) | ((with_reducible refine Need.mk ?_ ?_); focus exact needA) | (with_reducible refine FApp.grow ?_) | (refine FCall.pure (cR1) ⟨Ln.sameB _ rfl, Ln.sameB _ rfl, Ln.sameB _ rfl, Ln.sameB _ rfl, True.intro⟩ rfl ?_) | (refine FCall.pure (cR2) ⟨Ln.sameB _ rfl, Ln.sameB _ rfl, Ln.sameB _ rfl, Ln.sameB _ rfl, True.intro⟩ rfl ?_) | (refine FCall.pure (cS1) ⟨Ln.sameB _ rfl, Ln.sameB _ rfl, True.intro⟩ rfl ?_) | (refine FCall.pure (cS2) ⟨Ln.sameB _ rfl, Ln.sameB _ rfl, True.intro⟩ rfl ?_) | (refine FCall.pure works_ok True.intro rfl ?_) | (with_reducible refine FOr.pub ?_)))
      all_goals (try (conv => whnf))
      all_goals ((refine ⟨⟨_, [], [], Cut.nil _, Ln.sameB _ rfl, ?_, rfl⟩⟩); rfl)
    · rw [hq1] at cS1
      rw [safe_more hs hmore hq1] at cS2
      (repeat' ((try (conv => whnf)); first | (with_reducible first | refine FCond.tA ?_ | refine FCond.fA ?_) | ((with_reducible refine FCond.i (fun hq => ?_) (fun hq => ?_)) <;> (try simp only [zA, zE, zD, zJ, zB, zI, Int.not_le, Int.not_lt] at hq)) | (with_reducible first | refine Fits.in64 (by omega) ?_ | refine FIdx.nat (by omega) ?_ | refine FIdx.int (by omega) ?_ | refine FTo.nat (by omega) ?_ | refine FTo.int (by omega) ?_) | ((with_reducible refine Need.mk ?_ ?_); focus exact needA) | (with_reducible refine FApp.grow ?_) | (refine FCall.pure (cR1) ⟨Ln.sameB _ rfl, Ln.sameB _ rfl, Ln.sameB _ rfl, Ln.sameB _ rfl, True.intro⟩ rfl ?_) | (refine FCall.pure (cR2) ⟨Ln.sameB _ rfl, Ln.sameB _ rfl, Ln.sameB _ rfl, Ln.sameB _ rfl, True.intro⟩ rfl ?_) | (refine FCall.pure (cS1) ⟨Ln.sameB _ rfl, Ln.sameB _ rfl, True.intro⟩ rfl ?_) | (refine FCall.pure (cS2) ⟨Ln.sameB _ rfl, Ln.sameB _ rfl, True.intro⟩ rfl ?_) | (refine FCall.pure works_ok True.intro rfl ?_) | (with_reducible refine FOr.pub ?_)))
      all_goals (try (conv => whnf))
      all_goals ((refine ⟨⟨_, [], [], Cut.nil _, Ln.sameB _ rfl, ?_, rfl⟩⟩); rfl)
end Go.Proofs.Ytlffjnmbpoemnaa

namespace Go.Proofs.Ytlffjnmbpoemnaa
open Go.RowKit

theorem block_of_add (a : Addr) (n : Nat) : (a.add n).block = a.block := by unfold Addr.add; split <;> rfl
theorem add_of_add (a : Addr) (i j : Nat) : (a.add i).add j = a.add (i + j) := by
  unfold Addr.add
  by_cases hi : i = 0 <;> by_cases hj : j = 0 <;> simp [hi, hj, Nat.add_assoc]

/-- w' has all that w has, unchanged. -/
abbrev Ext (w w' : World) : Prop := Below w.heap.size w w'

theorem Ext.refl (w : World) : Ext w w := Below.refl _ w
theorem Ext.trans {a b c : World} (h : Ext a b) (k : Ext b c) : Ext a c := Below.trans h (k.mono h.size)
theorem Ext.of_alloc (w : World) (o : Obj) : Ext w (w.alloc o) := (Below.refl _ w).alloc (Nat.le_refl _) o
theorem Ext.alloc {a w : World} (h : Ext a w) (o : Obj) : Ext a (w.alloc o) := Below.alloc h h.size o
theorem Ext.drew {a w : World} (h : Ext a w) : Ext a w.drew := Below.drew h
theorem Ext.drewN {a w : World} (h : Ext a w) (n : Nat) : Ext a (w.drewN n) := ⟨h.os, h.tape, h.output, h.size, h.block⟩
theorem Ext.cellOf {w w' : World} (h : Ext w w') {p : Addr} (hp : p.block < w.heap.size) : w'.cell? p = w.cell? p := Below.cell h hp

/-- The n elements (size cells each) of a slice at A are the cells xs. -/
def Sl (w : World) (size : Nat) (A : Option Addr) (n : Nat) (xs : List Value) : Prop :=
  xs.length = n * size ∧ (0 < n → ∃ b off, A = some ⟨b, off, none⟩ ∧ b < w.heap.size ∧ ∀ (j : Nat) (u : Value), xs[j]? = some u → w.cell? ⟨b, off + j, none⟩ = some u)

theorem Sl.ext {w w' : World} {size n : Nat} {A : Option Addr} {xs : List Value} (h : Sl w size A n xs) (e : Ext w w') : Sl w' size A n xs :=
  ⟨h.1, fun hn => by
    obtain ⟨b, off, hA, hb, hc⟩ := h.2 hn
    exact ⟨b, off, hA, Nat.lt_of_lt_of_le hb e.size, fun j u hu => (e.cellOf (p := ⟨b, off + j, none⟩) hb).trans (hc j u hu)⟩⟩
theorem Sl.nil (w : World) (size : Nat) (A : Option Addr) : Sl w size A 0 [] := ⟨by simp, fun h => absurd h (by omega)⟩
theorem own_lt {w : World} {g : Nat} {o : Obj} (hh : w.heap[g]? = some o) : g < w.heap.size := by
  rcases Nat.lt_or_ge g w.heap.size with hlt | hge
  · exact hlt
  · rw [Array.getElem?_eq_none hge] at hh; cases hh
theorem Sl.of_own {w : World} {base size n c : Nat} {e : TypeId} {A : Option Addr} {xs : List Value} (h : w.ownsRow base e size (.slice A n c) n xs) : Sl w size A n xs := by
  refine ⟨h.1, fun hn => ?_⟩
  rcases h.2 with ⟨hv, hx⟩ | ⟨g, cap, cur, hv, hb, hh, _⟩
  · injection hv with hA hn'
    omega
  · injection hv with hA
    subst hA
    refine ⟨g, 0, rfl, own_lt hh, fun j u hu => ?_⟩
    have h1 := h.cells (g := g) rfl j u hu
    unfold Addr.add at h1
    split at h1
    · rename_i h0; subst h0; exact h1
    · simpa using h1
theorem Sl.at {w : World} {size n : Nat} {A : Option Addr} {xs : List Value} (h : Sl w size A n xs) {k : Nat} (hk : k < n) :
    ∃ b off, A = some ⟨b, off, none⟩ ∧ b < w.heap.size ∧ ∀ i, i < size → ∃ u, xs[k * size + i]? = some u ∧ w.cell? ⟨b, off + (k * size + i), none⟩ = some u := by
  obtain ⟨b, off, hA, hb, hc⟩ := h.2 (by omega)
  refine ⟨b, off, hA, hb, fun i hi => ?_⟩
  have hlt : k * size + i < xs.length := by
    rw [h.1]
    have : (k + 1) * size ≤ n * size := Nat.mul_le_mul_right _ hk
    rw [Nat.add_mul] at this
    omega
  exact ⟨xs[k * size + i], List.getElem?_eq_getElem hlt, hc _ _ (List.getElem?_eq_getElem hlt)⟩

/-- A slice of ints. -/
def Ints (w : World) (A : Option Addr) (l : List Int) : Prop :=
  ∀ k, k < l.length → ∃ b off, A = some ⟨b, off, none⟩ ∧ b < w.heap.size ∧ w.cell? ⟨b, off + k, none⟩ = some (.int .i64 (l.getD k 0))
theorem Ints.ext {w w' : World} {A : Option Addr} {l : List Int} (h : Ints w A l) (e : Ext w w') : Ints w' A l := fun k hk => by
  obtain ⟨b, off, hA, hb, hc⟩ := h k hk
  exact ⟨b, off, hA, Nat.lt_of_lt_of_le hb e.size, (e.cellOf (p := ⟨b, off + k, none⟩) hb).trans hc⟩
theorem Ints.of_own {w : World} {base n c : Nat} {e : TypeId} {A : Option Addr} {l : List Int} (h : w.ownsRow base e 1 (.slice A n c) n (l.map (.int .i64))) : n = l.length ∧ Ints w A l := by
  have hl : n = l.length := by have := h.1; simp at this; omega
  refine ⟨hl, fun k hk => ?_⟩
  obtain ⟨b, off, hA, hb, hc⟩ := (Sl.of_own h).at (k := k) (by omega)
  obtain ⟨u, hu, hcu⟩ := hc 0 (by omega)
  refine ⟨b, off, hA, hb, ?_⟩
  simp at hu hcu
  obtain ⟨a, ha, rfl⟩ := hu
  rw [hcu]
  simp [List.getD, ha]

theorem Ints.get {w : World} {A : Option Addr} {l : List Int} (h : Ints w A l) {k : Nat} (hk : k < l.length) :
    ∃ b off x, A = some ⟨b, off, none⟩ ∧ b < w.heap.size ∧ w.cell? ⟨b, off + k, none⟩ = some (.int .i64 x) ∧ Hid (l.getD k 0 = x) := by
  obtain ⟨b, off, h1, h2, h3⟩ := h k hk
  exact ⟨b, off, _, h1, h2, h3, rfl⟩

theorem Ext.unalloc {w wr : World} {o : Obj} (h : Ext (w.alloc o) wr) : Ext w wr := (Ext.of_alloc w o).trans h
theorem Ext.box {w wr : World} {cs : Array Value} {T : TypeId} (h : Ext (w.alloc (.cells cs T)) wr) (i : Nat) : wr.cell? ⟨w.heap.size, i, none⟩ = cs[i]? := by
  rw [h.cellOf (by simp), World.cell?_alloc_at _ _ _ _ rfl]
theorem Ext.boxFree {w wr : World} {cs : Array Value} {T : TypeId} (h : Ext (w.alloc (.cells cs T)) wr) (i : Nat) : wr.frozen? ⟨w.heap.size, i, none⟩ = false := by
  rw [Below.frozen h (by simp), World.frozen?_alloc_at _ _ _ _ rfl]
theorem Ext.lt {w wr : World} {o : Obj} (h : Ext (w.alloc o) wr) : w.heap.size < wr.heap.size := by have := h.size; simp at this; omega
theorem Ext.le {w wr : World} (h : Ext w wr) : w.heap.size ≤ wr.heap.size := h.size

theorem Ext.grown {w w' : World} (h : Ext w w') (row : Option Nat) : w.grownBy w' row := ⟨h.os, h.tape, h.output, h.size, fun i hi _ => h.block i hi⟩
theorem Ext.of_grown {w w' : World} (h : w.grownBy w' none) : Ext w w' := ⟨h.os, h.tape, h.output, h.size, fun i hi => h.block i hi (by simp)⟩

/-- Block g is just the cells cs of element type t, none frozen. -/
def Blk (w : World) (g : Nat) (t : TypeId) (cs : Array Value) : Prop := w.heap[g]? = some (.cells cs t (0, 0))
theorem Blk.lt {w : World} {g : Nat} {t : TypeId} {cs : Array Value} (h : Blk w g t cs) : g < w.heap.size := own_lt h
theorem Blk.cell {w : World} {g : Nat} {t : TypeId} {cs : Array Value} (h : Blk w g t cs) (i : Nat) : w.cell? ⟨g, i, none⟩ = cs[i]? := by
  unfold Blk at h; simp [World.cell?, h]
theorem Blk.free {w : World} {g : Nat} {t : TypeId} {cs : Array Value} (h : Blk w g t cs) (i : Nat) : w.frozen? ⟨g, i, none⟩ = false := by
  unfold Blk at h; simp [World.frozen?, h]
theorem Blk.new (w : World) (t : TypeId) (cs : Array Value) : Blk (w.alloc (.cells cs t)) w.heap.size t cs := heap_alloc_new w _
theorem Blk.ext {w w' : World} {g : Nat} {t : TypeId} {cs : Array Value} (h : Blk w g t cs) (e : Ext w w') : Blk w' g t cs := (e.block g h.lt).trans h
theorem Blk.alloc {w : World} {g : Nat} {t : TypeId} {cs : Array Value} (h : Blk w g t cs) (o : Obj) : Blk (w.alloc o) g t cs := h.ext (Ext.of_alloc _ _)
theorem Blk.set {w : World} {g : Nat} {t : TypeId} {cs : Array Value} (h : Blk w g t cs) (i : Nat) (u : Value) : Blk (w.setCell ⟨g, i, none⟩ u) g t (cs.setIfInBounds i u) := by
  unfold Blk at h ⊢
  simp [World.setCell, Array.getElem?_modify, h]
theorem Blk.far {w : World} {g : Nat} {t : TypeId} {cs : Array Value} (h : Blk w g t cs) {p : Addr} (hp : g ≠ p.block) (u : Value) : Blk (w.setCell p u) g t cs := (Below.heap_setCell w p u g hp).trans h
theorem Blk.grown {w w' : World} {g : Nat} {t : TypeId} {cs : Array Value} {row : Option Nat} (h : Blk w g t cs) (hb : w.grownBy w' row) (hg : some g ≠ row) : Blk w' g t cs := (hb.block g h.lt hg).trans h
theorem Blk.ne {w : World} {g g' : Nat} {t t' : TypeId} {cs cs' : Array Value} (h : Blk w g t cs) (h' : Blk w g' t' cs') (hne : t ≠ t') : g ≠ g' := by
  rintro rfl
  unfold Blk at h h'
  rw [h] at h'
  injection h' with h'
  injection h' with _ ht
  exact hne ht
theorem grown_setCell (w : World) (p : Addr) (u : Value) : w.grownBy (w.setCell p u) (some p.block) :=
  ⟨rfl, rfl, rfl, by simp, fun i _ hne => Below.heap_setCell _ _ _ _ (fun e => hne (by rw [e]))⟩
theorem grown_refl (w : World) (row : Option Nat) : w.grownBy w row := (Ext.refl w).grown row
theorem grown_trans {a b c : World} {row : Option Nat} (h : a.grownBy b row) (k : b.grownBy c row) : a.grownBy c row :=
  ⟨k.os.trans h.os, k.tape.trans h.tape, k.output.trans h.output, Nat.le_trans h.size k.size, fun i hi hne => (k.block i (Nat.lt_of_lt_of_le hi h.size) hne).trans (h.block i hi hne)⟩
theorem grown_drew (w : World) (row : Option Nat) : w.grownBy w.drew row := (Ext.refl w).drew.grown row

theorem quiet_add_same {P : Program} {f : FuncId} {args : Array Value} {w : World} {a n : Nat} {v : Value}
    (h : Calls P f args (w.drewN (a + n)) fun e w' => e = .returned v ∧ w' = w.drewN (a + n)) :
    Calls P f args (w.drewN (a + n)) fun e w'' => e = .returned v ∧ ∃ m, w'' = w.drewN (a + m) :=
  h.mono fun _ _ ⟨he, hm⟩ => ⟨he, n, hm⟩

/-- A region that draws, all of whose operations read or call, in a class of worlds. -/
theorem wp_region_class {P : Program} {id : Nat} {Q : Exit → Act → World → Prop} {a : Act} {w : World} {l : List Oper} (C : World → Prop) (hm : P.follows .mixedOrders = true) (hB : Region.lexB .any l.toArray = true) (hC : C w.drew)
    (h : wpQuiet P l.toArray C (fun a' => ∀ w', C w' → Q .normal a' w') l a) : (Code.region id l.toArray true).wp P Q a w :=
  wp_region_quiet (C := C) hm hB hC (by simpa using h)

theorem ret_int {k : IntKind} {a b : Int} (h : a = b) : Ending.returned (.int k a) = .returned (.int k b) := by rw [h]
theorem ret_bool {a b : Bool} (h : a = b) : Ending.returned (.bool a) = .returned (.bool b) := by rw [h]
end Go.Proofs.Ytlffjnmbpoemnaa

namespace Go.Proofs.Ytlffjnmbpoemnaa
open Go.RowKit Go.ChangeShapes Go.WideShapes Go.Deep

section
variable {H : Type} {enc : TypeId × Value → H} {P : Program} {w : World} {base : Nat} {held : Bool}

/-- A slice's elements, cell by cell. -/
theorem rd_slice {t e : TypeId} {sz n : Nat} {v : Value} {y : DataW H × List MemPlace} (ht : P.underlying t = some (.slice e)) (hc : P.cellsOf e = sz) (hsz : 0 < sz) (h : DataW.trod enc P w base (fun _ => true) held n t [v] = some y) :
    ∃ A len cap, v = .slice A len cap ∧ len ≤ 9223372036854775807 ∧ (A = none → len = 0) ∧ ∀ i, i < len → ∃ b off m cs z, A = some ⟨b, off, none⟩ ∧ b < w.heap.size ∧ cs.length = sz ∧ (∀ j, j < sz → w.cell? ⟨b, off + i * sz + j, none⟩ = cs[j]?) ∧
      DataW.trod enc P w base (fun _ => true) held m e cs = some z := by
  rcases open_slice ht h with ⟨h0, _⟩ | ⟨a, len, cap, m, n', D, Pl, h0, hb, hl, hm, hmm, _, hx⟩
  · injection h0 with h0
    exact ⟨none, 0, 0, h0, by omega, fun _ => rfl, fun i hi => by omega⟩
  · injection h0 with h0
    have hmx : maxLen = 9223372036854775807 := rfl
    refine ⟨some a, len, cap, h0, by omega, (fun h => by cases h), fun i hi => ?_⟩
    simp only [if_true] at hmm
    obtain ⟨cs, h1, h2⟩ := hx i (by omega)
    obtain ⟨_, hlen, hcell⟩ := World.cells?_some h1
    rw [hc] at hlen hcell
    have hc0 := hcell 0 hsz
    rw [List.getElem?_eq_getElem (by omega)] at hc0
    obtain ⟨b, off, spot⟩ := a
    have hadd : ∀ (x y : Nat), ((⟨b, off, spot⟩ : Addr).add x).add y = (⟨b, off, spot⟩ : Addr).add (x + y) := fun x y => add_of_add _ _ _
    have hsp : spot = none := by
      obtain ⟨cs0, g1, _⟩ := hx 0 (by omega)
      obtain ⟨_, glen, gcell⟩ := World.cells?_some g1
      rw [hc] at glen gcell
      have g0 := gcell 0 hsz
      rw [List.getElem?_eq_getElem (by omega)] at g0
      have := World.cell?_spot g0
      simpa [hadd, Addr.add] using this
    subst hsp
    have hform : ∀ x, (⟨b, off, none⟩ : Addr).add x = ⟨b, off + x, none⟩ := fun x => by
      unfold Addr.add
      by_cases hx0 : x = 0 <;> simp [hx0]
    refine ⟨b, off, n', cs, _, rfl, ?_, hlen, fun j hj => ?_, h2⟩
    · have := World.block_lt_of_cell? w _ hc0
      rw [hadd, hform] at this
      exact this
    · have := hcell j hj
      rw [hadd, hform] at this
      rw [← this, Nat.add_assoc]

theorem rd_int {t : TypeId} {n : Nat} {cs : List Value} {y : DataW H × List MemPlace} (ht : P.underlying t = some (.int .i64)) (h : DataW.trod enc P w base (fun _ => true) held n t cs = some y) : ∃ i : Int, cs = [.int .i64 i] ∧ -9223372036854775808 ≤ i ∧ i ≤ 9223372036854775807 := by
  obtain ⟨i, h1, _, h3⟩ := DataW.trod_int ht h
  refine ⟨i, h1, ?_⟩
  simpa [Lit.wf, IntKind.min, IntKind.max, IntKind.signed, IntKind.bits] using h3

def I64 (x : Int) : Prop := -9223372036854775808 ≤ x ∧ x ≤ 9223372036854775807

theorem rd_ints {t e : TypeId} {n : Nat} {v : Value} {y : DataW H × List MemPlace} (ht : P.underlying t = some (.slice e)) (he : P.underlying e = some (.int .i64)) (hc : P.cellsOf e = 1) (h : DataW.trod enc P w base (fun _ => true) held n t [v] = some y) :
    ∃ A c, ∃ l : List Int, v = .slice A l.length c ∧ Ints w A l ∧ l.length ≤ 9223372036854775807 ∧ (A = none → l = []) ∧ ∀ x ∈ l, I64 x := by
  obtain ⟨A, len, cap, rfl, hl, hn, hx⟩ := rd_slice ht hc (by omega) h
  have key : ∀ i, i < len → ∃ x : Int, (∃ b off, A = some ⟨b, off, none⟩ ∧ b < w.heap.size ∧ w.cell? ⟨b, off + i, none⟩ = some (.int .i64 x)) ∧ I64 x := by
    intro i hi
    obtain ⟨b, off, m, cs, z, hA, hb, hlen, hcell, ht'⟩ := hx i hi
    obtain ⟨x, rfl, h1, h2⟩ := rd_int he ht'
    have := hcell 0 (by omega)
    rw [Nat.mul_one, Nat.add_zero] at this
    exact ⟨x, ⟨b, off, hA, hb, this⟩, h1, h2⟩
  obtain ⟨f, hf⟩ := choose_lt key
  have hlen : ((List.range len).map f).length = len := by simp
  refine ⟨A, cap, (List.range len).map f, by rw [hlen], fun k hk => ?_, by omega, fun hA => by rw [hn hA]; rfl, fun x hx' => ?_⟩
  · rw [hlen] at hk
    obtain ⟨⟨b, off, h1, h2, h3⟩, _⟩ := hf k hk
    exact ⟨b, off, h1, h2, by rw [h3]; simp [List.getD, hk]⟩
  · obtain ⟨k, hk, rfl⟩ := List.mem_map.1 hx'
    exact (hf k (by simpa using hk)).2

/-- A world that only has more. -/
theorem since_of_ext {W W' : World} (h : Ext W W') : W.Since W.heap.size W' := ⟨h.os, h.tape, h.output, h.size, fun k hk => h.block k hk⟩
/-- An argument reads as before in a world that only has more. -/
theorem stays {t : TypeId} (hl : laidOutB P = true) (hr : P.readableRec t = true) (hrow : t < P.types.size) {W W' : World} {sp' : Nat → Bool} {v : Value} {d : DataW H} {ps : List MemPlace}
    (h : DataW.Trod enc P W 0 (fun _ => true) true t v d ps) (hE : Ext W W') (hlt : ∀ p ∈ ps, p.block < W.heap.size) (hs : ∀ p ∈ ps, sp' p.block = true) : DataW.Trod enc P W' 0 sp' true t v d ps :=
  WideElems.Trod_stays hl hr hrow h (fun p hp => (since_of_ext hE).sameAt (hlt p hp)) hs
end
end Go.Proofs.Ytlffjnmbpoemnaa

namespace Go.Proofs.Ytlffjnmbpoemnaa
open Go.RowKit Go.ChangeShapes Go.WideShapes Go.Deep Go.ChangeAt

section
variable {H : Type} {enc : TypeId × Value → H} {P : Program}
theorem staysAll (hl : laidOutB P = true) {W W' : World} (hE : Ext W W') {sp' : Nat → Bool} : ∀ {ts : List TypeId} {vs : List Value} {ds : List (DataW H)} {ps : List MemPlace}, (∀ t ∈ ts, P.readableRec t = true ∧ t < P.types.size) →
    DataW.TrodAll enc P W 0 (fun _ => true) true ts vs ds ps → (∀ p ∈ ps, p.block < W.heap.size) → (∀ p ∈ ps, sp' p.block = true) → DataW.TrodAll enc P W' 0 sp' true ts vs ds ps := by
  intro ts
  induction ts with
  | nil =>
    intro vs ds ps _ h _ _
    obtain ⟨rfl, rfl, rfl⟩ := trodAll_nil h
    exact trodAll_mk0
  | cons t ts ih =>
    intro vs ds ps ht h hlt hs
    obtain ⟨v, vs', d, ds', p, q, rfl, rfl, rfl, h0, hr⟩ := trodAll_cons h
    exact trodAll_cons_mk (stays hl (ht t List.mem_cons_self).1 (ht t List.mem_cons_self).2 h0 hE (fun x hx => hlt x (List.mem_append_left _ hx)) (fun x hx => hs x (List.mem_append_left _ hx)))
      (ih (fun t' h' => ht t' (List.mem_cons_of_mem _ h')) hr (fun x hx => hlt x (List.mem_append_right _ hx)) (fun x hx => hs x (List.mem_append_right _ hx)))

theorem trodLen {w : World} {base : Nat} {spare : Nat → Bool} {held : Bool} : ∀ {ts : List TypeId} {vs : List Value} {ds : List (DataW H)} {ps : List MemPlace}, DataW.TrodAll enc P w base spare held ts vs ds ps → ds.length = ts.length := by
  intro ts
  induction ts with
  | nil =>
    intro vs ds ps h
    obtain ⟨rfl, rfl, rfl⟩ := trodAll_nil h
    rfl
  | cons t ts ih =>
    intro vs ds ps h
    obtain ⟨v, vs', d, ds', p, q, rfl, rfl, rfl, h0, hr⟩ := trodAll_cons h
    simp [ih hr]

theorem law_post {f : Func} {s : ChangeSpec} {W W' : World} {args : Array Value} {ds gs : List (DataW H)} {before : List MemPlace} {tb : TypeId} (hl : laidOutB P = true) (hts : ∀ t ∈ f.params.toList, P.readableRec t = true ∧ t < P.types.size)
    (hv : s.vars = []) (hb : P.underlying tb = some .bool) (hrt : f.resultTypes = #[tb]) (hspec : ∀ l : List (DataW H), l.length = f.params.toList.length → s.fn H (l ++ []) = { results := [.lit (.bool true)], args := l, vars := [] })
    (hW : DataW.Whole enc P f.params.toList s.vars false W args.toList ds gs before) (hE : Ext W W') : s.post enc P f false true false false W args (.bool true) W' := by
  have hW' := hW
  obtain ⟨p, q, hA, hV, rfl, _, _⟩ := hW
  rw [hv] at hV
  obtain ⟨rfl, rfl⟩ := trodVars_none hV
  have hlt : ∀ x ∈ p, x.block < W.heap.size := fun x hx => hW'.lt x (by simp [hx])
  have hlen := trodLen hA
  have hs := hspec ds hlen
  refine ⟨ds, [], _, [], p, [], hW', ?_, ?_, ?_, (since_of_ext hE).frame _, fun h => by cases h⟩
  · rw [hs, hrt]
    exact trodAll_cons_mk (shut_bool hb _) trodAll_mk0
  · rw [hs]
    exact staysAll hl hE hts hA hlt (fun x hx => by simpa using hlt x hx)
  · rw [hs, hv]
    rfl
end
end Go.Proofs.Ytlffjnmbpoemnaa
