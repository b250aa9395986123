/- Secrets: best, Least, Worth of the program. / Secrets: the best mask; the example / Secrets: without secrets; an amount alone / Secrets: sameInts, the example, works; Far, valid. / Secrets: with more amounts left out no Range is narrower (SecretsMore). / Secrets: safe masks and good masks -/
import Derived.Test.YtlffjnmbpoemnaaBk15
set_option linter.unusedSimpArgs false
set_option linter.unusedVariables false
namespace Go.Proofs.Ytlffjnmbpoemnaa
open Go.RowKit
set_option maxHeartbeats 16000000
set_option maxRecDepth 100000
theorem sumTo_le {f g : Nat → Int} : ∀ {k : Nat}, (∀ i, i < k → f i ≤ g i) → sumTo f k ≤ sumTo g k
  | 0, _ => Int.le_refl 0
  | k + 1, h => by
    have := sumTo_le (k := k) fun i hi => h i (by omega)
    have := h k (by omega)
    simp only [sumTo]; omega
theorem pSafe_ok (f : ShF) (s : Sheet) (hn : Near s) (h3 : s.ok = true → s.R ≤ 3) (z e : Bool) (m : List Int) (hm : m.length ≤ 1000) : ACall Try.prog 25 [aSh f s, aInts z e m] [] (fun v h => v = safeV s m ∧ h = []) := by
  have cM := open_ok f s hn z e m hm
  (refine fcall_of mixed Try.func25 rfl (by decide) (hs := {}) ?k (ac := ?ac) ?c (rs := ?rs) ?r ?l ?H; (case k => kernel_rfl); (case c => (conv => (lhs; cbv))); (case r => (conv => (lhs; cbv))); (case l => exact Nat.le_of_ble_eq_true rfl))
  by_cases h0 : checkM s m = 0
  · obtain ⟨hk, hmk⟩ := checkM_0 h0
    have cS := safeP_ok f s (sheet_d hk) (h3 hk) z e m (mask_d hmk)
    rw [show safeV s m = .tup 2 (ofL [.bool (safeS s m), AI 0]) from by unfold safeV; rw [h0]; rfl]
    rw [show openV f s z e m = .tup 2 (ofL [iSt f s z e m, AI 0]) from by unfold openV; rw [if_pos h0, h0]] at cM
    (repeat' ((try (conv => whnf)); first | (with_reducible first | refine FCond.tA ?_ | refine FCond.fA ?_) | ((with_reducible refine FCond.i (fun hq => ?_) (fun hq => ?_)) <;> (try simp only [zA, zE, zD, zJ, zB, zI, Int.not_le, Int.not_lt] at hq)) | (with_reducible first | refine Fits.in64 (by omega) ?_ | refine FIdx.nat (by omega) ?_ | refine FIdx.int (by omega) ?_ | refine FTo.nat (by omega) ?_ | refine FTo.int (by omega) ?_) | ((with_reducible refine Need.mk ?_ ?_); focus exact needA) | (with_reducible refine FApp.grow ?_) | (refine FCall.pure (cM) ⟨Ln.sameB _ rfl, Ln.sameB _ rfl, True.intro⟩ rfl ?_) | (refine FCall.pure (cS) ⟨Ln.sameB _ rfl, True.intro⟩ rfl ?_) | (with_reducible refine FOr.pub ?_)))
    all_goals (try (conv => whnf))
    all_goals ((refine ⟨⟨_, [], [], Cut.nil _, Ln.sameB _ rfl, ?_, rfl⟩⟩); rfl)
  · rw [show safeV s m = .tup 2 (ofL [.bool false, AI (checkM s m)]) from by unfold safeV; rw [decide_eq_false h0]; rfl]
    rw [show openV f s z e m = .tup 2 (ofL [.nilp, AI (checkM s m)]) from by unfold openV; rw [if_neg h0]] at cM
    (repeat' ((try (conv => whnf)); first | (with_reducible first | refine FCond.tA ?_ | refine FCond.fA ?_) | ((with_reducible refine FCond.i (fun hq => ?_) (fun hq => ?_)) <;> (try simp only [zA, zE, zD, zJ, zB, zI, Int.not_le, Int.not_lt] at hq)) | (with_reducible first | refine Fits.in64 (by omega) ?_ | refine FIdx.nat (by omega) ?_ | refine FIdx.int (by omega) ?_ | refine FTo.nat (by omega) ?_ | refine FTo.int (by omega) ?_) | ((with_reducible refine Need.mk ?_ ?_); focus exact needA) | (with_reducible refine FApp.grow ?_) | (refine FCall.pure (cM) ⟨Ln.sameB _ rfl, Ln.sameB _ rfl, True.intro⟩ rfl ?_) | (with_reducible refine FOr.pub ?_)))
    all_goals (try (conv => whnf))
    all_goals ((refine ⟨⟨_, [], [], Cut.nil _, Ln.sameB _ rfl, ?_, rfl⟩⟩); rfl)

/-- The n-th mask of a sheet. -/
def mkS (s : Sheet) (n : Nat) : List Int := (List.range s.R).map fun r => (((n >>> (s.C * r)) &&& (2 ^ s.C - 1) : Nat) : Int)
theorem mkS_len (s : Sheet) (n : Nat) : (mkS s n).length = s.R := by simp [mkS]
theorem mkS_get {s : Sheet} {n r : Nat} (hr : r < s.R) : (mkS s n).getD r 0 = (((n >>> (s.C * r)) &&& (2 ^ s.C - 1) : Nat) : Int) := by
  unfold mkS; simp [List.getD, hr]
theorem mkS_ok (s : Sheet) (n : Nat) : MaskOk s (mkS s n) := ⟨mkS_len s n, fun r hr => by
  rw [mkS_get hr]
  have h1 := Nat.and_le_right (n := n >>> (s.C * r)) (m := 2 ^ s.C - 1)
  have := Nat.two_pow_pos s.C
  omega⟩
/-- The order of two prices: by the number, or by the sum first. -/
def ordI (w : Bool) (a b c d : Int) : Int := if w then orI (b - d) (a - c) else orI (a - c) (b - d)
def cmpM (w : Bool) (s : Sheet) (a b : List Int) : Int := orI (ordI w (manyTo a s.R) (leftTo s a s.R) (manyTo b s.R) (leftTo s b s.R)) (lexK a b a.length 0)
noncomputable def takeS (w : Bool) (s : Sheet) (m : List Int) (b : Option (List Int)) : Bool := (coversS s m && !loneS s m) && (match b with | none => true | some b => decide (cmpM w s m b < 0)) && safeS s m
noncomputable def bstS (w : Bool) (s : Sheet) : Nat → Option (List Int)
  | 0 => none
  | n + 1 => if takeS w s (mkS s n) (bstS w s n) then some (mkS s n) else bstS w s n
theorem bst_no {w : Bool} {s : Sheet} {n : Nat} (h : takeS w s (mkS s n) (bstS w s n) = false) : bstS w s (n + 1) = bstS w s n := by
  simp only [bstS]; rw [if_neg (by rw [h]; decide)]
theorem bst_yes {w : Bool} {s : Sheet} {n : Nat} (h : takeS w s (mkS s n) (bstS w s n) = true) : bstS w s (n + 1) = some (mkS s n) := by
  simp only [bstS]; rw [if_pos h]
theorem bstS_mk {w : Bool} {s : Sheet} {b : List Int} : ∀ {n : Nat}, bstS w s n = some b → ∃ k, k < n ∧ b = mkS s k
  | 0, h => by cases h
  | n + 1, h => by
    simp only [bstS] at h
    split at h
    · injection h with h; exact ⟨n, by omega, h.symm⟩
    · obtain ⟨k, hk, e⟩ := bstS_mk h; exact ⟨k, by omega, e⟩
def fndV (f : ShF) (s : Sheet) : Option (List Int) → AV
  | none => .nilp
  | some m => iSt f s false false m
def mskV : Nat → AV
  | 0 => nilS
  | i + 1 => .own 2 (i + 1)
def mskB (m : List Int) : Nat → List AB
  | 0 => []
  | i + 1 => [.row (i + 1) 1 (fun k _ => AI (m.getD k 0))]
noncomputable def bestO (w : Bool) (s : Sheet) : Option (List Int) := bstS w s (2 ^ (s.C * s.R))
noncomputable def bestV (w : Bool) (s : Sheet) : AV := if s.ok then (match bestO w s with | none => .tup 2 (ofL [nilS, AI 3]) | some m => .tup 2 (ofL [aInts false false m, AI 0])) else .tup 2 (ofL [nilS, AI 80])
abbrev prA (a b : Int) : AV := .agg 2 (ofL [AI a, AI b])
set_option maxHeartbeats 16000000
set_option maxRecDepth 100000
theorem ordL_ok (a b c d : Int) (h : (0 ≤ a ∧ a ≤ 1000) ∧ (0 ≤ b ∧ b ≤ 1000000) ∧ (0 ≤ c ∧ c ≤ 1000) ∧ (0 ≤ d ∧ d ≤ 1000000)) : ACall Try.prog 45 [prA a b, prA c d] [] (fun r h => r = AI (ordI false a b c d) ∧ h = []) := by
  (refine fcall_of mixed Try.func45 rfl (by decide) (hs := {}) ?k (ac := ?ac) ?c (rs := ?rs) ?r ?l ?H; (case k => kernel_rfl); (case c => (conv => (lhs; cbv))); (case r => (conv => (lhs; cbv))); (case l => exact Nat.le_of_ble_eq_true rfl))
  (repeat' ((try (conv => whnf)); first | (with_reducible first | refine FCond.tA ?_ | refine FCond.fA ?_) | ((with_reducible refine FCond.i (fun hq => ?_) (fun hq => ?_)) <;> (try simp only [zA, zE, zD, zJ, zB, zI, Int.not_le, Int.not_lt] at hq)) | (with_reducible first | refine Fits.in64 (by omega) ?_ | refine FIdx.nat (by omega) ?_ | refine FIdx.int (by omega) ?_ | refine FTo.nat (by omega) ?_ | refine FTo.int (by omega) ?_) | ((with_reducible refine Need.mk ?_ ?_); focus exact needA) | (with_reducible refine FApp.grow ?_) | (refine FCall.pure (or2_ok (a - c) (b - d)) ⟨Ln.sl _ _ _ _ _ _ _ (fun h => h) (fun k hk o ho => by have : k = 0 ∨ k = 1 := (by omega); obtain rfl : o = 0 := (by omega); rcases this with rfl | rfl <;> rfl), True.intro⟩ rfl ?_) | (with_reducible refine FOr.pub ?_)))
  all_goals (try (conv => whnf))
  all_goals ((refine ⟨⟨_, [], [], Cut.nil _, Ln.sameB _ rfl, ?_, rfl⟩⟩); rfl)
theorem ordW_ok (a b c d : Int) (h : (0 ≤ a ∧ a ≤ 1000) ∧ (0 ≤ b ∧ b ≤ 1000000) ∧ (0 ≤ c ∧ c ≤ 1000) ∧ (0 ≤ d ∧ d ≤ 1000000)) : ACall Try.prog 47 [prA a b, prA c d] [] (fun r h => r = AI (ordI true a b c d) ∧ h = []) := by
  (refine fcall_of mixed Try.func47 rfl (by decide) (hs := {}) ?k (ac := ?ac) ?c (rs := ?rs) ?r ?l ?H; (case k => kernel_rfl); (case c => (conv => (lhs; cbv))); (case r => (conv => (lhs; cbv))); (case l => exact Nat.le_of_ble_eq_true rfl))
  (repeat' ((try (conv => whnf)); first | (with_reducible first | refine FCond.tA ?_ | refine FCond.fA ?_) | ((with_reducible refine FCond.i (fun hq => ?_) (fun hq => ?_)) <;> (try simp only [zA, zE, zD, zJ, zB, zI, Int.not_le, Int.not_lt] at hq)) | (with_reducible first | refine Fits.in64 (by omega) ?_ | refine FIdx.nat (by omega) ?_ | refine FIdx.int (by omega) ?_ | refine FTo.nat (by omega) ?_ | refine FTo.int (by omega) ?_) | ((with_reducible refine Need.mk ?_ ?_); focus exact needA) | (with_reducible refine FApp.grow ?_) | (refine FCall.pure (or2_ok (b - d) (a - c)) ⟨Ln.sl _ _ _ _ _ _ _ (fun h => h) (fun k hk o ho => by have : k = 0 ∨ k = 1 := (by omega); obtain rfl : o = 0 := (by omega); rcases this with rfl | rfl <;> rfl), True.intro⟩ rfl ?_) | (with_reducible refine FOr.pub ?_)))
  all_goals (try (conv => whnf))
  all_goals ((refine ⟨⟨_, [], [], Cut.nil _, Ln.sameB _ rfl, ?_, rfl⟩⟩); rfl)
theorem best_ok (fo : FuncId) (w : Bool) (hord : ∀ (a b c d : Int), ((0 ≤ a ∧ a ≤ 1000) ∧ (0 ≤ b ∧ b ≤ 1000000) ∧ (0 ≤ c ∧ c ≤ 1000) ∧ (0 ≤ d ∧ d ≤ 1000000)) → ACall Try.prog fo [prA a b, prA c d] [] (fun r h => r = AI (ordI w a b c d) ∧ h = [])) (f : ShF) (s : Sheet) (hn : Near s) (h3 : s.ok = true → s.R ≤ 3) : ACall Try.prog 44 [aSh f s, .fn fo 0 (ofL [])] [] (fun r h => r = bestV w s ∧ h = []) := by
  have cK := check_ok f s hn
  (refine fcall_of mixed Try.func44 rfl (by decide) (hs := { ord := [(16, [(0, []), (1, []), (2, []), (3, []), (4, []), (6, []), (9, []), (10, []), (11, []), (12, []), (13, []), (14, []), (15, []), (16, []), (5, [12, 16]), (7, [12, 16]), (8, [12, 16]), (17, []), (18, []), (19, []), (20, []), (21, [])])], pub := [15] }) ?k (ac := ?ac) ?c (rs := ?rs) ?r ?l ?H; (case k => kernel_rfl); (case c => (conv => (lhs; cbv))); (case r => (conv => (lhs; cbv))); (case l => exact Nat.le_of_ble_eq_true rfl))
  cases hk : s.ok
  · rw [check_80 hk] at cK
    rw [show bestV w s = .tup 2 (ofL [nilS, AI 80]) from by unfold bestV; rw [hk]; rfl]
    (repeat' ((try (conv => whnf)); first | (with_reducible first | refine FCond.tA ?_ | refine FCond.fA ?_) | ((with_reducible refine FCond.i (fun hq => ?_) (fun hq => ?_)) <;> (try simp only [zA, zE, zD, zJ, zB, zI, Int.not_le, Int.not_lt] at hq)) | (with_reducible first | refine Fits.in64 (by omega) ?_ | refine FIdx.nat (by omega) ?_ | refine FIdx.int (by omega) ?_ | refine FTo.nat (by omega) ?_ | refine FTo.int (by omega) ?_) | ((with_reducible refine Need.mk ?_ ?_); focus exact needA) | (with_reducible refine FApp.grow ?_) | (refine FCall.pure (cK) ⟨Ln.sameB _ rfl, True.intro⟩ rfl ?_) | (with_reducible refine FOr.pub ?_)))
    all_goals (try (conv => whnf))
    all_goals ((refine ⟨⟨_, [], [], Cut.nil _, Ln.sameB _ rfl, ?_, rfl⟩⟩); rfl)
  rw [check_ok' hk] at cK
  have hs := sheet_d hk
  have hR3 := h3 hk
  have r1 := hs.r1
  have c4 := hs.c4
  have c1 := hs.c1
  have hR : s.R = s.amounts.length := rfl
  have hC : s.C = (s.amounts.getD 0 []).length := rfl
  have hC2 : (s.amounts.getD (Int.toNat 0) []).length = s.C := rfl
  have hCR : s.C * s.R ≤ 12 := Nat.le_trans (Nat.mul_le_mul c4 hR3) (by decide)
  have hT := Nat.pow_le_pow_right (show 0 < 2 by decide) hCR
  have hTp := Nat.two_pow_pos (s.C * s.R)
  have hCi : (s.C : Int) * (s.amounts.length : Int) = ((s.C * s.R : Nat) : Int) := by rw [hR, Int.natCast_mul]
  rw [show bestV w s = (match bestO w s with | none => AV.tup 2 (ofL [nilS, AI 3]) | some m => AV.tup 2 (ofL [aInts false false m, AI 0])) from by unfold bestV; rw [hk]; rfl]
  (repeat' ((try (conv => whnf)); first | (with_reducible first | refine FCond.tA ?_ | refine FCond.fA ?_) | ((with_reducible refine FCond.i (fun hq => ?_) (fun hq => ?_)) <;> (try simp only [zA, zE, zD, zJ, zB, zI, Int.not_le, Int.not_lt] at hq)) | (with_reducible first | refine Fits.in64 (by omega) ?_ | refine FIdx.nat (by omega) ?_ | refine FIdx.int (by omega) ?_ | refine FTo.nat (by omega) ?_ | refine FTo.int (by omega) ?_) | ((with_reducible refine Need.mk ?_ ?_); focus exact needA) | (with_reducible refine FApp.grow ?_) | (refine FCall.pure (cK) ⟨Ln.sameB _ rfl, True.intro⟩ rfl ?_) | (rw [hC2, hCi]; refine Fits.in64 (by omega) ?_) | (refine FBit.shl1 (j := s.C * s.R) rfl (by omega) ?_) | (with_reducible refine FOr.pub ?_)))
  all_goals (try (conv => whnf))
  refine FLoop.of (ACalls.mono _) (X := Nat) (fun n => [(1, .fn fo 0 (ofL [])), (2, .ptr 0 0), (7, fndV f s (bstS w s n)), (8, AI s.C), (27, AI (2 ^ (s.C * s.R) : Nat)), (28, AI n)]) (fun n => [.box 3 (cSh f s)]) (fun n => n ≤ 2 ^ (s.C * s.R)) (fun n => 2 ^ (s.C * s.R) - n) 0 ⟨Nat.zero_le _, [0], Cut.A, allA⟩ ?_
  intro n hn'
  have hfp : (fndV f s (bstS w s n)).pureB = true := by cases bstS w s n <;> rfl
  by_cases hlt : n < 2 ^ (s.C * s.R)
  · have hmk := mkS_ok s n
    have hml := mkS_len s n
    have cV := covers_ok f s hs false false (mkS s n) hmk
    have cL := lone_ok f s hs false false (mkS s n) hmk
    have cP := price_ok f s hs false false (mkS s n) hmk
    have cS := safeP_ok f s hs hR3 false false (mkS s n) hmk
    (repeat' ((try (conv => whnf)); first | (with_reducible first | refine FCond.tA ?_ | refine FCond.fA ?_) | ((with_reducible refine FCond.i (fun hq => ?_) (fun hq => ?_)) <;> (try simp only [zA, zE, zD, zJ, zB, zI, Int.not_le, Int.not_lt] at hq)) | (with_reducible first | refine Fits.in64 (by omega) ?_ | refine FIdx.nat (by omega) ?_ | refine FIdx.int (by omega) ?_ | refine FTo.nat (by omega) ?_ | refine FTo.int (by omega) ?_) | ((with_reducible refine Need.mk ?_ ?_); focus exact needA) | (with_reducible refine FApp.grow ?_) | (with_reducible refine FOr.pub ?_)))
    all_goals (try (conv => whnf))
    refine FLoop.of (ACalls.mono _) (X := Nat) (fun r => [(1, .fn fo 0 (ofL [])), (2, .ptr 0 0), (7, fndV f s (bstS w s n)), (8, AI s.C), (9, AI n), (10, .ptr 1 0), (27, AI (2 ^ (s.C * s.R) : Nat)), (28, AI n), (36, AI s.R), (37, AI r)]) (fun r => .box 3 (cSh f s) :: .box 4 (ofL [aRows f.za f.ea f.rz f.re s.amounts, aInts f.zs f.es s.secret, AI s.gap, mskV r]) :: mskB (mkS s n) r) (fun r => r ≤ s.R) (fun r => s.R - r) 0 ⟨Nat.zero_le _, [0, 1], Cut.A, allA⟩ ?_
    intro r hr
    by_cases hltr : r < s.R
    · have hcr : (s.C : Int) * (r : Int) = ((s.C * r : Nat) : Int) := by rw [Int.natCast_mul]
      have hcr2 : s.C * r ≤ 12 := Nat.le_trans (Nat.mul_le_mul c4 (show r ≤ 3 by omega)) (by decide)
      have hp1 : ((2 ^ s.C : Nat) : Int) - 1 = ((2 ^ s.C - 1 : Nat) : Int) := by have := Nat.two_pow_pos s.C; omega
      have hpc := Nat.pow_le_pow_right (show 0 < 2 by decide) c4
      have hsh := Nat.shiftRight_le n (s.C * r)
      have hget := mkS_get (n := n) hltr
      rcases r with _ | r
      · (repeat' ((try (conv => whnf)); first | (with_reducible first | refine FCond.tA ?_ | refine FCond.fA ?_) | ((with_reducible refine FCond.i (fun hq => ?_) (fun hq => ?_)) <;> (try simp only [zA, zE, zD, zJ, zB, zI, Int.not_le, Int.not_lt] at hq)) | (with_reducible first | refine Fits.in64 (by omega) ?_ | refine FIdx.nat (by omega) ?_ | refine FIdx.int (by omega) ?_ | refine FTo.nat (by omega) ?_ | refine FTo.int (by omega) ?_) | ((with_reducible refine Need.mk ?_ ?_); focus exact needA) | (with_reducible refine FApp.grow ?_) | (rw [hcr]; refine Fits.in64 (by omega) ?_) | (refine FBit.shrN rfl (by omega) ?_) | (refine FBit.shl1 (j := s.C) rfl (by omega) ?_) | (refine FBit.andI (a := n >>> (s.C * 0)) (b := 2 ^ s.C - 1) rfl rfl hp1 (by omega) (by omega) ?_) | (with_reducible refine FOr.pub ?_)))
        all_goals (try (conv => whnf))
        exact ⟨⟨0 + 1, hltr, by show s.R - (0 + 1) < s.R - 0; omega, [0, 1, 2], Cut.of (Nat.le_of_ble_eq_true rfl) rfl rfl (CutL.turned rfl LnB.A (CutL.turned rfl (LnB.boxN ⟨⟨⟨⟨True.intro, Ln.A⟩, Ln.A⟩, Ln.A⟩, Ln.ownE rfl rfl⟩) (CutL.turned rfl (LnB.rowE (Nat.le_refl _) fun k hk o ho => by obtain rfl : k = 0 := Nat.lt_one_iff.1 hk; obtain rfl : o = 0 := Nat.lt_one_iff.1 ho; exact int_eq hget) CutL.done))), allA⟩⟩
      · (repeat' ((try (conv => whnf)); first | (with_reducible first | refine FCond.tA ?_ | refine FCond.fA ?_) | ((with_reducible refine FCond.i (fun hq => ?_) (fun hq => ?_)) <;> (try simp only [zA, zE, zD, zJ, zB, zI, Int.not_le, Int.not_lt] at hq)) | (with_reducible first | refine Fits.in64 (by omega) ?_ | refine FIdx.nat (by omega) ?_ | refine FIdx.int (by omega) ?_ | refine FTo.nat (by omega) ?_ | refine FTo.int (by omega) ?_) | ((with_reducible refine Need.mk ?_ ?_); focus exact needA) | (with_reducible refine FApp.grow ?_) | (rw [hcr]; refine Fits.in64 (by omega) ?_) | (refine FBit.shrN rfl (by omega) ?_) | (refine FBit.shl1 (j := s.C) rfl (by omega) ?_) | (refine FBit.andI (a := n >>> (s.C * (r + 1))) (b := 2 ^ s.C - 1) rfl rfl hp1 (by omega) (by omega) ?_) | (with_reducible refine FOr.pub ?_)))
        all_goals (try (conv => whnf))
        exact ⟨⟨r + 1 + 1, hltr, by show s.R - (r + 1 + 1) < s.R - (r + 1); omega, [0, 1, 3], Cut.of (Nat.le_of_ble_eq_true rfl) rfl rfl (CutL.turned rfl LnB.A (CutL.turned rfl (LnB.boxN ⟨⟨⟨⟨True.intro, Ln.A⟩, Ln.A⟩, Ln.A⟩, Ln.ownE rfl rfl⟩) (CutL.turned rfl (LnB.app (sz := 1) (fun k hk o ho => rfl) (fun o ho => by obtain rfl : o = 0 := Nat.lt_one_iff.1 ho; exact int_eq hget)) CutL.done))), allA⟩⟩
    · obtain ⟨R', hR'⟩ : ∃ R', s.R = R' + 1 := ⟨s.R - 1, by omega⟩
      have hrE : r = R' + 1 := by omega
      subst hrE
      (repeat' ((try (conv => whnf)); first | (with_reducible first | refine FCond.tA ?_ | refine FCond.fA ?_) | ((with_reducible refine FCond.i (fun hq => ?_) (fun hq => ?_)) <;> (try simp only [zA, zE, zD, zJ, zB, zI, Int.not_le, Int.not_lt] at hq)) | (with_reducible first | refine Fits.in64 (by omega) ?_ | refine FIdx.nat (by omega) ?_ | refine FIdx.int (by omega) ?_ | refine FTo.nat (by omega) ?_ | refine FTo.int (by omega) ?_) | ((with_reducible refine Need.mk ?_ ?_); focus exact needA) | (with_reducible refine FApp.grow ?_) | (with_reducible refine FOr.pub ?_)))
      all_goals (try (conv => whnf))
      refine FWk.of [(1, .fn fo 0 (ofL [])), (2, .ptr 0 0), (7, fndV f s (bstS w s n)), (8, AI s.C), (10, iSt f s false false (mkS s n)), (27, AI (2 ^ (s.C * s.R) : Nat)), (28, AI n)] [.box 3 (cSh f s)] [0] Cut.A ⟨Ln.A, Ln.A, Ln.A, Ln.A, Ln.boxP (goneB rfl) rfl ⟨⟨⟨⟨True.intro, Ln.A⟩, Ln.A⟩, Ln.A⟩, Ln.pubE (goneB rfl) rfl (Nat.le_refl _) (by rw [hml]; exact hR'.symm) (fun _ _ _ _ => rfl)⟩ rfl, Ln.A, Ln.A, True.intro⟩ ?_
      cases q1 : coversS s (mkS s n)
      · rw [q1] at cV
        have e1 : bstS w s (n + 1) = bstS w s n := bst_no (by unfold takeS; rw [q1]; rfl)
        (repeat' ((try (conv => whnf)); first | (with_reducible first | refine FCond.tA ?_ | refine FCond.fA ?_) | ((with_reducible refine FCond.i (fun hq => ?_) (fun hq => ?_)) <;> (try simp only [zA, zE, zD, zJ, zB, zI, Int.not_le, Int.not_lt] at hq)) | (with_reducible first | refine Fits.in64 (by omega) ?_ | refine FIdx.nat (by omega) ?_ | refine FIdx.int (by omega) ?_ | refine FTo.nat (by omega) ?_ | refine FTo.int (by omega) ?_) | ((with_reducible refine Need.mk ?_ ?_); focus exact needA) | (with_reducible refine FApp.grow ?_) | (refine FCall.pure (cV) ⟨Ln.sameB _ rfl, True.intro⟩ rfl ?_) | (with_reducible refine FOr.pub ?_)))
        all_goals (try (conv => whnf))
        exact ⟨⟨n + 1, hlt, by show _ - (n + 1) < _ - n; omega, [0], Cut.A, ⟨Ln.A, Ln.A, by rw [e1]; exact Ln.A, Ln.A, Ln.A, Ln.A, True.intro⟩⟩⟩
      rw [q1] at cV
      rcases Bool.eq_false_or_eq_true (loneS s (mkS s n)) with q2 | q2
      · rw [q2] at cL
        have e1 : bstS w s (n + 1) = bstS w s n := bst_no (by unfold takeS; rw [q1, q2]; rfl)
        (repeat' ((try (conv => whnf)); first | (with_reducible first | refine FCond.tA ?_ | refine FCond.fA ?_) | ((with_reducible refine FCond.i (fun hq => ?_) (fun hq => ?_)) <;> (try simp only [zA, zE, zD, zJ, zB, zI, Int.not_le, Int.not_lt] at hq)) | (with_reducible first | refine Fits.in64 (by omega) ?_ | refine FIdx.nat (by omega) ?_ | refine FIdx.int (by omega) ?_ | refine FTo.nat (by omega) ?_ | refine FTo.int (by omega) ?_) | ((with_reducible refine Need.mk ?_ ?_); focus exact needA) | (with_reducible refine FApp.grow ?_) | (refine FCall.pure (cV) ⟨Ln.sameB _ rfl, True.intro⟩ rfl ?_) | (refine FCall.pure (cL) ⟨Ln.sameB _ rfl, True.intro⟩ rfl ?_) | (with_reducible refine FOr.pub ?_)))
        all_goals (try (conv => whnf))
        exact ⟨⟨n + 1, hlt, by show _ - (n + 1) < _ - n; omega, [0], Cut.A, ⟨Ln.A, Ln.A, by rw [e1]; exact Ln.A, Ln.A, Ln.A, Ln.A, True.intro⟩⟩⟩
      rw [q2] at cL
      have NO : ∀ {X : Prop}, (bstS w s (n + 1) = bstS w s n → X) → takeS w s (mkS s n) (bstS w s n) = false → X := fun h k => h (bst_no k)
      cases hb : bstS w s n with
      | none =>
        cases q3 : safeS s (mkS s n)
        · rw [q3] at cS
          have e1 : bstS w s (n + 1) = none := by rw [bst_no (by unfold takeS; rw [q1, q2, q3]; simp), hb]
          (repeat' ((try (conv => whnf)); first | (with_reducible first | refine FCond.tA ?_ | refine FCond.fA ?_) | ((with_reducible refine FCond.i (fun hq => ?_) (fun hq => ?_)) <;> (try simp only [zA, zE, zD, zJ, zB, zI, Int.not_le, Int.not_lt] at hq)) | (with_reducible first | refine Fits.in64 (by omega) ?_ | refine FIdx.nat (by omega) ?_ | refine FIdx.int (by omega) ?_ | refine FTo.nat (by omega) ?_ | refine FTo.int (by omega) ?_) | ((with_reducible refine Need.mk ?_ ?_); focus exact needA) | (with_reducible refine FApp.grow ?_) | (refine FCall.pure (cV) ⟨Ln.sameB _ rfl, True.intro⟩ rfl ?_) | (refine FCall.pure (cL) ⟨Ln.sameB _ rfl, True.intro⟩ rfl ?_) | (refine FCall.pure (cS) ⟨Ln.sameB _ rfl, True.intro⟩ rfl ?_) | (with_reducible refine FOr.pub ?_)))
          all_goals (try (conv => whnf))
          exact ⟨⟨n + 1, hlt, by show _ - (n + 1) < _ - n; omega, [0], Cut.A, ⟨Ln.A, Ln.A, by rw [e1]; exact Ln.A, Ln.A, Ln.A, Ln.A, True.intro⟩⟩⟩
        · rw [q3] at cS
          have e1 : bstS w s (n + 1) = some (mkS s n) := bst_yes (by unfold takeS; rw [q1, q2, q3, hb]; rfl)
          (repeat' ((try (conv => whnf)); first | (with_reducible first | refine FCond.tA ?_ | refine FCond.fA ?_) | ((with_reducible refine FCond.i (fun hq => ?_) (fun hq => ?_)) <;> (try simp only [zA, zE, zD, zJ, zB, zI, Int.not_le, Int.not_lt] at hq)) | (with_reducible first | refine Fits.in64 (by omega) ?_ | refine FIdx.nat (by omega) ?_ | refine FIdx.int (by omega) ?_ | refine FTo.nat (by omega) ?_ | refine FTo.int (by omega) ?_) | ((with_reducible refine Need.mk ?_ ?_); focus exact needA) | (with_reducible refine FApp.grow ?_) | (refine FCall.pure (cV) ⟨Ln.sameB _ rfl, True.intro⟩ rfl ?_) | (refine FCall.pure (cL) ⟨Ln.sameB _ rfl, True.intro⟩ rfl ?_) | (refine FCall.pure (cS) ⟨Ln.sameB _ rfl, True.intro⟩ rfl ?_) | (with_reducible refine FOr.pub ?_)))
          all_goals (try (conv => whnf))
          exact ⟨⟨n + 1, hlt, by show _ - (n + 1) < _ - n; omega, [0], Cut.A, ⟨Ln.A, Ln.A, by rw [e1]; exact Ln.A, Ln.A, Ln.A, Ln.A, True.intro⟩⟩⟩
      | some b =>
        obtain ⟨k, hkn, rfl⟩ := bstS_mk hb
        have hmk2 := mkS_ok s k
        have cP2 := price_ok f s hs false false (mkS s k) hmk2
        have b1 := manyTo_bd (mkS s n) (show s.R ≤ 4 by omega)
        have b2 := leftTo_bd hs (mkS s n) (Nat.le_refl s.R)
        have b3 := manyTo_bd (mkS s k) (show s.R ≤ 4 by omega)
        have b4 := leftTo_bd hs (mkS s k) (Nat.le_refl s.R)
        have cF := hord (manyTo (mkS s n) s.R) (leftTo s (mkS s n) s.R) (manyTo (mkS s k) s.R) (leftTo s (mkS s k) s.R) (by omega)
        have cX := compare_ok false false false false (mkS s n) (mkS s k) (by rw [mkS_len, mkS_len]) (by rw [mkS_len]; omega)
        have hor : ∀ {σ : Nat → Nat → Prop} {Bp : Nat → Prop} {H : List AB} {z : Nat → Nat → AV}, Ln σ Bp H (.sl false true 2 1 (bslC z [(0, AI (ordI w (manyTo (mkS s n) s.R) (leftTo s (mkS s n) s.R) (manyTo (mkS s k) s.R) (leftTo s (mkS s k) s.R))), (1, AI (lexK (mkS s n) (mkS s k) (mkS s n).length 0))])) (.sl false true 2 1 (fun j _ => AI (orL (ordI w (manyTo (mkS s n) s.R) (leftTo s (mkS s n) s.R) (manyTo (mkS s k) s.R) (leftTo s (mkS s k) s.R)) (lexK (mkS s n) (mkS s k) (mkS s n).length 0) j))) := Ln.sl _ _ _ _ _ _ _ (fun h => h) (fun j hj o ho => by
          have : j = 0 ∨ j = 1 := by omega
          obtain rfl : o = 0 := by omega
          rcases this with rfl | rfl <;> rfl)
        have cO := or2_ok (ordI w (manyTo (mkS s n) s.R) (leftTo s (mkS s n) s.R) (manyTo (mkS s k) s.R) (leftTo s (mkS s k) s.R)) (lexK (mkS s n) (mkS s k) (mkS s n).length 0)
        rw [show orI (ordI w (manyTo (mkS s n) s.R) (leftTo s (mkS s n) s.R) (manyTo (mkS s k) s.R) (leftTo s (mkS s k) s.R)) (lexK (mkS s n) (mkS s k) (mkS s n).length 0) = cmpM w s (mkS s n) (mkS s k) from rfl] at cO
        by_cases hc : cmpM w s (mkS s n) (mkS s k) < 0
        · cases q3 : safeS s (mkS s n)
          · rw [q3] at cS
            have e1 : bstS w s (n + 1) = some (mkS s k) := by rw [bst_no (by unfold takeS; rw [q3]; simp), hb]
            (repeat' ((try (conv => whnf)); first | (with_reducible first | refine FCond.tA ?_ | refine FCond.fA ?_) | ((with_reducible refine FCond.i (fun hq => ?_) (fun hq => ?_)) <;> (try simp only [zA, zE, zD, zJ, zB, zI, Int.not_le, Int.not_lt] at hq)) | (with_reducible first | refine Fits.in64 (by omega) ?_ | refine FIdx.nat (by omega) ?_ | refine FIdx.int (by omega) ?_ | refine FTo.nat (by omega) ?_ | refine FTo.int (by omega) ?_) | ((with_reducible refine Need.mk ?_ ?_); focus exact needA) | (with_reducible refine FApp.grow ?_) | (refine FCall.pure (cV) ⟨Ln.sameB _ rfl, True.intro⟩ rfl ?_) | (refine FCall.pure (cL) ⟨Ln.sameB _ rfl, True.intro⟩ rfl ?_) | (refine FCall.pure (cP) ⟨Ln.sameB _ rfl, True.intro⟩ rfl ?_) | (refine FCall.pure (cP2) ⟨Ln.sameB _ rfl, True.intro⟩ rfl ?_) | (refine FCall.pure (cF) ⟨Ln.sameB _ rfl, Ln.sameB _ rfl, True.intro⟩ rfl ?_) | (refine FCall.pure (cX) ⟨Ln.sameB _ rfl, Ln.sameB _ rfl, True.intro⟩ rfl ?_) | (refine FCall.pure cO ⟨hor, True.intro⟩ rfl ?_) | (refine FCall.pure (cS) ⟨Ln.sameB _ rfl, True.intro⟩ rfl ?_) | (with_reducible refine FOr.pub ?_)))
            all_goals (try (conv => whnf))
            exact ⟨⟨n + 1, hlt, by show _ - (n + 1) < _ - n; omega, [0], Cut.A, ⟨Ln.A, Ln.A, by rw [e1]; exact Ln.A, Ln.A, Ln.A, Ln.A, True.intro⟩⟩⟩
          · rw [q3] at cS
            have e1 : bstS w s (n + 1) = some (mkS s n) := bst_yes (by unfold takeS; rw [q1, q2, q3, hb]; simp; exact hc)
            (repeat' ((try (conv => whnf)); first | (with_reducible first | refine FCond.tA ?_ | refine FCond.fA ?_) | ((with_reducible refine FCond.i (fun hq => ?_) (fun hq => ?_)) <;> (try simp only [zA, zE, zD, zJ, zB, zI, Int.not_le, Int.not_lt] at hq)) | (with_reducible first | refine Fits.in64 (by omega) ?_ | refine FIdx.nat (by omega) ?_ | refine FIdx.int (by omega) ?_ | refine FTo.nat (by omega) ?_ | refine FTo.int (by omega) ?_) | ((with_reducible refine Need.mk ?_ ?_); focus exact needA) | (with_reducible refine FApp.grow ?_) | (refine FCall.pure (cV) ⟨Ln.sameB _ rfl, True.intro⟩ rfl ?_) | (refine FCall.pure (cL) ⟨Ln.sameB _ rfl, True.intro⟩ rfl ?_) | (refine FCall.pure (cP) ⟨Ln.sameB _ rfl, True.intro⟩ rfl ?_) | (refine FCall.pure (cP2) ⟨Ln.sameB _ rfl, True.intro⟩ rfl ?_) | (refine FCall.pure (cF) ⟨Ln.sameB _ rfl, Ln.sameB _ rfl, True.intro⟩ rfl ?_) | (refine FCall.pure (cX) ⟨Ln.sameB _ rfl, Ln.sameB _ rfl, True.intro⟩ rfl ?_) | (refine FCall.pure cO ⟨hor, True.intro⟩ rfl ?_) | (refine FCall.pure (cS) ⟨Ln.sameB _ rfl, True.intro⟩ rfl ?_) | (with_reducible refine FOr.pub ?_)))
            all_goals (try (conv => whnf))
            exact ⟨⟨n + 1, hlt, by show _ - (n + 1) < _ - n; omega, [0], Cut.A, ⟨Ln.A, Ln.A, by rw [e1]; exact Ln.A, Ln.A, Ln.A, Ln.A, True.intro⟩⟩⟩
        · have e1 : bstS w s (n + 1) = some (mkS s k) := by rw [bst_no (by unfold takeS; rw [hb]; simp [hc]), hb]
          (repeat' ((try (conv => whnf)); first | (with_reducible first | refine FCond.tA ?_ | refine FCond.fA ?_) | ((with_reducible refine FCond.i (fun hq => ?_) (fun hq => ?_)) <;> (try simp only [zA, zE, zD, zJ, zB, zI, Int.not_le, Int.not_lt] at hq)) | (with_reducible first | refine Fits.in64 (by omega) ?_ | refine FIdx.nat (by omega) ?_ | refine FIdx.int (by omega) ?_ | refine FTo.nat (by omega) ?_ | refine FTo.int (by omega) ?_) | ((with_reducible refine Need.mk ?_ ?_); focus exact needA) | (with_reducible refine FApp.grow ?_) | (refine FCall.pure (cV) ⟨Ln.sameB _ rfl, True.intro⟩ rfl ?_) | (refine FCall.pure (cL) ⟨Ln.sameB _ rfl, True.intro⟩ rfl ?_) | (refine FCall.pure (cP) ⟨Ln.sameB _ rfl, True.intro⟩ rfl ?_) | (refine FCall.pure (cP2) ⟨Ln.sameB _ rfl, True.intro⟩ rfl ?_) | (refine FCall.pure (cF) ⟨Ln.sameB _ rfl, Ln.sameB _ rfl, True.intro⟩ rfl ?_) | (refine FCall.pure (cX) ⟨Ln.sameB _ rfl, Ln.sameB _ rfl, True.intro⟩ rfl ?_) | (refine FCall.pure cO ⟨hor, True.intro⟩ rfl ?_) | (with_reducible refine FOr.pub ?_)))
          all_goals (try (conv => whnf))
          exact ⟨⟨n + 1, hlt, by show _ - (n + 1) < _ - n; omega, [0], Cut.A, ⟨Ln.A, Ln.A, by rw [e1]; exact Ln.A, Ln.A, Ln.A, Ln.A, True.intro⟩⟩⟩
  · have hnE : 2 ^ (s.C * s.R) = n := by omega
    have hbo : bestO w s = bstS w s n := by unfold bestO; rw [hnE]
    rw [hbo]
    cases hb : bstS w s n with
    | none =>
      (repeat' ((try (conv => whnf)); first | (with_reducible first | refine FCond.tA ?_ | refine FCond.fA ?_) | ((with_reducible refine FCond.i (fun hq => ?_) (fun hq => ?_)) <;> (try simp only [zA, zE, zD, zJ, zB, zI, Int.not_le, Int.not_lt] at hq)) | (with_reducible first | refine Fits.in64 (by omega) ?_ | refine FIdx.nat (by omega) ?_ | refine FIdx.int (by omega) ?_ | refine FTo.nat (by omega) ?_ | refine FTo.int (by omega) ?_) | ((with_reducible refine Need.mk ?_ ?_); focus exact needA) | (with_reducible refine FApp.grow ?_) | (with_reducible refine FOr.pub ?_)))
      all_goals (try (conv => whnf))
      (refine ⟨⟨_, [], [], Cut.nil _, Ln.sameB _ rfl, ?_, rfl⟩⟩)
      rfl
    | some b =>
      (repeat' ((try (conv => whnf)); first | (with_reducible first | refine FCond.tA ?_ | refine FCond.fA ?_) | ((with_reducible refine FCond.i (fun hq => ?_) (fun hq => ?_)) <;> (try simp only [zA, zE, zD, zJ, zB, zI, Int.not_le, Int.not_lt] at hq)) | (with_reducible first | refine Fits.in64 (by omega) ?_ | refine FIdx.nat (by omega) ?_ | refine FIdx.int (by omega) ?_ | refine FTo.nat (by omega) ?_ | refine FTo.int (by omega) ?_) | ((with_reducible refine Need.mk ?_ ?_); focus exact needA) | (with_reducible refine FApp.grow ?_) | (with_reducible refine FOr.pub ?_)))
      all_goals (try (conv => whnf))
      (refine ⟨⟨_, [], [], Cut.nil _, Ln.sameB _ rfl, ?_, rfl⟩⟩)
      rfl
theorem least_ok (f : ShF) (s : Sheet) (hn : Near s) (h3 : s.ok = true → s.R ≤ 3) : ACall Try.prog 16 [aSh f s] [] (fun r h => r = bestV false s ∧ h = []) := by
  have cB := best_ok 45 false ordL_ok f s hn h3
  unfold bestV at cB ⊢
  (refine fcall_of mixed Try.func16 rfl (by decide) (hs := {}) ?k (ac := ?ac) ?c (rs := ?rs) ?r ?l ?H; (case k => kernel_rfl); (case c => (conv => (lhs; cbv))); (case r => (conv => (lhs; cbv))); (case l => exact Nat.le_of_ble_eq_true rfl))
  cases hk : s.ok
  · rw [hk, if_neg (by decide)] at cB
    (repeat' ((try (conv => whnf)); first | (with_reducible first | refine FCond.tA ?_ | refine FCond.fA ?_) | ((with_reducible refine FCond.i (fun hq => ?_) (fun hq => ?_)) <;> (try simp only [zA, zE, zD, zJ, zB, zI, Int.not_le, Int.not_lt] at hq)) | (with_reducible first | refine Fits.in64 (by omega) ?_ | refine FIdx.nat (by omega) ?_ | refine FIdx.int (by omega) ?_ | refine FTo.nat (by omega) ?_ | refine FTo.int (by omega) ?_) | ((with_reducible refine Need.mk ?_ ?_); focus exact needA) | (with_reducible refine FApp.grow ?_) | (refine FCall.pure (cB) ⟨Ln.sameB _ rfl, Ln.sameB _ rfl, True.intro⟩ rfl ?_) | (with_reducible refine FOr.pub ?_)))
    all_goals (try (conv => whnf))
    all_goals ((refine ⟨⟨_, [], [], Cut.nil _, Ln.sameB _ rfl, ?_, rfl⟩⟩); rfl)
  · rw [hk, if_pos rfl] at cB
    cases hb : bestO false s with
    | none =>
      rw [hb] at cB
      (repeat' ((try (conv => whnf)); first | (with_reducible first | refine FCond.tA ?_ | refine FCond.fA ?_) | ((with_reducible refine FCond.i (fun hq => ?_) (fun hq => ?_)) <;> (try simp only [zA, zE, zD, zJ, zB, zI, Int.not_le, Int.not_lt] at hq)) | (with_reducible first | refine Fits.in64 (by omega) ?_ | refine FIdx.nat (by omega) ?_ | refine FIdx.int (by omega) ?_ | refine FTo.nat (by omega) ?_ | refine FTo.int (by omega) ?_) | ((with_reducible refine Need.mk ?_ ?_); focus exact needA) | (with_reducible refine FApp.grow ?_) | (refine FCall.pure (cB) ⟨Ln.sameB _ rfl, Ln.sameB _ rfl, True.intro⟩ rfl ?_) | (with_reducible refine FOr.pub ?_)))
      all_goals (try (conv => whnf))
      all_goals ((refine ⟨⟨_, [], [], Cut.nil _, Ln.sameB _ rfl, ?_, rfl⟩⟩); rfl)
    | some b =>
      rw [hb] at cB
      (repeat' ((try (conv => whnf)); first | (with_reducible first | refine FCond.tA ?_ | refine FCond.fA ?_) | ((with_reducible refine FCond.i (fun hq => ?_) (fun hq => ?_)) <;> (try simp only [zA, zE, zD, zJ, zB, zI, Int.not_le, Int.not_lt] at hq)) | (with_reducible first | refine Fits.in64 (by omega) ?_ | refine FIdx.nat (by omega) ?_ | refine FIdx.int (by omega) ?_ | refine FTo.nat (by omega) ?_ | refine FTo.int (by omega) ?_) | ((with_reducible refine Need.mk ?_ ?_); focus exact needA) | (with_reducible refine FApp.grow ?_) | (refine FCall.pure (cB) ⟨Ln.sameB _ rfl, Ln.sameB _ rfl, True.intro⟩ rfl ?_) | (with_reducible refine FOr.pub ?_)))
      all_goals (try (conv => whnf))
      all_goals ((refine ⟨⟨_, [], [], Cut.nil _, Ln.sameB _ rfl, ?_, rfl⟩⟩); rfl)
theorem worth_ok (f : ShF) (s : Sheet) (hn : Near s) (h3 : s.ok = true → s.R ≤ 3) : ACall Try.prog 17 [aSh f s] [] (fun r h => r = bestV true s ∧ h = []) := by
  have cB := best_ok 47 true ordW_ok f s hn h3
  unfold bestV at cB ⊢
  (refine fcall_of mixed Try.func17 rfl (by decide) (hs := {}) ?k (ac := ?ac) ?c (rs := ?rs) ?r ?l ?H; (case k => kernel_rfl); (case c => (conv => (lhs; cbv))); (case r => (conv => (lhs; cbv))); (case l => exact Nat.le_of_ble_eq_true rfl))
  cases hk : s.ok
  · rw [hk, if_neg (by decide)] at cB
    (repeat' ((try (conv => whnf)); first | (with_reducible first | refine FCond.tA ?_ | refine FCond.fA ?_) | ((with_reducible refine FCond.i (fun hq => ?_) (fun hq => ?_)) <;> (try simp only [zA, zE, zD, zJ, zB, zI, Int.not_le, Int.not_lt] at hq)) | (with_reducible first | refine Fits.in64 (by omega) ?_ | refine FIdx.nat (by omega) ?_ | refine FIdx.int (by omega) ?_ | refine FTo.nat (by omega) ?_ | refine FTo.int (by omega) ?_) | ((with_reducible refine Need.mk ?_ ?_); focus exact needA) | (with_reducible refine FApp.grow ?_) | (refine FCall.pure (cB) ⟨Ln.sameB _ rfl, Ln.sameB _ rfl, True.intro⟩ rfl ?_) | (with_reducible refine FOr.pub ?_)))
    all_goals (try (conv => whnf))
    all_goals ((refine ⟨⟨_, [], [], Cut.nil _, Ln.sameB _ rfl, ?_, rfl⟩⟩); rfl)
  · rw [hk, if_pos rfl] at cB
    cases hb : bestO true s with
    | none =>
      rw [hb] at cB
      (repeat' ((try (conv => whnf)); first | (with_reducible first | refine FCond.tA ?_ | refine FCond.fA ?_) | ((with_reducible refine FCond.i (fun hq => ?_) (fun hq => ?_)) <;> (try simp only [zA, zE, zD, zJ, zB, zI, Int.not_le, Int.not_lt] at hq)) | (with_reducible first | refine Fits.in64 (by omega) ?_ | refine FIdx.nat (by omega) ?_ | refine FIdx.int (by omega) ?_ | refine FTo.nat (by omega) ?_ | refine FTo.int (by omega) ?_) | ((with_reducible refine Need.mk ?_ ?_); focus exact needA) | (with_reducible refine FApp.grow ?_) | (refine FCall.pure (cB) ⟨Ln.sameB _ rfl, Ln.sameB _ rfl, True.intro⟩ rfl ?_) | (with_reducible refine FOr.pub ?_)))
      all_goals (try (conv => whnf))
      all_goals ((refine ⟨⟨_, [], [], Cut.nil _, Ln.sameB _ rfl, ?_, rfl⟩⟩); rfl)
    | some b =>
      rw [hb] at cB
      (repeat' ((try (conv => whnf)); first | (with_reducible first | refine FCond.tA ?_ | refine FCond.fA ?_) | ((with_reducible refine FCond.i (fun hq => ?_) (fun hq => ?_)) <;> (try simp only [zA, zE, zD, zJ, zB, zI, Int.not_le, Int.not_lt] at hq)) | (with_reducible first | refine Fits.in64 (by omega) ?_ | refine FIdx.nat (by omega) ?_ | refine FIdx.int (by omega) ?_ | refine FTo.nat (by omega) ?_ | refine FTo.int (by omega) ?_) | ((with_reducible refine Need.mk ?_ ?_); focus exact needA) | (with_reducible refine FApp.grow ?_) | (refine FCall.pure (cB) ⟨Ln.sameB _ rfl, Ln.sameB _ rfl, True.intro⟩ rfl ?_) | (with_reducible refine FOr.pub ?_)))
      all_goals (try (conv => whnf))
      all_goals ((refine ⟨⟨_, [], [], Cut.nil _, Ln.sameB _ rfl, ?_, rfl⟩⟩); rfl)
end Go.Proofs.Ytlffjnmbpoemnaa

namespace Go.Proofs.Ytlffjnmbpoemnaa

theorem lexK_trans {a b c : List Int} : ∀ {n k : Nat}, lexK a b n k < 0 → lexK b c n k < 0 → lexK a c n k < 0
  | 0, _, h, _ => by simp [lexK] at h
  | n + 1, k, h1, h2 => by
    simp only [lexK] at h1 h2 ⊢
    by_cases e1 : a.getD k 0 = b.getD k 0
    · rw [if_pos e1] at h1
      by_cases e2 : b.getD k 0 = c.getD k 0
      · rw [if_pos e2] at h2; rw [if_pos (e1.trans e2)]; exact lexK_trans h1 h2
      · rw [if_neg e2] at h2; rw [if_neg (by omega), e1]; exact h2
    · rw [if_neg e1] at h1
      have l1 : a.getD k 0 < b.getD k 0 := by unfold cmpI at h1; split at h1; assumption; split at h1 <;> omega
      by_cases e2 : b.getD k 0 = c.getD k 0
      · rw [if_neg (by omega), ← e2]; exact h1
      · rw [if_neg e2] at h2
        have l2 : b.getD k 0 < c.getD k 0 := by unfold cmpI at h2; split at h2; assumption; split at h2 <;> omega
        rw [if_neg (by omega)]; unfold cmpI; rw [if_pos (by omega)]; decide
def p1 (w : Bool) (s : Sheet) (m : List Int) : Int := if w then leftTo s m s.R else manyTo m s.R
def p2 (w : Bool) (s : Sheet) (m : List Int) : Int := if w then manyTo m s.R else leftTo s m s.R
theorem cmpM_lt {w : Bool} {s : Sheet} {a b : List Int} : cmpM w s a b < 0 ↔ p1 w s a < p1 w s b ∨ (p1 w s a = p1 w s b ∧ (p2 w s a < p2 w s b ∨ (p2 w s a = p2 w s b ∧ lexK a b a.length 0 < 0))) := by
  unfold cmpM ordI orI p1 p2
  cases w
  · simp only [Bool.false_eq_true, if_false]
    split <;> (try split) <;> omega
  · simp only [if_true]
    split <;> (try split) <;> omega
theorem cmpM_trans {w : Bool} {s : Sheet} {a b c : List Int} (hl : a.length = b.length) (h1 : cmpM w s a b < 0) (h2 : cmpM w s b c < 0) : cmpM w s a c < 0 := by
  rw [cmpM_lt] at h1 h2 ⊢
  rcases h1 with h1 | ⟨h1, h1' | ⟨h1', h1''⟩⟩ <;> rcases h2 with h2 | ⟨h2, h2' | ⟨h2', h2''⟩⟩
  any_goals (left; omega)
  any_goals (right; refine ⟨by omega, ?_⟩; left; omega)
  right
  refine ⟨by omega, .inr ⟨by omega, ?_⟩⟩
  rw [← hl] at h2''
  exact lexK_trans h1'' h2''
/-- Masks that the search looks at. -/
noncomputable def goodS (s : Sheet) (m : List Int) : Bool := coversS s m && !loneS s m && safeS s m
theorem bst_inv (w : Bool) (s : Sheet) : ∀ n, match bstS w s n with
    | none => ∀ k, k < n → goodS s (mkS s k) = false
    | some b => goodS s b = true ∧ (∃ k, k < n ∧ b = mkS s k) ∧ ∀ k, k < n → goodS s (mkS s k) = true → ¬ cmpM w s (mkS s k) b < 0
  | 0 => fun k hk => absurd hk (Nat.not_lt_zero k)
  | n + 1 => by
    have ih := bst_inv w s n
    have hgt : ∀ b, takeS w s (mkS s n) b = (goodS s (mkS s n) && (match b with | none => true | some b => decide (cmpM w s (mkS s n) b < 0))) := fun b => by
      unfold takeS goodS
      cases b <;> cases coversS s (mkS s n) <;> cases loneS s (mkS s n) <;> cases safeS s (mkS s n) <;> simp
    cases hb : bstS w s n with
    | none =>
      rw [hb] at ih
      cases hg : goodS s (mkS s n)
      · rw [bst_no (by rw [hgt, hg]; rfl), hb]
        intro k hk
        by_cases e : k = n
        · subst e; exact hg
        · exact ih k (by omega)
      · rw [bst_yes (by rw [hgt, hg, hb]; rfl)]
        refine ⟨hg, ⟨n, Nat.lt_succ_self n, rfl⟩, fun k hk hgk => ?_⟩
        by_cases e : k = n
        · subst e
          rw [cmpM_lt]
          have hirr : ∀ (l : List Int) (n k : Nat), lexK l l n k = 0 := by
            intro l n
            induction n with
            | zero => intro k; rfl
            | succ n ih => intro k; simp only [lexK, if_true]; exact ih _
          rw [hirr]; omega
        · have := ih k (by omega); rw [this] at hgk; cases hgk
    | some b =>
      rw [hb] at ih
      obtain ⟨i1, ⟨k0, hk0, i2⟩, i3⟩ := ih
      cases hg : goodS s (mkS s n)
      · rw [bst_no (by rw [hgt, hg]; rfl), hb]
        refine ⟨i1, ⟨k0, by omega, i2⟩, fun k hk hgk => ?_⟩
        by_cases e : k = n
        · subst e; rw [hg] at hgk; cases hgk
        · exact i3 k (by omega) hgk
      · by_cases hc : cmpM w s (mkS s n) b < 0
        · rw [bst_yes (by rw [hgt, hg, hb]; simpa using hc)]
          refine ⟨hg, ⟨n, Nat.lt_succ_self n, rfl⟩, fun k hk hgk => ?_⟩
          by_cases e : k = n
          · subst e
            intro h
            have hirr : ∀ (l : List Int) (n k : Nat), lexK l l n k = 0 := by
              intro l n
              induction n with
              | zero => intro k; rfl
              | succ n ih => intro k; simp only [lexK, if_true]; exact ih _
            rw [cmpM_lt, hirr] at h; omega
          · intro h
            exact i3 k (by omega) hgk (cmpM_trans (by rw [mkS_len, mkS_len]) h hc)
        · rw [bst_no (by rw [hgt, hg, hb]; simpa using hc), hb]
          refine ⟨i1, ⟨k0, by omega, i2⟩, fun k hk hgk => ?_⟩
          by_cases e : k = n
          · subst e; exact hc
          · exact i3 k (by omega) hgk
/-- The sheet of the examples. -/
def exS : Sheet := ⟨[[20, 50, 10], [8, 19, 22], [17, 32, 12]], [0, 0, 2], 10⟩
def exM : List Int := [0, 3, 3]
theorem exS_ok : exS.ok = true := by decide
theorem ex_pair {r c : Nat} (hr : r < 3) (hc : c < 3) : (r = 0 ∨ r = 1 ∨ r = 2) ∧ (c = 0 ∨ c = 1 ∨ c = 2) := by omega
def ofM (l : List (List Int)) : Nat → Nat → Int := fun r c => at2 l r c
theorem ex_ag {l : List (List Int)} (h : ∀ r, r < 3 → ∀ c, c < 3 → 0 ≤ at2 l r c ∧ (outS exM r c = false → at2 l r c = exS.A r c)) (h1 : ∀ r, r < 3 → sumTo (at2 l r) 3 = sumTo (exS.A r) 3) (h2 : ∀ c, c < 3 → sumTo (fun r => at2 l r c) 3 = sumTo (fun r => exS.A r c) 3) : Ag exS exM (ofM l) :=
  ⟨fun r c hr hc => (h r hr c hc).1, fun r c hr hc => (h r hr c hc).2, h1, h2⟩
theorem ex_hi : IsHi exS exM 2 1 49 := by
  refine ⟨⟨ofM [[20, 50, 10], [25, 2, 22], [0, 49, 12]], ex_ag (by decide) (by decide) (by decide), by decide⟩, fun x hx => ?_⟩
  have h1 := hx.row 2 (show 2 < exS.R by decide)
  have h2 := hx.nn 2 0 (show 2 < exS.R by decide) (show 0 < exS.C by decide)
  have h3 := hx.un 2 2 (show 2 < exS.R by decide) (show 2 < exS.C by decide) (by decide)
  have e1 : sumTo (x 2) exS.C = 0 + x 2 0 + x 2 1 + x 2 2 := rfl
  have e2 : sumTo (exS.A 2) exS.C = 61 := by decide
  have e3 : exS.A 2 2 = 12 := by decide
  omega
theorem ex_lo : IsLo exS exM 2 1 24 := by
  refine ⟨⟨ofM [[20, 50, 10], [0, 27, 22], [25, 24, 12]], ex_ag (by decide) (by decide) (by decide), by decide⟩, fun x hx => ?_⟩
  have h1 := hx.row 2 (show 2 < exS.R by decide)
  have h2 := hx.nn 1 0 (show 1 < exS.R by decide) (show 0 < exS.C by decide)
  have h3 := hx.un 2 2 (show 2 < exS.R by decide) (show 2 < exS.C by decide) (by decide)
  have h4 := hx.un 0 0 (show 0 < exS.R by decide) (show 0 < exS.C by decide) (by decide)
  have h5 := hx.col 0 (show 0 < exS.C by decide)
  have e1 : sumTo (x 2) exS.C = 0 + x 2 0 + x 2 1 + x 2 2 := rfl
  have e2 : sumTo (exS.A 2) exS.C = 61 := by decide
  have e3 : exS.A 2 2 = 12 := by decide
  have e4 : sumTo (fun r => x r 0) exS.R = 0 + x 0 0 + x 1 0 + x 2 0 := rfl
  have e5 : sumTo (fun r => exS.A r 0) exS.R = 45 := by decide
  have e6 : exS.A 0 0 = 20 := by decide
  omega
theorem ex_safe : safeS exS exM = true := by
  unfold safeS rowSafe
  refine rall_yes fun r hr => rall_yes fun c hc => ?_
  have hr : r < 3 := hr
  have hc : c < 3 := hc
  unfold cellSafe
  by_cases h : r = 2 ∧ c = 1
  · obtain ⟨rfl, rfl⟩ := h
    rw [ex_hi.eq, ex_lo.eq]; decide
  · have : outS exS.secret r c = false := by
      obtain ⟨h1, h2⟩ := ex_pair hr hc
      rcases h1 with rfl | rfl | rfl <;> rcases h2 with rfl | rfl | rfl <;> first | decide | (exact absurd ⟨rfl, rfl⟩ h)
    rw [this]; rfl
theorem ex_key : ∀ k, k < 512 → (coversS exS (mkS exS k) && !loneS exS (mkS exS k)) = true → cmpM false exS exM (mkS exS k) < 0 ∨ mkS exS k = exM := by decide +kernel
theorem ex_mk : mkS exS 216 = exM := by decide
theorem ex_best : bestO false exS = some exM := by
  obtain ⟨N, hN⟩ : ∃ N, 2 ^ (exS.C * exS.R) = N := ⟨_, rfl⟩
  have hN5 : N = 512 := by rw [← hN]; decide
  have h := bst_inv false exS N
  have hg : goodS exS (mkS exS 216) = true := by unfold goodS; rw [ex_mk, ex_safe]; decide
  have e : bestO false exS = bstS false exS N := by unfold bestO; rw [hN]
  rw [e]
  cases hb : bstS false exS N with
  | none => rw [hb] at h; have := h 216 (by omega); rw [hg] at this; cases this
  | some b =>
    rw [hb] at h
    obtain ⟨h1, ⟨k, hk, rfl⟩, h3⟩ := h
    have h4 := h3 216 (by omega) hg
    rw [ex_mk] at h4
    have h5 : (coversS exS (mkS exS k) && !loneS exS (mkS exS k)) = true := by unfold goodS at h1; simp only [Bool.and_eq_true] at h1 ⊢; exact h1.1
    rcases ex_key k (by omega) h5 with h6 | h6
    · exact (h4 h6).elim
    · rw [h6]
end Go.Proofs.Ytlffjnmbpoemnaa

namespace Go.Proofs.Ytlffjnmbpoemnaa

theorem bit_two {o : Nat → Bool} {n i j : Nat} (hi : i < n) (hj : j < n) (ne : i ≠ j) (hoi : o i = true) (hoj : o j = true) : 2 ≤ sumTo (fun k => if o k then 1 else 0) n := by
  have e : sumTo (fun k => if o k then 1 else 0) n = sumTo (fun k => (if k = j then 1 else 0) + (if k = j then 0 else (if o k then 1 else 0))) n := sumTo_congr fun k _ => by
    by_cases h : k = j
    · subst h; rw [if_pos rfl, if_pos rfl, if_pos hoj]; rfl
    · rw [if_neg h, if_neg h]; omega
  rw [e, sumTo_add (fun k => if k = j then (1 : Int) else 0) (fun k => if k = j then (0 : Int) else (if o k then 1 else 0))]
  have h1 := sumTo_hit (f := fun k => if k = j then (1 : Int) else 0) hj fun k _ h => if_neg h
  have h2 := sumTo_one (f := fun k => if k = j then (0 : Int) else (if o k then 1 else 0)) hi fun k _ _ => by
    show 0 ≤ (if k = j then (0 : Int) else (if o k then 1 else 0))
    split
    · omega
    · split <;> omega
  have h1' : sumTo (fun k => if k = j then (1 : Int) else 0) n = 1 := h1.trans (if_pos rfl)
  have h2' : (1 : Int) ≤ sumTo (fun k => if k = j then (0 : Int) else (if o k then 1 else 0)) n := by
    have e2 : (if i = j then (0 : Int) else (if o i then 1 else 0)) = 1 := by rw [if_neg ne, if_pos hoi]
    exact Int.le_trans (Int.le_of_eq e2.symm) h2
  omega
theorem alone_eq {f g : Nat → Int} {o : Nat → Bool} {n j : Nat} (hj : j < n) (heq : sumTo f n = sumTo g n) (hu : ∀ i, i < n → o i = false → f i = g i) (hc : sumTo (fun k => if o k then 1 else 0) n ≤ 1) (ho : o j = true) : f j = g j := by
  have oth : ∀ i, i < n → i ≠ j → f i + -1 * g i = 0 := fun i hi ne => by
    cases hoi : o i
    · have := hu i hi hoi; omega
    · have := bit_two hi hj ne hoi ho; omega
  have h1 := sumTo_hit (f := fun i => f i + -1 * g i) hj oth
  rw [sumTo_add f (fun i => -1 * g i), sumTo_mul (-1) g, heq] at h1
  have h2 : sumTo g n + -1 * sumTo g n = f j + -1 * g j := h1
  omega
/-- How many amounts of a row, so far, are left out. -/
def cntR (m : List Int) (r c : Nat) : Int := sumTo (fun i => if outS m r i then 1 else 0) c
theorem only_ag {s : Sheet} {m : List Int} {r c : Nat} (hr : r < s.R) (hc : c < s.C) (h : outS m r c = false ∨ cntR m r s.C ≤ 1 ∨ cntC m c s.R ≤ 1) {x : Nat → Nat → Int} (hx : Ag s m x) : x r c = s.A r c := by
  cases ho : outS m r c
  · exact hx.un r c hr hc ho
  · rcases h with h | h | h
    · rw [ho] at h; cases h
    · exact alone_eq (f := x r) (g := s.A r) (o := outS m r) hc (hx.row r hr) (fun i hi h' => hx.un r i hr hi h') h ho
    · exact alone_eq (f := fun i => x i c) (g := fun i => s.A i c) (o := fun i => outS m i c) hr (hx.col c hc) (fun i hi h' => hx.un i c hi hc h') h ho
theorem only_lo {s : Sheet} (hs : SheetOk s) {m : List Int} {r c : Nat} (hr : r < s.R) (hc : c < s.C) (h : outS m r c = false ∨ cntR m r s.C ≤ 1 ∨ cntC m c s.R ≤ 1) : loV s m r c = s.A r c :=
  IsLo.eq ⟨⟨s.A, Ag.self hs m, rfl⟩, fun x hx => by rw [only_ag hr hc h hx]; omega⟩
theorem only_hi {s : Sheet} (hs : SheetOk s) {m : List Int} {r c : Nat} (hr : r < s.R) (hc : c < s.C) (h : outS m r c = false ∨ cntR m r s.C ≤ 1 ∨ cntC m c s.R ≤ 1) : hiV s m r c = s.A r c :=
  IsHi.eq ⟨⟨s.A, Ag.self hs m, rfl⟩, fun x hx => by rw [only_ag hr hc h hx]; omega⟩
/-- The sheet without secrets. -/
def openS (s : Sheet) : Sheet := ⟨s.amounts, List.replicate s.R 0, s.gap⟩
theorem sum_zero {f : Nat → Int} : ∀ {n : Nat}, (∀ i, i < n → f i = 0) → sumTo f n = 0 := fun h => by
  rw [sumTo_congr (g := fun _ => 0) h]; exact sumTo_zero _
theorem many_nn (m : List Int) (r : Nat) : 0 ≤ manyTo m r := sumTo_nn fun i _ => Int.natCast_nonneg _
end Go.Proofs.Ytlffjnmbpoemnaa

namespace Go.Proofs.Ytlffjnmbpoemnaa
open Go.RowKit

theorem same_step {a b : List Int} {i : Nat} (hl : a.length = b.length) (hi : i < a.length) (h : a.take i = b.take i) (e : a.getD i 0 = b.getD i 0) : a.take (i + 1) = b.take (i + 1) := by
  have hb : i < b.length := by omega
  rw [List.take_add_one, List.take_add_one, h]
  simp only [List.getD, List.getElem?_eq_getElem hi, List.getElem?_eq_getElem hb, Option.getD_some] at e
  rw [List.getElem?_eq_getElem hi, List.getElem?_eq_getElem hb, e]
theorem Ln.lits {σ : Nat → Nat → Prop} {Bp : Nat → Prop} {H : List AB} {c : Nat → Nat → AV} {n : Nat} {l : List Int} (hn : n = l.length) (h : ∀ k, k < n → c k 0 = AI (l.getD k 0)) : Ln σ Bp H (.sl false true n 1 c) (aInts false true l) := by
  subst hn
  exact Ln.sl _ _ _ _ _ _ _ (fun h => h) fun k hk o ho => by
    obtain rfl : o = 0 := by omega
    exact (h k hk).symm
theorem k3 {p : Nat → Prop} (h0 : p 0) (h1 : p 1) (h2 : p 2) : ∀ k, k < 3 → p k := below3 h0 h1 h2
set_option maxHeartbeats 8000000
set_option maxRecDepth 100000
theorem sameInts_ok (z e z2 e2 : Bool) (a b : List Int) (h1 : a.length ≤ 1000000) : ACall Try.prog 18 [aInts z e a, aInts z2 e2 b] [] (fun r h => r = .bool (decide (a = b)) ∧ h = []) := by
  (refine fcall_of mixed Try.func18 rfl (by decide) (hs := {}) ?k (ac := ?ac) ?c (rs := ?rs) ?r ?l ?H; (case k => kernel_rfl); (case c => (conv => (lhs; cbv))); (case r => (conv => (lhs; cbv))); (case l => exact Nat.le_of_ble_eq_true rfl))
  (repeat' ((try (conv => whnf)); first | (with_reducible first | refine FCond.tA ?_ | refine FCond.fA ?_) | ((with_reducible refine FCond.i (fun hq => ?_) (fun hq => ?_)) <;> (try simp only [zA, zE, zD, zJ, zB, zI, Int.not_le, Int.not_lt] at hq)) | (with_reducible first | refine Fits.in64 (by omega) ?_ | refine FIdx.nat (by omega) ?_ | refine FIdx.int (by omega) ?_ | refine FTo.nat (by omega) ?_ | refine FTo.int (by omega) ?_) | ((with_reducible refine Need.mk ?_ ?_); focus exact needA) | (with_reducible refine FApp.grow ?_) | (with_reducible refine FOr.pub ?_)))
  all_goals (try (conv => whnf))
  · (refine ⟨⟨_, [], [], Cut.nil _, Ln.sameB _ rfl, ?_, rfl⟩⟩)
    rw [decide_eq_false fun h => hq (by rw [h])]
  · have hl : a.length = b.length := by omega
    refine FLoop.of (ACalls.mono _) (X := Nat) (fun i => [(0, aInts z e a), (1, aInts z2 e2 b), (5, AI i)]) (fun _ => []) (fun i => i ≤ a.length ∧ a.take i = b.take i) (fun i => a.length - i) 0 ⟨⟨by omega, rfl⟩, [], Cut.A, allA⟩ ?_
    rintro i ⟨hi, hL⟩
    by_cases hlt : i < a.length
    · (repeat' ((try (conv => whnf)); first | (with_reducible first | refine FCond.tA ?_ | refine FCond.fA ?_) | ((with_reducible refine FCond.i (fun hq => ?_) (fun hq => ?_)) <;> (try simp only [zA, zE, zD, zJ, zB, zI, Int.not_le, Int.not_lt] at hq)) | (with_reducible first | refine Fits.in64 (by omega) ?_ | refine FIdx.nat (by omega) ?_ | refine FIdx.int (by omega) ?_ | refine FTo.nat (by omega) ?_ | refine FTo.int (by omega) ?_) | ((with_reducible refine Need.mk ?_ ?_); focus exact needA) | (with_reducible refine FApp.grow ?_) | (with_reducible refine FOr.pub ?_)))
      all_goals (try (conv => whnf))
      · (refine ⟨⟨_, [], [], Cut.nil _, Ln.sameB _ rfl, ?_, rfl⟩⟩)
        rw [decide_eq_false fun h => hq (by rw [h])]
      · (exact ⟨⟨(i + 1), ⟨by omega, same_step hl hlt hL hq⟩, by show _ < _; omega, [], Cut.A, allA⟩⟩)
    · (repeat' ((try (conv => whnf)); first | (with_reducible first | refine FCond.tA ?_ | refine FCond.fA ?_) | ((with_reducible refine FCond.i (fun hq => ?_) (fun hq => ?_)) <;> (try simp only [zA, zE, zD, zJ, zB, zI, Int.not_le, Int.not_lt] at hq)) | (with_reducible first | refine Fits.in64 (by omega) ?_ | refine FIdx.nat (by omega) ?_ | refine FIdx.int (by omega) ?_ | refine FTo.nat (by omega) ?_ | refine FTo.int (by omega) ?_) | ((with_reducible refine Need.mk ?_ ?_); focus exact needA) | (with_reducible refine FApp.grow ?_) | (with_reducible refine FOr.pub ?_)))
      all_goals (try (conv => whnf))
      (refine ⟨⟨_, [], [], Cut.nil _, Ln.sameB _ rfl, ?_, rfl⟩⟩)
      rw [List.take_of_length_le (by omega), List.take_of_length_le (by omega)] at hL
      rw [decide_eq_true hL]
def exF : ShF := ⟨false, true, fun _ => false, fun _ => true, false, true⟩
theorem example_ok : ACall Try.prog 43 [] [] (fun r h' => r = aSh exF exS ∧ h' = []) := by
  (refine fcall_of mixed Try.func43 rfl (by decide) (hs := {}) ?k (ac := ?ac) ?c (rs := ?rs) ?r ?l ?H; (case k => kernel_rfl); (case c => (conv => (lhs; cbv))); (case r => (conv => (lhs; cbv))); (case l => exact Nat.le_of_ble_eq_true rfl))
  (repeat' ((try (conv => whnf)); first | (with_reducible first | refine FCond.tA ?_ | refine FCond.fA ?_) | ((with_reducible refine FCond.i (fun hq => ?_) (fun hq => ?_)) <;> (try simp only [zA, zE, zD, zJ, zB, zI, Int.not_le, Int.not_lt] at hq)) | (with_reducible first | refine Fits.in64 (by omega) ?_ | refine FIdx.nat (by omega) ?_ | refine FIdx.int (by omega) ?_ | refine FTo.nat (by omega) ?_ | refine FTo.int (by omega) ?_) | ((with_reducible refine Need.mk ?_ ?_); focus exact needA) | (with_reducible refine FApp.grow ?_) | (with_reducible refine FOr.pub ?_)))
  all_goals (try (conv => whnf))
  have lit : ∀ (c : Nat → Nat → AV) (l : List Int), l.length = 3 → (∀ k, k < 3 → c k 0 = AI (l.getD k 0)) → LeV (.sl false true 3 1 c) (aInts false true l) := fun c l hl h => by
    show LeV _ (.sl false true l.length 1 _)
    rw [hl]
    exact LeV.sl (fun h => h) fun k hk o ho => by obtain rfl : o = 0 := (by omega); exact LeV.of (h k hk).symm
  refine ⟨⟨aSh exF exS, [], [], Cut.nil _, Ln.aggN ⟨⟨⟨True.intro, Ln.le _ _ True.intro (LeV.sl (fun h => h) ?am)⟩, Ln.sl _ _ _ _ _ _ _ (fun h => h) ?sec⟩, Ln.A⟩, rfl, rfl⟩⟩
  case am =>
    exact below3 (fun o ho => by obtain rfl : o = 0 := (by omega); exact lit _ [20, 50, 10] rfl (k3 rfl rfl rfl)) (fun o ho => by obtain rfl : o = 0 := (by omega); exact lit _ [8, 19, 22] rfl (k3 rfl rfl rfl)) (fun o ho => by obtain rfl : o = 0 := (by omega); exact lit _ [17, 32, 12] rfl (k3 rfl rfl rfl))
  case sec => exact below3 (fun o ho => by obtain rfl : o = 0 := (by omega); rfl) (fun o ho => by obtain rfl : o = 0 := (by omega); rfl) (fun o ho => by obtain rfl : o = 0 := (by omega); rfl)
theorem ex_near : Near exS := ⟨by decide, by decide, fun r => by
  show ((exS.amounts).getD r []).length ≤ 20
  rcases r with _ | _ | _ | r <;> simp [exS]⟩
theorem ex_leastC : ACall Try.prog 16 [aSh exF exS] [] (fun r h => r = .tup 2 (ofL [aInts false false exM, AI 0]) ∧ h = []) := by
  have := least_ok exF exS ex_near (fun _ => by decide)
  unfold bestV at this
  rw [exS_ok, ex_best] at this
  exact this
theorem ex_rangeC : ACall Try.prog 20 [aSh exF exS, aInts false true exM, AI 2, AI 1] [] (fun r h => r = .tup 2 (ofL [spanA 24 49, AI 0]) ∧ h = []) := by
  have := pRange_ok exF exS ex_near (fun _ => by decide) false true exM (by decide) 2 1
  unfold rangeV at this
  rw [show checkP exS exM 2 1 = 0 from by decide, if_pos rfl, show loV exS exM (2 : Int).toNat (1 : Int).toNat = 24 from ex_lo.eq, show hiV exS exM (2 : Int).toNat (1 : Int).toNat = 49 from ex_hi.eq] at this
  exact this
theorem ex_same : ACall Try.prog 18 [aInts false false exM, aInts false true exM] [] (fun r h => r = .bool true ∧ h = []) := sameInts_ok false false false true exM exM (by decide)
theorem works_ok : ACall Try.prog 14 [] [] (fun r h' => r = .bool true ∧ h' = []) := by
  (refine fcall_of mixed Try.func14 rfl (by decide) (hs := {}) ?k (ac := ?ac) ?c (rs := ?rs) ?r ?l ?H; (case k => kernel_rfl); (case c => (conv => (lhs; cbv))); (case r => (conv => (lhs; cbv))); (case l => exact Nat.le_of_ble_eq_true rfl))
  (repeat' ((try (conv => whnf)); first | (with_reducible first | refine FCond.tA ?_ | refine FCond.fA ?_) | ((with_reducible refine FCond.i (fun hq => ?_) (fun hq => ?_)) <;> (try simp only [zA, zE, zD, zJ, zB, zI, Int.not_le, Int.not_lt] at hq)) | (with_reducible first | refine Fits.in64 (by omega) ?_ | refine FIdx.nat (by omega) ?_ | refine FIdx.int (by omega) ?_ | refine FTo.nat (by omega) ?_ | refine FTo.int (by omega) ?_) | ((with_reducible refine Need.mk ?_ ?_); focus exact needA) | (with_reducible refine FApp.grow ?_) | (refine FCall.pure example_ok True.intro rfl ?_) | (refine FCall.pure (ex_leastC) ⟨Ln.sameB _ rfl, True.intro⟩ rfl ?_) | (refine FCall.pure ex_rangeC ⟨Ln.sameB _ rfl, Ln.lits rfl (k3 rfl rfl rfl), Ln.A, Ln.A, True.intro⟩ rfl ?_) | (refine FCall.pure ex_same ⟨Ln.sameB _ rfl, Ln.lits rfl (k3 rfl rfl rfl), True.intro⟩ rfl ?_) | (with_reducible refine And.intro rfl ?_) | (with_reducible refine FOr.pub ?_)))
  all_goals (try (conv => whnf))
  all_goals (refine ⟨⟨_, [], [], Cut.nil _, Ln.sameB _ rfl, ?_, rfl⟩⟩)
  all_goals rfl
/-- Larger than the statements look at. -/
def bigS (s : Sheet) : Bool := decide (20 < s.R) || decide (20 < s.secret.length) || (List.range s.R).any fun r => decide (20 < (s.amounts.getD r []).length)
def rowBig (s : Sheet) (r : Nat) : Bool := (List.range s.C).any fun c => decide (30 < s.A r c)
def farS (s : Sheet) : Bool := bigS s || (s.ok && ((List.range s.R).any (rowBig s) || decide (3 < s.R) || decide (3 < s.C)))
theorem far_near {s : Sheet} (h : bigS s = false) : Near s := by
  unfold bigS at h
  simp only [Bool.or_eq_false_iff, decide_eq_false_iff_not, List.any_eq_false, List.mem_range, decide_eq_true_eq] at h
  refine ⟨by omega, by omega, fun r => ?_⟩
  by_cases hr : r < s.R
  · have := h.2 r hr; omega
  · rw [show s.amounts.getD r [] = [] from by simp [List.getD, List.getElem?_eq_none (show s.amounts.length ≤ r from by have : s.R = s.amounts.length := rfl; omega)]]; simp
theorem far_d {s : Sheet} (h : farS s = false) : Near s ∧ (s.ok = true → s.R ≤ 3 ∧ s.C ≤ 3) := by
  unfold farS at h
  rw [Bool.or_eq_false_iff] at h
  refine ⟨far_near h.1, fun hk => ?_⟩
  have h2 := h.2
  rw [hk] at h2
  simp only [Bool.true_and, Bool.or_eq_false_iff, decide_eq_false_iff_not] at h2
  omega
theorem far_ok (f : ShF) (s : Sheet) : ACall Try.prog 21 [aSh f s] [] (fun r h => r = .bool (farS s) ∧ h = []) := by
  have hR : s.R = s.amounts.length := rfl
  have hC2 : (s.amounts.getD (Int.toNat 0) []).length = s.C := rfl
  (refine fcall_of mixed Try.func21 rfl (by decide) (hs := {}) ?k (ac := ?ac) ?c (rs := ?rs) ?r ?l ?H; (case k => kernel_rfl); (case c => (conv => (lhs; cbv))); (case r => (conv => (lhs; cbv))); (case l => exact Nat.le_of_ble_eq_true rfl))
  by_cases h20 : s.amounts.length ≤ 20 ∧ s.secret.length ≤ 20
  · (repeat' ((try (conv => whnf)); first | (with_reducible first | refine FCond.tA ?_ | refine FCond.fA ?_) | ((with_reducible refine FCond.i (fun hq => ?_) (fun hq => ?_)) <;> (try simp only [zA, zE, zD, zJ, zB, zI, Int.not_le, Int.not_lt] at hq)) | (with_reducible first | refine Fits.in64 (by omega) ?_ | refine FIdx.nat (by omega) ?_ | refine FIdx.int (by omega) ?_ | refine FTo.nat (by omega) ?_ | refine FTo.int (by omega) ?_) | ((with_reducible refine Need.mk ?_ ?_); focus exact needA) | (with_reducible refine FApp.grow ?_) | (with_reducible refine FOr.pub ?_)))
    all_goals (try (conv => whnf))
    refine FLoop.of (ACalls.mono _) (X := Nat) (fun r => [(1, .ptr 0 0), (3, AI r)]) (fun r => [.box 3 (cSh f s)]) (fun r => r ≤ s.R ∧ ∀ k, k < r → (s.amounts.getD k []).length ≤ 20) (fun r => s.R - r) 0 ⟨⟨Nat.zero_le _, fun k hk => absurd hk (Nat.not_lt_zero k)⟩, [0], Cut.A, allA⟩ ?_
    rintro r ⟨hr, hup⟩
    by_cases hlt : r < s.R
    · by_cases hl : (s.amounts.getD r []).length ≤ 20
      · (repeat' ((try (conv => whnf)); first | (with_reducible first | refine FCond.tA ?_ | refine FCond.fA ?_) | ((with_reducible refine FCond.i (fun hq => ?_) (fun hq => ?_)) <;> (try simp only [zA, zE, zD, zJ, zB, zI, Int.not_le, Int.not_lt] at hq)) | (with_reducible first | refine Fits.in64 (by omega) ?_ | refine FIdx.nat (by omega) ?_ | refine FIdx.int (by omega) ?_ | refine FTo.nat (by omega) ?_ | refine FTo.int (by omega) ?_) | ((with_reducible refine Need.mk ?_ ?_); focus exact needA) | (with_reducible refine FApp.grow ?_) | (with_reducible refine FOr.pub ?_)))
        all_goals (try (conv => whnf))
        exact ⟨⟨r + 1, ⟨hlt, below_step hup hl⟩, by show s.R - (r + 1) < s.R - r; omega, [0], Cut.A, allA⟩⟩
      · rw [show farS s = true from by unfold farS bigS; rw [any_yes (p := fun r => decide (20 < (s.amounts.getD r []).length)) hlt (decide_eq_true (by omega))]; simp]
        (repeat' ((try (conv => whnf)); first | (with_reducible first | refine FCond.tA ?_ | refine FCond.fA ?_) | ((with_reducible refine FCond.i (fun hq => ?_) (fun hq => ?_)) <;> (try simp only [zA, zE, zD, zJ, zB, zI, Int.not_le, Int.not_lt] at hq)) | (with_reducible first | refine Fits.in64 (by omega) ?_ | refine FIdx.nat (by omega) ?_ | refine FIdx.int (by omega) ?_ | refine FTo.nat (by omega) ?_ | refine FTo.int (by omega) ?_) | ((with_reducible refine Need.mk ?_ ?_); focus exact needA) | (with_reducible refine FApp.grow ?_) | (with_reducible refine FOr.pub ?_)))
        all_goals (try (conv => whnf))
        all_goals ((refine ⟨⟨_, [], [], Cut.nil _, Ln.sameB _ rfl, ?_, rfl⟩⟩); rfl)
    · have hb : bigS s = false := by
        unfold bigS
        rw [decide_eq_false (show ¬ 20 < s.R by omega), decide_eq_false (show ¬ 20 < s.secret.length by omega), any_no fun i hi => decide_eq_false (by have := hup i (by omega); omega)]; rfl
      have hn := far_near hb
      have cK := refCheck_ok f s hn
      have hf : farS s = (s.ok && ((List.range s.R).any (rowBig s) || decide (3 < s.R) || decide (3 < s.C))) := by unfold farS; rw [hb, Bool.false_or]
      rw [hf]
      cases hk : s.ok
      · rw [check_80 hk] at cK
        (repeat' ((try (conv => whnf)); first | (with_reducible first | refine FCond.tA ?_ | refine FCond.fA ?_) | ((with_reducible refine FCond.i (fun hq => ?_) (fun hq => ?_)) <;> (try simp only [zA, zE, zD, zJ, zB, zI, Int.not_le, Int.not_lt] at hq)) | (with_reducible first | refine Fits.in64 (by omega) ?_ | refine FIdx.nat (by omega) ?_ | refine FIdx.int (by omega) ?_ | refine FTo.nat (by omega) ?_ | refine FTo.int (by omega) ?_) | ((with_reducible refine Need.mk ?_ ?_); focus exact needA) | (with_reducible refine FApp.grow ?_) | (refine FCall.pure (cK) ⟨Ln.sameB _ rfl, True.intro⟩ rfl ?_) | (with_reducible refine FOr.pub ?_)))
        all_goals (try (conv => whnf))
        all_goals ((refine ⟨⟨_, [], [], Cut.nil _, Ln.sameB _ rfl, ?_, rfl⟩⟩); rfl)
      · rw [check_ok' hk] at cK
        have hs := sheet_d hk
        have c4 := hs.c4
        have cC := columns_ok f s (by have := hs.r1; omega)
        rw [Bool.true_and]
        (repeat' ((try (conv => whnf)); first | (with_reducible first | refine FCond.tA ?_ | refine FCond.fA ?_) | ((with_reducible refine FCond.i (fun hq => ?_) (fun hq => ?_)) <;> (try simp only [zA, zE, zD, zJ, zB, zI, Int.not_le, Int.not_lt] at hq)) | (with_reducible first | refine Fits.in64 (by omega) ?_ | refine FIdx.nat (by omega) ?_ | refine FIdx.int (by omega) ?_ | refine FTo.nat (by omega) ?_ | refine FTo.int (by omega) ?_) | ((with_reducible refine Need.mk ?_ ?_); focus exact needA) | (with_reducible refine FApp.grow ?_) | (refine FCall.pure (cK) ⟨Ln.sameB _ rfl, True.intro⟩ rfl ?_) | (with_reducible refine FOr.pub ?_)))
        all_goals (try (conv => whnf))
        clear hup
        refine FLoop.of (ACalls.mono _) (X := Nat) (fun r => [(1, .ptr 0 0), (4, AI r)]) (fun r => [.box 3 (cSh f s)]) (fun r => r ≤ s.R ∧ ∀ k, k < r → rowBig s k = false) (fun r => s.R - r) 0 ⟨⟨Nat.zero_le _, fun k hk => absurd hk (Nat.not_lt_zero k)⟩, [0], Cut.A, allA⟩ ?_
        rintro r ⟨hr, hup⟩
        by_cases hlt : r < s.R
        · have hrow := hs.row r hlt
          (repeat' ((try (conv => whnf)); first | (with_reducible first | refine FCond.tA ?_ | refine FCond.fA ?_) | ((with_reducible refine FCond.i (fun hq => ?_) (fun hq => ?_)) <;> (try simp only [zA, zE, zD, zJ, zB, zI, Int.not_le, Int.not_lt] at hq)) | (with_reducible first | refine Fits.in64 (by omega) ?_ | refine FIdx.nat (by omega) ?_ | refine FIdx.int (by omega) ?_ | refine FTo.nat (by omega) ?_ | refine FTo.int (by omega) ?_) | ((with_reducible refine Need.mk ?_ ?_); focus exact needA) | (with_reducible refine FApp.grow ?_) | (with_reducible refine FOr.pub ?_)))
          all_goals (try (conv => whnf))
          refine FLoop.of (ACalls.mono _) (X := Nat) (fun c => [(1, .ptr 0 0), (4, AI r), (5, AI c)]) (fun c => [.box 3 (cSh f s)]) (fun c => c ≤ s.C ∧ ∀ k, k < c → decide (30 < s.A r k) = false) (fun c => s.C - c) 0 ⟨⟨Nat.zero_le _, fun k hk => absurd hk (Nat.not_lt_zero k)⟩, [0], Cut.A, allA⟩ ?_
          rintro c ⟨hc, hupc⟩
          by_cases hltc : c < s.C
          · have hA : s.A r c = (s.amounts.getD r []).getD c 0 := rfl
            by_cases h30 : 30 < (s.amounts.getD r []).getD c 0
            · rw [any_yes hlt (show rowBig s r = true from any_yes (p := fun c => decide (30 < s.A r c)) hltc (decide_eq_true h30)), Bool.true_or, Bool.true_or]
              (repeat' ((try (conv => whnf)); first | (with_reducible first | refine FCond.tA ?_ | refine FCond.fA ?_) | ((with_reducible refine FCond.i (fun hq => ?_) (fun hq => ?_)) <;> (try simp only [zA, zE, zD, zJ, zB, zI, Int.not_le, Int.not_lt] at hq)) | (with_reducible first | refine Fits.in64 (by omega) ?_ | refine FIdx.nat (by omega) ?_ | refine FIdx.int (by omega) ?_ | refine FTo.nat (by omega) ?_ | refine FTo.int (by omega) ?_) | ((with_reducible refine Need.mk ?_ ?_); focus exact needA) | (with_reducible refine FApp.grow ?_) | (with_reducible refine FOr.pub ?_)))
              all_goals (try (conv => whnf))
              all_goals ((refine ⟨⟨_, [], [], Cut.nil _, Ln.sameB _ rfl, ?_, rfl⟩⟩); rfl)
            · (repeat' ((try (conv => whnf)); first | (with_reducible first | refine FCond.tA ?_ | refine FCond.fA ?_) | ((with_reducible refine FCond.i (fun hq => ?_) (fun hq => ?_)) <;> (try simp only [zA, zE, zD, zJ, zB, zI, Int.not_le, Int.not_lt] at hq)) | (with_reducible first | refine Fits.in64 (by omega) ?_ | refine FIdx.nat (by omega) ?_ | refine FIdx.int (by omega) ?_ | refine FTo.nat (by omega) ?_ | refine FTo.int (by omega) ?_) | ((with_reducible refine Need.mk ?_ ?_); focus exact needA) | (with_reducible refine FApp.grow ?_) | (with_reducible refine FOr.pub ?_)))
              all_goals (try (conv => whnf))
              exact ⟨⟨c + 1, ⟨hltc, below_step hupc (decide_eq_false h30)⟩, by show s.C - (c + 1) < s.C - c; omega, [0], Cut.A, allA⟩⟩
          · have hcE : s.C = c := by omega
            (repeat' ((try (conv => whnf)); first | (with_reducible first | refine FCond.tA ?_ | refine FCond.fA ?_) | ((with_reducible refine FCond.i (fun hq => ?_) (fun hq => ?_)) <;> (try simp only [zA, zE, zD, zJ, zB, zI, Int.not_le, Int.not_lt] at hq)) | (with_reducible first | refine Fits.in64 (by omega) ?_ | refine FIdx.nat (by omega) ?_ | refine FIdx.int (by omega) ?_ | refine FTo.nat (by omega) ?_ | refine FTo.int (by omega) ?_) | ((with_reducible refine Need.mk ?_ ?_); focus exact needA) | (with_reducible refine FApp.grow ?_) | (with_reducible refine FOr.pub ?_)))
            all_goals (try (conv => whnf))
            exact ⟨⟨r + 1, ⟨hlt, below_step hup (by unfold rowBig; rw [hcE]; exact any_no hupc)⟩, by show s.R - (r + 1) < s.R - r; omega, [0], Cut.A, allA⟩⟩
        · rw [any_no (n := s.R) fun i hi => hup i (by omega), Bool.false_or]
          by_cases h3 : 3 < s.R
          · rw [decide_eq_true h3, Bool.true_or]
            (repeat' ((try (conv => whnf)); first | (with_reducible first | refine FCond.tA ?_ | refine FCond.fA ?_) | ((with_reducible refine FCond.i (fun hq => ?_) (fun hq => ?_)) <;> (try simp only [zA, zE, zD, zJ, zB, zI, Int.not_le, Int.not_lt] at hq)) | (with_reducible first | refine Fits.in64 (by omega) ?_ | refine FIdx.nat (by omega) ?_ | refine FIdx.int (by omega) ?_ | refine FTo.nat (by omega) ?_ | refine FTo.int (by omega) ?_) | ((with_reducible refine Need.mk ?_ ?_); focus exact needA) | (with_reducible refine FApp.grow ?_) | (with_reducible refine FOr.pub ?_)))
            all_goals (try (conv => whnf))
            all_goals ((refine ⟨⟨_, [], [], Cut.nil _, Ln.sameB _ rfl, ?_, rfl⟩⟩); rfl)
          · rw [decide_eq_false h3, Bool.false_or]
            (repeat' ((try (conv => whnf)); first | (with_reducible first | refine FCond.tA ?_ | refine FCond.fA ?_) | ((with_reducible refine FCond.i (fun hq => ?_) (fun hq => ?_)) <;> (try simp only [zA, zE, zD, zJ, zB, zI, Int.not_le, Int.not_lt] at hq)) | (with_reducible first | refine Fits.in64 (by omega) ?_ | refine FIdx.nat (by omega) ?_ | refine FIdx.int (by omega) ?_ | refine FTo.nat (by omega) ?_ | refine FTo.int (by omega) ?_) | ((with_reducible refine Need.mk ?_ ?_); focus exact needA) | (with_reducible refine FApp.grow ?_) | (refine FCall.pure (cC) ⟨Ln.sameB _ rfl, True.intro⟩ rfl ?_) | (with_reducible refine FOr.pub ?_)))
            all_goals (try (conv => whnf))
            all_goals ((refine ⟨⟨_, [], [], Cut.nil _, Ln.sameB _ rfl, ?_, rfl⟩⟩); exact bool_eq (decide_eq_decide.2 (by omega)))
  · rw [show farS s = true from by unfold farS bigS; rcases (show 20 < s.R ∨ 20 < s.secret.length by omega) with h | h <;> rw [decide_eq_true h] <;> simp]
    by_cases h : s.amounts.length ≤ 20
    · (repeat' ((try (conv => whnf)); first | (with_reducible first | refine FCond.tA ?_ | refine FCond.fA ?_) | ((with_reducible refine FCond.i (fun hq => ?_) (fun hq => ?_)) <;> (try simp only [zA, zE, zD, zJ, zB, zI, Int.not_le, Int.not_lt] at hq)) | (with_reducible first | refine Fits.in64 (by omega) ?_ | refine FIdx.nat (by omega) ?_ | refine FIdx.int (by omega) ?_ | refine FTo.nat (by omega) ?_ | refine FTo.int (by omega) ?_) | ((with_reducible refine Need.mk ?_ ?_); focus exact needA) | (with_reducible refine FApp.grow ?_) | (with_reducible refine FOr.pub ?_)))
      all_goals (try (conv => whnf))
      all_goals ((refine ⟨⟨_, [], [], Cut.nil _, Ln.sameB _ rfl, ?_, rfl⟩⟩); rfl)
    · (repeat' ((try (conv => whnf)); first | (with_reducible first | refine FCond.tA ?_ | refine FCond.fA ?_) | ((with_reducible refine FCond.i (fun hq => ?_) (fun hq => ?_)) <;> (try simp only [zA, zE, zD, zJ, zB, zI, Int.not_le, Int.not_lt] at hq)) | (with_reducible first | refine Fits.in64 (by omega) ?_ | refine FIdx.nat (by omega) ?_ | refine FIdx.int (by omega) ?_ | refine FTo.nat (by omega) ?_ | refine FTo.int (by omega) ?_) | ((with_reducible refine Need.mk ?_ ?_); focus exact needA) | (with_reducible refine FApp.grow ?_) | (with_reducible refine FOr.pub ?_)))
      all_goals (try (conv => whnf))
      all_goals ((refine ⟨⟨_, [], [], Cut.nil _, Ln.sameB _ rfl, ?_, rfl⟩⟩); rfl)
def validS (s : Sheet) (m : List Int) : Bool := !farS s && decide (m.length ≤ 20) && decide (checkM s m = 0)
theorem valid_ok (f : ShF) (s : Sheet) (z e : Bool) (m : List Int) : ACall Try.prog 12 [aSh f s, aInts z e m] [] (fun r h => r = .bool (validS s m) ∧ h = []) := by
  have cF := far_ok f s
  (refine fcall_of mixed Try.func12 rfl (by decide) (hs := {}) ?k (ac := ?ac) ?c (rs := ?rs) ?r ?l ?H; (case k => kernel_rfl); (case c => (conv => (lhs; cbv))); (case r => (conv => (lhs; cbv))); (case l => exact Nat.le_of_ble_eq_true rfl))
  unfold validS
  cases hf : farS s
  · rw [hf] at cF
    by_cases hl : m.length ≤ 20
    · have cM := refCheckM_ok f s (far_d hf).1 z e m (by omega)
      rw [decide_eq_true hl]
      by_cases h0 : checkM s m = 0
      · (repeat' ((try (conv => whnf)); first | (with_reducible first | refine FCond.tA ?_ | refine FCond.fA ?_) | ((with_reducible refine FCond.i (fun hq => ?_) (fun hq => ?_)) <;> (try simp only [zA, zE, zD, zJ, zB, zI, Int.not_le, Int.not_lt] at hq)) | (with_reducible first | refine Fits.in64 (by omega) ?_ | refine FIdx.nat (by omega) ?_ | refine FIdx.int (by omega) ?_ | refine FTo.nat (by omega) ?_ | refine FTo.int (by omega) ?_) | ((with_reducible refine Need.mk ?_ ?_); focus exact needA) | (with_reducible refine FApp.grow ?_) | (refine FCall.pure (cF) ⟨Ln.sameB _ rfl, True.intro⟩ rfl ?_) | (refine FCall.pure (cM) ⟨Ln.sameB _ rfl, Ln.sameB _ rfl, True.intro⟩ rfl ?_) | (with_reducible refine FOr.pub ?_)))
        all_goals (try (conv => whnf))
        all_goals ((refine ⟨⟨_, [], [], Cut.nil _, Ln.sameB _ rfl, ?_, rfl⟩⟩); rfl)
      · (repeat' ((try (conv => whnf)); first | (with_reducible first | refine FCond.tA ?_ | refine FCond.fA ?_) | ((with_reducible refine FCond.i (fun hq => ?_) (fun hq => ?_)) <;> (try simp only [zA, zE, zD, zJ, zB, zI, Int.not_le, Int.not_lt] at hq)) | (with_reducible first | refine Fits.in64 (by omega) ?_ | refine FIdx.nat (by omega) ?_ | refine FIdx.int (by omega) ?_ | refine FTo.nat (by omega) ?_ | refine FTo.int (by omega) ?_) | ((with_reducible refine Need.mk ?_ ?_); focus exact needA) | (with_reducible refine FApp.grow ?_) | (refine FCall.pure (cF) ⟨Ln.sameB _ rfl, True.intro⟩ rfl ?_) | (refine FCall.pure (cM) ⟨Ln.sameB _ rfl, Ln.sameB _ rfl, True.intro⟩ rfl ?_) | (with_reducible refine FOr.pub ?_)))
        all_goals (try (conv => whnf))
        all_goals ((refine ⟨⟨_, [], [], Cut.nil _, Ln.sameB _ rfl, ?_, rfl⟩⟩); rfl)
    · rw [decide_eq_false hl]
      (repeat' ((try (conv => whnf)); first | (with_reducible first | refine FCond.tA ?_ | refine FCond.fA ?_) | ((with_reducible refine FCond.i (fun hq => ?_) (fun hq => ?_)) <;> (try simp only [zA, zE, zD, zJ, zB, zI, Int.not_le, Int.not_lt] at hq)) | (with_reducible first | refine Fits.in64 (by omega) ?_ | refine FIdx.nat (by omega) ?_ | refine FIdx.int (by omega) ?_ | refine FTo.nat (by omega) ?_ | refine FTo.int (by omega) ?_) | ((with_reducible refine Need.mk ?_ ?_); focus exact needA) | (with_reducible refine FApp.grow ?_) | (refine FCall.pure (cF) ⟨Ln.sameB _ rfl, True.intro⟩ rfl ?_) | (with_reducible refine FOr.pub ?_)))
      all_goals (try (conv => whnf))
      all_goals ((refine ⟨⟨_, [], [], Cut.nil _, Ln.sameB _ rfl, ?_, rfl⟩⟩); rfl)
  · rw [hf] at cF
    (repeat' ((try (conv => whnf)); first | (with_reducible first | refine FCond.tA ?_ | refine FCond.fA ?_) | ((with_reducible refine FCond.i (fun hq => ?_) (fun hq => ?_)) <;> (try simp only [zA, zE, zD, zJ, zB, zI, Int.not_le, Int.not_lt] at hq)) | (with_reducible first | refine Fits.in64 (by omega) ?_ | refine FIdx.nat (by omega) ?_ | refine FIdx.int (by omega) ?_ | refine FTo.nat (by omega) ?_ | refine FTo.int (by omega) ?_) | ((with_reducible refine Need.mk ?_ ?_); focus exact needA) | (with_reducible refine FApp.grow ?_) | (refine FCall.pure (cF) ⟨Ln.sameB _ rfl, True.intro⟩ rfl ?_) | (with_reducible refine FOr.pub ?_)))
    all_goals (try (conv => whnf))
    all_goals ((refine ⟨⟨_, [], [], Cut.nil _, Ln.sameB _ rfl, ?_, rfl⟩⟩); rfl)
end Go.Proofs.Ytlffjnmbpoemnaa

namespace Go.Proofs.Ytlffjnmbpoemnaa
open Go.RowKit

theorem mask_of {s : Sheet} {m : List Int} (h : MaskOk s m) : maskS s m = true := by
  unfold maskS
  simp only [Bool.and_eq_true, decide_eq_true_eq, List.all_eq_true]
  refine ⟨fun x hx => ?_, h.len⟩
  obtain ⟨k, hk, rfl⟩ := List.getElem_of_mem hx
  have := h.bd k (by rw [← h.len]; exact hk)
  simp only [List.getD, List.getElem?_eq_getElem hk, Option.getD_some] at this
  omega
theorem checkM_of {s : Sheet} {m : List Int} (hk : s.ok = true) (h : MaskOk s m) : checkM s m = 0 := by
  unfold checkM; rw [hk, mask_of h]; rfl
/-- What is left out by one or the other. -/
def bothS (s : Sheet) (m mo : List Int) : List Int := (List.range s.R).map fun r => (((m.getD r 0).toNat ||| (mo.getD r 0).toNat : Nat) : Int)
theorem Ag.more {s : Sheet} {m m2 : List Int} (hm : ∀ r c, r < s.R → c < s.C → outS m r c = true → outS m2 r c = true) {x : Nat → Nat → Int} (h : Ag s m x) : Ag s m2 x :=
  ⟨h.nn, fun r c hr hc ho => h.un r c hr hc (by cases h2 : outS m r c; rfl; rw [hm r c hr hc h2] at ho; cases ho), h.row, h.col⟩
theorem wider {s : Sheet} (hs : SheetOk s) {m m2 : List Int} (hm : ∀ r c, r < s.R → c < s.C → outS m r c = true → outS m2 r c = true) {r c : Nat} (hr : r < s.R) (hc : c < s.C) : loV s m2 r c ≤ loV s m r c ∧ hiV s m r c ≤ hiV s m2 r c := by
  obtain ⟨⟨x, hx, ex⟩, _⟩ := lo_is hs m hr hc
  obtain ⟨⟨y, hy, ey⟩, _⟩ := hi_is hs m hr hc
  have a := (lo_is hs m2 hr hc).2 x (hx.more hm)
  have b := (hi_is hs m2 hr hc).2 y (hy.more hm)
  omega
theorem safe_more {s : Sheet} (hs : SheetOk s) {m m2 : List Int} (hm : ∀ r c, r < s.R → c < s.C → outS m r c = true → outS m2 r c = true) (h : safeS s m = true) : safeS s m2 = true := by
  unfold safeS rowSafe at h ⊢
  refine rall_yes fun r hr => rall_yes fun c hc => ?_
  have h1 := List.all_eq_true.1 (List.all_eq_true.1 h r (List.mem_range.2 hr)) c (List.mem_range.2 hc)
  unfold cellSafe at h1 ⊢
  simp only [Bool.or_eq_true, Bool.not_eq_true', Bool.and_eq_true, decide_eq_true_eq] at h1 ⊢
  rcases h1 with h1 | ⟨h1, h2⟩
  · exact .inl h1
  · have := wider hs hm hr hc
    exact .inr ⟨hm r c hr hc h1, by omega⟩
theorem valid_d {s : Sheet} {m : List Int} (h : validS s m = true) : Near s ∧ s.ok = true ∧ SheetOk s ∧ MaskOk s m ∧ m.length ≤ 20 ∧ s.R ≤ 3 ∧ s.C ≤ 3 := by
  unfold validS at h
  simp only [Bool.and_eq_true, Bool.not_eq_true', decide_eq_true_eq] at h
  obtain ⟨⟨h1, h2⟩, h3⟩ := h
  obtain ⟨hk, hm⟩ := checkM_0 h3
  have hf := far_d h1
  exact ⟨hf.1, hk, sheet_d hk, mask_d hm, h2, hf.2 hk⟩
theorem safeV_0 {s : Sheet} {m : List Int} (h : checkM s m = 0) : safeV s m = .tup 2 (ofL [.bool (safeS s m), AI 0]) := by
  unfold safeV; rw [h]; rfl
def boV : Nat → AV
  | 0 => nilS
  | r + 1 => .own 2 (r + 1)
set_option maxHeartbeats 8000000
set_option maxRecDepth 100000
end Go.Proofs.Ytlffjnmbpoemnaa

namespace Go.Proofs.Ytlffjnmbpoemnaa

/-- Numbers as one number. -/
def enc (C : Nat) : (Nat → Nat) → Nat → Nat
  | _, 0 => 0
  | f, n + 1 => f 0 + 2 ^ C * enc C (fun i => f (i + 1)) n
theorem enc_get (C : Nat) : ∀ (n : Nat) (f : Nat → Nat), (∀ i, i < n → f i < 2 ^ C) → ∀ r, r < n → enc C f n / 2 ^ (C * r) % 2 ^ C = f r
  | 0, _, _, r, h => absurd h (Nat.not_lt_zero r)
  | n + 1, f, hf, 0, _ => by
    have h0 := hf 0 (by omega)
    simp only [enc, Nat.mul_zero, Nat.pow_zero, Nat.div_one]
    rw [Nat.add_mul_mod_self_left, Nat.mod_eq_of_lt h0]
  | n + 1, f, hf, r + 1, hr => by
    have h0 := hf 0 (by omega)
    have ih := enc_get C n (fun i => f (i + 1)) (fun i hi => hf (i + 1) (by omega)) r (by omega)
    simp only [enc]
    rw [Nat.mul_succ, Nat.add_comm (C * r) C, Nat.pow_add, ← Nat.div_div_eq_div_mul, Nat.add_mul_div_left _ _ (Nat.two_pow_pos C), Nat.div_eq_of_lt h0, Nat.zero_add]
    exact ih
theorem enc_lt (C : Nat) : ∀ (n : Nat) (f : Nat → Nat), (∀ i, i < n → f i < 2 ^ C) → enc C f n < 2 ^ (C * n)
  | 0, _, _ => by simp [enc]
  | n + 1, f, hf => by
    have h0 := hf 0 (by omega)
    have ih := enc_lt C n (fun i => f (i + 1)) (fun i hi => hf (i + 1) (by omega))
    simp only [enc]
    rw [Nat.mul_succ, Nat.add_comm (C * n) C, Nat.pow_add]
    have h1 := Nat.mul_le_mul_left (2 ^ C) (show enc C (fun i => f (i + 1)) n + 1 ≤ 2 ^ (C * n) from ih)
    rw [Nat.mul_add, Nat.mul_one] at h1
    omega
theorem getD_at {l : List Int} {i : Nat} (h : i < l.length) : l.getD i 0 = l[i] := by simp [List.getD, List.getElem?_eq_getElem h]
theorem mk_of {s : Sheet} {m : List Int} (hm : MaskOk s m) : ∃ k, k < 2 ^ (s.C * s.R) ∧ m = mkS s k := by
  have hb : ∀ i, i < s.R → (m.getD i 0).toNat < 2 ^ s.C := fun i hi => by have := hm.bd i hi; omega
  refine ⟨enc s.C (fun i => (m.getD i 0).toNat) s.R, enc_lt _ _ _ hb, List.ext_getElem (by rw [hm.len, mkS_len]) fun i h1 h2 => ?_⟩
  have hi : i < s.R := by rw [← hm.len]; exact h1
  rw [← getD_at h1, ← getD_at h2, mkS_get hi, Nat.shiftRight_eq_div_pow, Nat.and_two_pow_sub_one_eq_mod, enc_get _ _ _ hb i hi]
  have := hm.bd i hi
  omega
/-- A mask without one of its amounts. -/
def delM (s : Sheet) (m : List Int) (r c : Nat) : List Int := (List.range s.R).map fun i => if i = r then (((m.getD i 0).toNat ^^^ 2 ^ c : Nat) : Int) else m.getD i 0
theorem del_len (s : Sheet) (m : List Int) (r c : Nat) : (delM s m r c).length = s.R := by simp [delM]
theorem del_get {s : Sheet} {m : List Int} {r c i : Nat} (hi : i < s.R) : (delM s m r c).getD i 0 = if i = r then (((m.getD i 0).toNat ^^^ 2 ^ c : Nat) : Int) else m.getD i 0 := by
  unfold delM; simp [List.getD, hi]
theorem del_ok {s : Sheet} {m : List Int} {r c : Nat} (hm : MaskOk s m) (hc : c < s.C) : MaskOk s (delM s m r c) := ⟨del_len s m r c, fun i hi => by
  rw [del_get hi]
  have a := hm.bd i hi
  split
  · have := Nat.xor_lt_two_pow (show (m.getD i 0).toNat < 2 ^ s.C by omega) (Nat.pow_lt_pow_right (by omega) hc : 2 ^ c < 2 ^ s.C)
    omega
  · exact a⟩
theorem del_out {s : Sheet} {m : List Int} {r c i : Nat} (hi : i < s.R) (j : Nat) (ho : outS m r c = true) : outS (delM s m r c) i j = (outS m i j && !(decide (i = r) && decide (j = c))) := by
  unfold outS at ho ⊢
  rw [del_get hi]
  by_cases e : i = r
  · subst e
    rw [if_pos rfl, Int.toNat_natCast, Nat.testBit_xor, Nat.testBit_two_pow]
    by_cases ej : j = c
    · subst ej; rw [ho]; simp
    · rw [decide_eq_false (show ¬ c = j from fun h => ej h.symm), decide_eq_false ej]; simp
  · rw [if_neg e, decide_eq_false e]; simp
theorem pop_del : ∀ x, x < 16 → ∀ c, c < 4 → x.testBit c = true → pop (x ^^^ 2 ^ c) + 1 = pop x := by decide
theorem pop_cnt : ∀ C, C < 5 → ∀ x, x < 16 → x < 2 ^ C → sumTo (fun i => if x.testBit i then 1 else 0) C = (pop x : Nat) := by decide
theorem del_many {s : Sheet} (hs : SheetOk s) {m : List Int} (hm : MaskOk s m) {r c : Nat} (hr : r < s.R) (hc : c < s.C) (ho : outS m r c = true) : manyTo (delM s m r c) s.R + 1 = manyTo m s.R := by
  have c4 := hs.c4
  have e : manyTo m s.R = sumTo (fun i => ((pop ((delM s m r c).getD i 0).toNat : Nat) : Int) + (if i = r then 1 else 0)) s.R := sumTo_congr fun i hi => by
    show ((pop (m.getD i 0).toNat : Nat) : Int) = _
    rw [del_get hi]
    by_cases e : i = r
    · subst e
      obtain ⟨k, hk, hk16, -⟩ := mask_16 hs hm hi
      have ho' : k.testBit c = true := by unfold outS at ho; rw [hk] at ho; exact ho
      have := pop_del k hk16 c (by omega) ho'
      rw [if_pos rfl, if_pos rfl, hk, Int.toNat_natCast, Int.toNat_natCast]
      omega
    · rw [if_neg e, if_neg e]; omega
  rw [e, sumTo_add (fun i => ((pop ((delM s m r c).getD i 0).toNat : Nat) : Int)) (fun i => if i = r then (1 : Int) else 0)]
  have h1 : sumTo (fun i => if i = r then (1 : Int) else 0) s.R = 1 := (sumTo_hit (f := fun i => if i = r then (1 : Int) else 0) hr fun k _ h => if_neg h).trans (if_pos rfl)
  rw [h1]; rfl
theorem del_left {s : Sheet} (hs : SheetOk s) {m : List Int} {r c : Nat} (ho : outS m r c = true) : leftTo s (delM s m r c) s.R ≤ leftTo s m s.R := by
  refine sumTo_le fun i hi => sumTo_le fun j hj => ?_
  have ha := (hs.amt i j hi hj).1
  rw [del_out hi j ho]
  cases outS m i j
  · exact Int.le_refl _
  · rw [if_pos rfl]
    split
    · exact Int.le_refl _
    · exact ha
theorem ag_del {s : Sheet} {m : List Int} {r c : Nat} (hr : r < s.R) (hc : c < s.C) (ho : outS m r c = true) (h : cntR m r s.C ≤ 1 ∨ cntC m c s.R ≤ 1) (x : Nat → Nat → Int) : Ag s (delM s m r c) x ↔ Ag s m x := by
  refine ⟨fun hx => Ag.more (fun i j hi hj h' => ?_) hx, fun hx => ⟨hx.nn, fun i j hi hj h' => ?_, hx.row, hx.col⟩⟩
  · rw [del_out hi j ho] at h'
    cases hq : outS m i j
    · rw [hq] at h'; cases h'
    · rfl
  · rw [del_out hi j ho] at h'
    cases hq : outS m i j
    · exact hx.un i j hi hj hq
    · rw [hq, Bool.true_and, Bool.not_eq_false', Bool.and_eq_true, decide_eq_true_eq, decide_eq_true_eq] at h'
      obtain ⟨rfl, rfl⟩ := h'
      exact only_ag hr hc (.inr h) hx
theorem ag_lo {s : Sheet} {m m2 : List Int} (h : ∀ x, Ag s m2 x ↔ Ag s m x) (r c : Nat) : loV s m2 r c = loV s m r c ∧ hiV s m2 r c = hiV s m r c := by
  have e : Ag s m2 = Ag s m := funext fun x => propext (h x)
  unfold loV hiV IsLo IsHi
  rw [e]
  exact ⟨rfl, rfl⟩
theorem lone_find {s : Sheet} (hs : SheetOk s) {m : List Int} (hm : MaskOk s m) (h : loneS s m = true) : ∃ r c, r < s.R ∧ c < s.C ∧ outS m r c = true ∧ (cntR m r s.C ≤ 1 ∨ cntC m c s.R ≤ 1) := by
  have c4 := hs.c4
  unfold loneS at h
  rw [Bool.or_eq_true, List.any_eq_true, List.any_eq_true] at h
  rcases h with ⟨r, hr, h⟩ | ⟨c, hc, h⟩
  · have hr := List.mem_range.1 hr
    have h := of_decide_eq_true h
    obtain ⟨k, hk, hk16, hkC⟩ := mask_16 hs hm hr
    rw [hk, Int.toNat_natCast] at h
    have e : cntR m r s.C = 1 := by
      have := pop_cnt s.C (by omega) k hk16 hkC
      unfold cntR outS
      rw [hk, Int.toNat_natCast, this, h]; rfl
    by_cases hex : ∃ c, c < s.C ∧ outS m r c = true
    · obtain ⟨c, hc, ho⟩ := hex
      exact ⟨r, c, hr, hc, ho, .inl (by omega)⟩
    · exfalso
      have : cntR m r s.C = 0 := sum_zero fun i hi => if_neg fun ho => hex ⟨i, hi, ho⟩
      omega
  · have hc := List.mem_range.1 hc
    have h := of_decide_eq_true h
    by_cases hex : ∃ r, r < s.R ∧ outS m r c = true
    · obtain ⟨r, hr, ho⟩ := hex
      exact ⟨r, c, hr, hc, ho, .inr (by omega)⟩
    · exfalso
      have : cntC m c s.R = 0 := sum_zero fun i hi => if_neg fun ho => hex ⟨i, hi, ho⟩
      omega
theorem safe_cell {s : Sheet} {m : List Int} (h : safeS s m = true) {r c : Nat} (hr : r < s.R) (hc : c < s.C) : cellSafe s m r c = true := by
  unfold safeS at h
  have h1 := List.all_eq_true.1 h r (List.mem_range.2 hr)
  unfold rowSafe at h1
  exact List.all_eq_true.1 h1 c (List.mem_range.2 hc)
theorem safe_del {s : Sheet} (hs : SheetOk s) {m : List Int} {r c : Nat} (hr : r < s.R) (hc : c < s.C) (ho : outS m r c = true) (h : cntR m r s.C ≤ 1 ∨ cntC m c s.R ≤ 1) (hsafe : safeS s m = true) : safeS s (delM s m r c) = true := by
  refine rall_yes fun i hi => rall_yes fun j hj => ?_
  have h1 := safe_cell hsafe hi hj
  have e := ag_lo (ag_del hr hc ho h) i j
  unfold cellSafe at h1 ⊢
  rw [e.1, e.2, del_out hi j ho]
  by_cases e2 : i = r ∧ j = c
  · obtain ⟨rfl, rfl⟩ := e2
    rw [only_lo hs hr hc (.inr h), only_hi hs hr hc (.inr h)] at h1
    have hg := hs.gap.1
    rw [decide_eq_false (show ¬ s.gap ≤ s.A i j - s.A i j by omega), Bool.and_false, Bool.or_false] at h1
    rw [h1]; rfl
  · have : (decide (i = r) && decide (j = c)) = false := by
      cases hq : (decide (i = r) && decide (j = c))
      · rfl
      · rw [Bool.and_eq_true, decide_eq_true_eq, decide_eq_true_eq] at hq; exact (e2 hq).elim
    rw [this, Bool.not_false, Bool.and_true]; exact h1
theorem cmp_del (w : Bool) {s : Sheet} (hs : SheetOk s) {m : List Int} (hm : MaskOk s m) {r c : Nat} (hr : r < s.R) (hc : c < s.C) (ho : outS m r c = true) : cmpM w s (delM s m r c) m < 0 := by
  have h1 := del_many hs hm hr hc ho
  have h2 := del_left hs (m := m) (r := r) (c := c) ho
  rw [cmpM_lt]
  unfold p1 p2
  cases w
  · simp only [Bool.false_eq_true, if_false]; left; omega
  · simp only [if_true]
    by_cases e : leftTo s (delM s m r c) s.R < leftTo s m s.R
    · exact .inl e
    · exact .inr ⟨by omega, .inl (by omega)⟩
theorem safe_covers {s : Sheet} (hs : SheetOk s) {m : List Int} (hm : MaskOk s m) (h : safeS s m = true) : coversS s m = true := by
  refine rall_yes fun r hr => ?_
  unfold coverR
  obtain ⟨a, ha, ha16, haC⟩ := mask_16 hs hs.sec hr
  obtain ⟨b, hb, hb16, -⟩ := mask_16 hs hm hr
  rw [ha, hb, Int.toNat_natCast, Int.toNat_natCast]
  refine decide_eq_true (Nat.eq_of_testBit_eq fun j => ?_)
  rw [Nat.zero_testBit]
  by_cases hj : j < s.C
  · have h1 := safe_cell h hr hj
    unfold cellSafe outS at h1
    rw [ha, hb, Int.toNat_natCast, Int.toNat_natCast] at h1
    unfold sdiff
    cases ea : a.testBit j
    · simp [ea]
    · rw [ea] at h1
      cases eb : b.testBit j
      · rw [eb] at h1; cases h1
      · simp [ea, eb]
  · have ea : a.testBit j = false := Nat.testBit_lt_two_pow (Nat.lt_of_lt_of_le haC (Nat.pow_le_pow_right (by omega) (by omega)))
    unfold sdiff
    simp [ea]
theorem good_le (w : Bool) {s : Sheet} (hs : SheetOk s) : ∀ (n : Nat) (m : List Int), MaskOk s m → manyTo m s.R ≤ n → safeS s m = true → ∃ g, MaskOk s g ∧ goodS s g = true ∧ (g = m ∨ cmpM w s g m < 0)
  | 0, m, hm, hn, h => by
    cases hl : loneS s m
    · exact ⟨m, hm, by unfold goodS; rw [safe_covers hs hm h, hl, h]; rfl, .inl rfl⟩
    · obtain ⟨r, c, hr, hc, ho, hh⟩ := lone_find hs hm hl
      have := del_many hs hm hr hc ho
      have := many_nn (delM s m r c) s.R
      omega
  | n + 1, m, hm, hn, h => by
    cases hl : loneS s m
    · exact ⟨m, hm, by unfold goodS; rw [safe_covers hs hm h, hl, h]; rfl, .inl rfl⟩
    · obtain ⟨r, c, hr, hc, ho, hh⟩ := lone_find hs hm hl
      have := del_many hs hm hr hc ho
      obtain ⟨g, hg, hgood, hle⟩ := good_le w hs n (delM s m r c) (del_ok hm hc) (by omega) (safe_del hs hr hc ho hh h)
      refine ⟨g, hg, hgood, .inr ?_⟩
      have hd := cmp_del w hs hm hr hc ho
      rcases hle with rfl | hle
      · exact hd
      · exact cmpM_trans (by rw [hg.len, del_len]) hle hd
/-- The best mask is safe and no safe mask comes before it; with no best mask none is safe. -/
theorem best_all (w : Bool) {s : Sheet} (hs : SheetOk s) : match bestO w s with
    | none => ∀ m, MaskOk s m → safeS s m = false
    | some b => MaskOk s b ∧ safeS s b = true ∧ ∀ m, MaskOk s m → safeS s m = true → ¬ cmpM w s m b < 0 := by
  obtain ⟨N, hN⟩ : ∃ N, 2 ^ (s.C * s.R) = N := ⟨_, rfl⟩
  have h := bst_inv w s N
  have e : bestO w s = bstS w s N := by unfold bestO; rw [hN]
  have hgood : ∀ m, MaskOk s m → safeS s m = true → ∃ k, k < N ∧ goodS s (mkS s k) = true ∧ (mkS s k = m ∨ cmpM w s (mkS s k) m < 0) := fun m hm hsf => by
    obtain ⟨g, hg, h1, h2⟩ := good_le w hs (manyTo m s.R).toNat m hm (by have := many_nn m s.R; omega) hsf
    obtain ⟨k, hk, rfl⟩ := mk_of hg
    exact ⟨k, by rw [← hN]; exact hk, h1, h2⟩
  rw [e]
  cases hb : bstS w s N with
  | none =>
    rw [hb] at h
    intro m hm
    cases hsf : safeS s m
    · rfl
    · obtain ⟨k, hk, h1, _⟩ := hgood m hm hsf
      have := h k hk; rw [h1] at this; cases this
  | some b =>
    rw [hb] at h
    obtain ⟨h1, ⟨k0, hk0, hbk⟩, h3⟩ := h
    have hbo : MaskOk s b := by rw [hbk]; exact mkS_ok s k0
    refine ⟨hbo, ?_, fun m hm hsf hlt => ?_⟩
    · unfold goodS at h1; simp only [Bool.and_eq_true] at h1; exact h1.2
    · obtain ⟨k, hk, h4, h5⟩ := hgood m hm hsf
      have h6 := h3 k hk h4
      rcases h5 with h5 | h5
      · rw [h5] at h6; exact h6 hlt
      · exact h6 (cmpM_trans (by rw [mkS_len, hm.len]) h5 hlt)
end Go.Proofs.Ytlffjnmbpoemnaa
