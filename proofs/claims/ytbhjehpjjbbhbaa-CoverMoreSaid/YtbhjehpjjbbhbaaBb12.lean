/- Cover: the statement CoverMore. -/
import Derived.Test.YtbhjehpjjbbhbaaBb11
set_option linter.unusedSimpArgs false
set_option linter.unusedVariables false
namespace Go.Proofs.Ytbhjehpjjbbhbaa
open Go.RowKit

theorem in64_less {p : Pool} {w : List Int} {s i : Nat} (hw : ∀ s, s < w.length → in64 (w.getD s 0)) (hs : s < w.length) (h1 : 0 ≤ w.getD s 0) (h2 : w.getD s 0 < 1000) (h3 : 2 ^ i ≤ 256) : ∀ j, j < (lessL w s i).length → in64 ((lessL w s i).getD j 0) := fun j hj => by
  have h0 := Nat.two_pow_pos i
  rw [less_len] at hj
  rw [less_get hs]
  split
  · unfold in64; omega
  · exact hw j hj
theorem less_row {w0 : Int} {ws : List Int} {s i k o : Nat} {c : Nat → Nat → AV} {x : Int} (hs : s < (w0 :: ws).length) (hx : x = (w0 :: ws).getD s 0 - ((2 ^ i : Nat) : Int)) (ho : o < 1) : AI ((lessL (w0 :: ws) s i).getD k 0) = updRm (appc 0 c (fun k _ => AI ((w0 :: ws).getD k 0))) s (fun _ => AI x) k o := by
  rw [less_get hs]
  simp only [updRm]
  by_cases e : k = s
  · subst e; rw [if_pos rfl, if_pos rfl, hx]
  · rw [if_neg e, if_neg e]
    simp [appc]
set_option maxHeartbeats 8000000
set_option maxRecDepth 100000
theorem more_any (f : PoF) (p : Pool) (z : Bool) (w : List Int) (mz : Bool) (mo : List Int) (hw : ∀ s, s < w.length → in64 (w.getD s 0)) (hlw : w.length ≤ 9223372036854775807) (hmo : ∀ s, s < mo.length → in64 (mo.getD s 0)) (hlm : mo.length ≤ 9223372036854775807) : ACall Try.prog 5 [aPool f p, aInts z false w, aInts mz false mo] [] (fun v h => v = .bool true ∧ h = []) := by
  have hcv := valid_ok f p
  (refine fcall_of mixed Try.func5 rfl (by decide) (hs := { pub := [23] }) ?k (ac := ?ac) ?c (rs := ?rs) ?r ?l ?H; (case k => kernel_rfl); (case c => (conv => (lhs; cbv))); (case r => (conv => (lhs; cbv))); (case l => exact Nat.le_of_ble_eq_true rfl))
  cases hv : validT p
  · rw [hv] at hcv
    (repeat' ((try (conv => whnf)); first | (with_reducible first | refine FCond.tA ?_ | refine FCond.fA ?_) | ((with_reducible refine FCond.i (fun hq => ?_) (fun hq => ?_)) <;> (try simp only [zA, zE, zD, zJ, zB, zI, Int.not_le, Int.not_lt] at hq)) | (with_reducible first | refine Fits.in64 (by omega) ?_ | refine FIdx.nat (by omega) ?_ | refine FIdx.int (by omega) ?_ | refine FTo.nat (by omega) ?_ | refine FTo.int (by omega) ?_) | ((with_reducible refine Need.mk ?_ ?_); focus exact needA) | (with_reducible refine FApp.grow ?_) | (refine FCall.pure (hcv) ⟨Ln.sameB _ rfl, True.intro⟩ rfl ?_) | (refine FCall.pure works_ok True.intro rfl ?_)))
    all_goals (try (conv => whnf))
    all_goals ((refine ⟨⟨_, [], [], Cut.nil _, Ln.sameB _ rfl, ?_, rfl⟩⟩); rfl)
  rw [hv] at hcv
  obtain ⟨hn, hk, h, hs⟩ := valid_d hv
  by_cases hl : w.length ≤ 20
  rotate_left
  · (repeat' ((try (conv => whnf)); first | (with_reducible first | refine FCond.tA ?_ | refine FCond.fA ?_) | ((with_reducible refine FCond.i (fun hq => ?_) (fun hq => ?_)) <;> (try simp only [zA, zE, zD, zJ, zB, zI, Int.not_le, Int.not_lt] at hq)) | (with_reducible first | refine Fits.in64 (by omega) ?_ | refine FIdx.nat (by omega) ?_ | refine FIdx.int (by omega) ?_ | refine FTo.nat (by omega) ?_ | refine FTo.int (by omega) ?_) | ((with_reducible refine Need.mk ?_ ?_); focus exact needA) | (with_reducible refine FApp.grow ?_) | (refine FCall.pure (hcv) ⟨Ln.sameB _ rfl, True.intro⟩ rfl ?_) | (refine FCall.pure works_ok True.intro rfl ?_)))
    all_goals (try (conv => whnf))
    all_goals ((refine ⟨⟨_, [], [], Cut.nil _, Ln.sameB _ rfl, ?_, rfl⟩⟩); rfl)
  by_cases hl2 : mo.length ≤ 20
  rotate_left
  · (repeat' ((try (conv => whnf)); first | (with_reducible first | refine FCond.tA ?_ | refine FCond.fA ?_) | ((with_reducible refine FCond.i (fun hq => ?_) (fun hq => ?_)) <;> (try simp only [zA, zE, zD, zJ, zB, zI, Int.not_le, Int.not_lt] at hq)) | (with_reducible first | refine Fits.in64 (by omega) ?_ | refine FIdx.nat (by omega) ?_ | refine FIdx.int (by omega) ?_ | refine FTo.nat (by omega) ?_ | refine FTo.int (by omega) ?_) | ((with_reducible refine Need.mk ?_ ?_); focus exact needA) | (with_reducible refine FApp.grow ?_) | (refine FCall.pure (hcv) ⟨Ln.sameB _ rfl, True.intro⟩ rfl ?_) | (refine FCall.pure works_ok True.intro rfl ?_)))
    all_goals (try (conv => whnf))
    all_goals ((refine ⟨⟨_, [], [], Cut.nil _, Ln.sameB _ rfl, ?_, rfl⟩⟩); rfl)
  have ciw := isWatch_ok f p z false w (by omega) h
  cases hq : isWatch p w
  · rw [hq] at ciw
    (repeat' ((try (conv => whnf)); first | (with_reducible first | refine FCond.tA ?_ | refine FCond.fA ?_) | ((with_reducible refine FCond.i (fun hq => ?_) (fun hq => ?_)) <;> (try simp only [zA, zE, zD, zJ, zB, zI, Int.not_le, Int.not_lt] at hq)) | (with_reducible first | refine Fits.in64 (by omega) ?_ | refine FIdx.nat (by omega) ?_ | refine FIdx.int (by omega) ?_ | refine FTo.nat (by omega) ?_ | refine FTo.int (by omega) ?_) | ((with_reducible refine Need.mk ?_ ?_); focus exact needA) | (with_reducible refine FApp.grow ?_) | (refine FCall.pure (hcv) ⟨Ln.sameB _ rfl, True.intro⟩ rfl ?_) | (refine FCall.pure (ciw) ⟨Ln.sameB _ rfl, Ln.sameB _ rfl, True.intro⟩ rfl ?_) | (refine FCall.pure works_ok True.intro rfl ?_)))
    all_goals (try (conv => whnf))
    all_goals ((refine ⟨⟨_, [], [], Cut.nil _, Ln.sameB _ rfl, ?_, rfl⟩⟩); rfl)
  rw [hq] at ciw
  have cim := isWatch_ok f p mz false mo (by omega) h
  cases hqm : isWatch p mo
  · rw [hqm] at cim
    (repeat' ((try (conv => whnf)); first | (with_reducible first | refine FCond.tA ?_ | refine FCond.fA ?_) | ((with_reducible refine FCond.i (fun hq => ?_) (fun hq => ?_)) <;> (try simp only [zA, zE, zD, zJ, zB, zI, Int.not_le, Int.not_lt] at hq)) | (with_reducible first | refine Fits.in64 (by omega) ?_ | refine FIdx.nat (by omega) ?_ | refine FIdx.int (by omega) ?_ | refine FTo.nat (by omega) ?_ | refine FTo.int (by omega) ?_) | ((with_reducible refine Need.mk ?_ ?_); focus exact needA) | (with_reducible refine FApp.grow ?_) | (refine FCall.pure (hcv) ⟨Ln.sameB _ rfl, True.intro⟩ rfl ?_) | (refine FCall.pure (ciw) ⟨Ln.sameB _ rfl, Ln.sameB _ rfl, True.intro⟩ rfl ?_) | (refine FCall.pure (cim) ⟨Ln.sameB _ rfl, Ln.sameB _ rfl, True.intro⟩ rfl ?_) | (refine FCall.pure works_ok True.intro rfl ?_)))
    all_goals (try (conv => whnf))
    all_goals ((refine ⟨⟨_, [], [], Cut.nil _, Ln.sameB _ rfl, ?_, rfl⟩⟩); rfl)
  rw [hqm] at cim
  have k := watch_d hq
  have km := watch_d hqm
  have hlen := k.len
  have hlenm := km.len
  have s6 := h.s6
  have s1 := h.s1
  have n8 := h.n8
  have n1 := h.n1
  have hp8 := pow8 h.n8
  have hcw := checkW_0 hk hq
  have hcm := checkW_0 hk hqm
  rcases w with _ | ⟨w0, ws⟩
  · exact absurd hlen (by simp only [List.length_nil]; omega)
  have hwl : (w0 :: ws).length = ws.length + 1 := rfl
  (repeat' ((try (conv => whnf)); first | (with_reducible first | refine FCond.tA ?_ | refine FCond.fA ?_) | ((with_reducible refine FCond.i (fun hq => ?_) (fun hq => ?_)) <;> (try simp only [zA, zE, zD, zJ, zB, zI, Int.not_le, Int.not_lt] at hq)) | (with_reducible first | refine Fits.in64 (by omega) ?_ | refine FIdx.nat (by omega) ?_ | refine FIdx.int (by omega) ?_ | refine FTo.nat (by omega) ?_ | refine FTo.int (by omega) ?_) | ((with_reducible refine Need.mk ?_ ?_); focus exact needA) | (with_reducible refine FApp.grow ?_) | (refine FCall.pure (hcv) ⟨Ln.sameB _ rfl, True.intro⟩ rfl ?_) | (refine FCall.pure (ciw) ⟨Ln.sameB _ rfl, Ln.sameB _ rfl, True.intro⟩ rfl ?_) | (refine FCall.pure (cim) ⟨Ln.sameB _ rfl, Ln.sameB _ rfl, True.intro⟩ rfl ?_)))
  all_goals (try (conv => whnf))
  refine FLoop.of (ACalls.mono _) (X := Nat) (fun s => [(1, aInts z false (w0 :: ws)), (2, aInts mz false mo), (3, .ptr 0 0), (7, AI s)]) (fun _ => [.box 4 (cPool f p)]) (fun s => s ≤ (w0 :: ws).length ∧ ∀ j, j < s → sdiff ((w0 :: ws).getD j 0).toNat (mo.getD j 0).toNat = 0) (fun s => (w0 :: ws).length - s) 0 ⟨⟨Nat.zero_le _, fun j hj => absurd hj (Nat.not_lt_zero j)⟩, [0], Cut.A, allA⟩ ?_
  rintro s ⟨hs2, hsub⟩
  by_cases hlt : s < (w0 :: ws).length
  · obtain ⟨e1, e2, _⟩ := k.el s hlt
    obtain ⟨m1, m2, _⟩ := km.el s (by omega)
    (repeat' ((try (conv => whnf)); first | (with_reducible first | refine FCond.tA ?_ | refine FCond.fA ?_) | ((with_reducible refine FCond.i (fun hq => ?_) (fun hq => ?_)) <;> (try simp only [zA, zE, zD, zJ, zB, zI, Int.not_le, Int.not_lt] at hq)) | (with_reducible first | refine Fits.in64 (by omega) ?_ | refine FIdx.nat (by omega) ?_ | refine FIdx.int (by omega) ?_ | refine FTo.nat (by omega) ?_ | refine FTo.int (by omega) ?_) | ((with_reducible refine Need.mk ?_ ?_); focus exact needA) | (with_reducible first | refine FBit.hasT rfl (by assumption) ?_ | refine FBit.hasF rfl (by assumption) ?_ | refine FBit.shrN rfl (by omega) ?_ | refine FBit.half rfl ?_ | refine FBit.shl1 rfl (by omega) ?_ | refine Fits.inU (by omega) ?_ | refine FBit.shrNI rfl (by omega) ?_ | refine FBit.shrIN rfl (by omega) (by omega) ?_ | refine FBit.shrI rfl (by omega) (by omega) ?_ | refine FBit.shl1I rfl (by omega) ?_) | (with_reducible refine FBit.has rfl (fun hq => ?_) (fun hq => ?_)) | (with_reducible first | refine FBit.and1 rfl ?_ | refine FBit.andN rfl (by omega) (by omega) ?_ | refine FBit.orN rfl (by omega) (by omega) ?_ | refine FBit.andNotN rfl (by omega) (by omega) ?_) | (with_reducible refine FApp.grow ?_) | (refine FBit.andNotI rfl (a := ((w0 :: ws).getD s 0).toNat) (b := (mo.getD s 0).toNat) (by omega) (by omega) (by omega) (by omega) ?_) | (refine FCall.pure works_ok True.intro rfl ?_)))
    all_goals (try (conv => whnf))
    · (refine ⟨⟨_, [], [], Cut.nil _, Ln.sameB _ rfl, ?_, rfl⟩⟩)
      rfl
    · have hq : sdiff ((w0 :: ws).getD s 0).toNat (mo.getD s 0).toNat = 0 := by omega
      (exact ⟨⟨(s + 1), ⟨hlt, below_step hsub hq⟩, by show _ < _; omega, [0], Cut.A, allA⟩⟩)
  obtain rfl : s = (w0 :: ws).length := by omega
  have hmono := safe_mono h k km hsub
  have cS := psafe_ok f p z false (w0 :: ws) hn hw (by omega)
  rw [show safeE p (w0 :: ws) = (safeT p (w0 :: ws), 0) by unfold safeE; rw [if_pos hcw]] at cS
  have cM := psafe_ok f p mz false mo hn hmo (by omega)
  rw [show safeE p mo = (safeT p mo, 0) by unfold safeE; rw [if_pos hcm]] at cM
  have cD := pMissed_ok f p z false (w0 :: ws) hn hw (by omega)
  have hoI : outI (missL p (w0 :: ws)) = aInts false false (missL p (w0 :: ws)) := outI_of (m := p.folk.length - 1) (by rw [missL_len]; omega)
  have cD : ACall Try.prog 24 [aPool f p, aInts z false (w0 :: ws)] [] (fun r h => r = .tup 2 (ofL [aInts false false (missL p (w0 :: ws)), AI 0]) ∧ h = []) := by
    rw [show missedE p (w0 :: ws) = (missL p (w0 :: ws), 0) by unfold missedE; rw [if_pos hcw], show outI (missL p (w0 :: ws), (0 : Int)).1 = aInts false false (missL p (w0 :: ws)) from hoI] at cD
    exact cD
  have hml := missL_len p (w0 :: ws)
  obtain ⟨sf, hsf⟩ : ∃ sf, safeT p (w0 :: ws) = sf := ⟨_, rfl⟩
  obtain ⟨sm, hsm⟩ : ∃ sm, safeT p mo = sm := ⟨_, rfl⟩
  rw [hsf] at cS hmono
  rw [hsm] at cM hmono
  have hsm2 : sf = true → sm = true := hmono
  cases sf
  rotate_left
  · obtain rfl : sm = true := hsm2 rfl
    (repeat' ((try (conv => whnf)); first | (with_reducible first | refine FCond.tA ?_ | refine FCond.fA ?_) | ((with_reducible refine FCond.i (fun hq => ?_) (fun hq => ?_)) <;> (try simp only [zA, zE, zD, zJ, zB, zI, Int.not_le, Int.not_lt] at hq)) | (with_reducible first | refine Fits.in64 (by omega) ?_ | refine FIdx.nat (by omega) ?_ | refine FIdx.int (by omega) ?_ | refine FTo.nat (by omega) ?_ | refine FTo.int (by omega) ?_) | ((with_reducible refine Need.mk ?_ ?_); focus exact needA) | (with_reducible refine FApp.grow ?_) | (refine FCall.pure (cS) ⟨Ln.sameB _ rfl, Ln.sameB _ rfl, True.intro⟩ rfl ?_) | (refine FCall.pure (cM) ⟨Ln.sameB _ rfl, Ln.sameB _ rfl, True.intro⟩ rfl ?_) | (refine FCall.pure (cD) ⟨Ln.sameB _ rfl, Ln.sameB _ rfl, True.intro⟩ rfl ?_)))
    all_goals (try (conv => whnf))
    refine FLoop.of (ACalls.mono _) (X := Nat) (fun i => [(1, aInts z false (w0 :: ws)), (3, .ptr 0 0), (8, .bool true), (12, aInts false false (missL p (w0 :: ws))), (14, AI i)]) (fun _ => [.box 4 (cPool f p)]) (fun i => i ≤ p.folk.length) (fun i => p.folk.length - i) 0 ⟨Nat.zero_le _, [0], Cut.A, allA⟩ ?_
    intro i hi
    by_cases hlt : i < p.folk.length
    rotate_left
    · obtain rfl : i = p.folk.length := by omega
      (repeat' ((try (conv => whnf)); first | (with_reducible first | refine FCond.tA ?_ | refine FCond.fA ?_) | ((with_reducible refine FCond.i (fun hq => ?_) (fun hq => ?_)) <;> (try simp only [zA, zE, zD, zJ, zB, zI, Int.not_le, Int.not_lt] at hq)) | (with_reducible first | refine Fits.in64 (by omega) ?_ | refine FIdx.nat (by omega) ?_ | refine FIdx.int (by omega) ?_ | refine FTo.nat (by omega) ?_ | refine FTo.int (by omega) ?_) | ((with_reducible refine Need.mk ?_ ?_); focus exact needA) | (with_reducible refine FApp.grow ?_) | (refine FCall.pure works_ok True.intro rfl ?_)))
      all_goals (try (conv => whnf))
      (refine ⟨⟨_, [], [], Cut.nil _, Ln.sameB _ rfl, ?_, rfl⟩⟩)
      rfl
    have hmg := missL_get (p := p) (w := w0 :: ws) hlt
    (repeat' ((try (conv => whnf)); first | (with_reducible first | refine FCond.tA ?_ | refine FCond.fA ?_) | ((with_reducible refine FCond.i (fun hq => ?_) (fun hq => ?_)) <;> (try simp only [zA, zE, zD, zJ, zB, zI, Int.not_le, Int.not_lt] at hq)) | (with_reducible first | refine Fits.in64 (by omega) ?_ | refine FIdx.nat (by omega) ?_ | refine FIdx.int (by omega) ?_ | refine FTo.nat (by omega) ?_ | refine FTo.int (by omega) ?_) | ((with_reducible refine Need.mk ?_ ?_); focus exact needA) | (with_reducible refine FApp.grow ?_)))
    all_goals (try (conv => whnf))
    refine FLoop.of (ACalls.mono _) (X := Nat) (fun s => [(1, aInts z false (w0 :: ws)), (3, .ptr 0 0), (8, .bool true), (12, aInts false false (missL p (w0 :: ws))), (14, AI i), (15, AI (missTo p (w0 :: ws) i s : Nat)), (16, AI s)]) (fun _ => [.box 4 (cPool f p)]) (fun s => s ≤ (w0 :: ws).length) (fun s => (w0 :: ws).length - s) 0 ⟨Nat.zero_le _, [0], Cut.A, allA⟩ ?_
    intro s hs
    have hpi := pow8 (n := i) (by omega)
    by_cases hlt2 : s < (w0 :: ws).length
    rotate_left
    · obtain rfl : s = (w0 :: ws).length := by omega
      (repeat' ((try (conv => whnf)); first | (with_reducible first | refine FCond.tA ?_ | refine FCond.fA ?_) | ((with_reducible refine FCond.i (fun hq => ?_) (fun hq => ?_)) <;> (try simp only [zA, zE, zD, zJ, zB, zI, Int.not_le, Int.not_lt] at hq)) | (with_reducible first | refine Fits.in64 (by omega) ?_ | refine FIdx.nat (by omega) ?_ | refine FIdx.int (by omega) ?_ | refine FTo.nat (by omega) ?_ | refine FTo.int (by omega) ?_) | ((with_reducible refine Need.mk ?_ ?_); focus exact needA) | (with_reducible refine FApp.grow ?_)))
      all_goals (try (conv => whnf))
      all_goals first
        | (exfalso; omega)
        | (exact ⟨⟨(i + 1), hlt, by show _ < _; omega, [0], Cut.A, allA⟩⟩)
    obtain ⟨e1, e2, _⟩ := k.el s hlt2
    have hle := missTo_le p (w0 :: ws) i s
    have hst : missTo p (w0 :: ws) i (s + 1) = missTo p (w0 :: ws) i s + if isMiss p s ((w0 :: ws).getD s 0).toNat i then 1 else 0 := rfl
    cases hb : ((w0 :: ws).getD s 0).toNat.testBit i
    · rw [isMiss_un (by omega) (by omega) hb, if_neg (by decide), Nat.add_zero] at hst
      (repeat' ((try (conv => whnf)); first | (with_reducible first | refine FCond.tA ?_ | refine FCond.fA ?_) | ((with_reducible refine FCond.i (fun hq => ?_) (fun hq => ?_)) <;> (try simp only [zA, zE, zD, zJ, zB, zI, Int.not_le, Int.not_lt] at hq)) | (with_reducible first | refine Fits.in64 (by omega) ?_ | refine FIdx.nat (by omega) ?_ | refine FIdx.int (by omega) ?_ | refine FTo.nat (by omega) ?_ | refine FTo.int (by omega) ?_) | ((with_reducible refine Need.mk ?_ ?_); focus exact needA) | (with_reducible first | refine FBit.hasT rfl (by assumption) ?_ | refine FBit.hasF rfl (by assumption) ?_ | refine FBit.shrN rfl (by omega) ?_ | refine FBit.half rfl ?_ | refine FBit.shl1 rfl (by omega) ?_ | refine Fits.inU (by omega) ?_ | refine FBit.shrNI rfl (by omega) ?_ | refine FBit.shrIN rfl (by omega) (by omega) ?_ | refine FBit.shrI rfl (by omega) (by omega) ?_ | refine FBit.shl1I rfl (by omega) ?_) | (with_reducible refine FBit.has rfl (fun hq => ?_) (fun hq => ?_)) | (with_reducible first | refine FBit.and1 rfl ?_ | refine FBit.andN rfl (by omega) (by omega) ?_ | refine FBit.orN rfl (by omega) (by omega) ?_ | refine FBit.andNotN rfl (by omega) (by omega) ?_) | (with_reducible refine FApp.grow ?_)))
      all_goals (try (conv => whnf))
      · have h2 : ((w0 :: ws).getD s 0).toNat.testBit i = true := hq; rw [hb] at h2; cases h2
      · (exact ⟨⟨(s + 1), hlt2, by show _ < _; omega, [0], Cut.A, allA⟩⟩)
    · have e1' : 0 ≤ (w0 :: ws).getD (s - 0) 0 ∧ (w0 :: ws).getD (s - 0) 0 < 256 := by
        show 0 ≤ (w0 :: ws).getD s 0 ∧ (w0 :: ws).getD s 0 < 256
        omega
      obtain ⟨l1, l2, l3⟩ := less_ok h k hlt2 (by omega) hb
      have hcl := checkW_0 hk l1
      have cX := psafe_ok f p false false (lessL (w0 :: ws) s i) hn (in64_less (p := p) hw hlt2 e1 (by omega) hpi.2) (by rw [less_len]; omega)
      rw [show safeE p (lessL (w0 :: ws) s i) = (safeT p (lessL (w0 :: ws) s i), 0) by unfold safeE; rw [if_pos hcl]] at cX
      (repeat' ((try (conv => whnf)); first | (with_reducible first | refine FCond.tA ?_ | refine FCond.fA ?_) | ((with_reducible refine FCond.i (fun hq => ?_) (fun hq => ?_)) <;> (try simp only [zA, zE, zD, zJ, zB, zI, Int.not_le, Int.not_lt] at hq)) | (with_reducible first | refine Fits.in64 (by omega) ?_ | refine FIdx.nat (by omega) ?_ | refine FIdx.int (by omega) ?_ | refine FTo.nat (by omega) ?_ | refine FTo.int (by omega) ?_) | ((with_reducible refine Need.mk ?_ ?_); focus exact needA) | (with_reducible first | refine FBit.hasT rfl (by assumption) ?_ | refine FBit.hasF rfl (by assumption) ?_ | refine FBit.shrN rfl (by omega) ?_ | refine FBit.half rfl ?_ | refine FBit.shl1 rfl (by omega) ?_ | refine Fits.inU (by omega) ?_ | refine FBit.shrNI rfl (by omega) ?_ | refine FBit.shrIN rfl (by omega) (by omega) ?_ | refine FBit.shrI rfl (by omega) (by omega) ?_ | refine FBit.shl1I rfl (by omega) ?_) | (with_reducible refine FBit.has rfl (fun hq => ?_) (fun hq => ?_)) | (with_reducible first | refine FBit.and1 rfl ?_ | refine FBit.andN rfl (by omega) (by omega) ?_ | refine FBit.orN rfl (by omega) (by omega) ?_ | refine FBit.andNotN rfl (by omega) (by omega) ?_) | (with_reducible refine FApp.grow ?_)))
      all_goals (try (conv => whnf))
      rotate_left
      · have h2 : ((w0 :: ws).getD s 0).toNat.testBit i = false := hq; rw [hb] at h2; cases h2
      refine FWk.of [(1, aInts z false (w0 :: ws)), (3, .ptr 0 0), (8, .bool true), (12, aInts false false (missL p (w0 :: ws))), (14, AI i), (15, AI (missTo p (w0 :: ws) i s : Nat)), (16, AI s), (17, aInts false false (lessL (w0 :: ws) s i))] [.box 4 (cPool f p)] [0] (Cut.of (Nat.le_of_ble_eq_true rfl) rfl rfl (CutL.turned rfl LnB.A CutL.done)) ⟨Ln.A, Ln.A, Ln.A, Ln.A, Ln.A, Ln.A, Ln.A, Ln.pubE (goneB rfl) rfl (Nat.le_refl _) (by rw [less_len, hwl]; omega) (fun k hk o ho => less_row hlt2 rfl ho), True.intro⟩ ?_
      rw [l3 hsf] at cX
      have hst : missTo p (w0 :: ws) i (s + 1) = missTo p (w0 :: ws) i s + if coveredT p s (sdiff ((w0 :: ws).getD s 0).toNat (2 ^ i)) then 0 else 1 := by
        rw [hst]
        unfold isMiss
        rw [rall_get (p := fun s => coveredT p s ((w0 :: ws).getD s 0).toNat) hsf hlt2]
        cases coveredT p s (sdiff ((w0 :: ws).getD s 0).toNat (2 ^ i)) <;> rfl
      cases hc : coveredT p s (sdiff ((w0 :: ws).getD s 0).toNat (2 ^ i))
      · rw [hc, if_neg (by decide)] at hst
        rw [hc] at cX
        (repeat' ((try (conv => whnf)); first | (with_reducible first | refine FCond.tA ?_ | refine FCond.fA ?_) | ((with_reducible refine FCond.i (fun hq => ?_) (fun hq => ?_)) <;> (try simp only [zA, zE, zD, zJ, zB, zI, Int.not_le, Int.not_lt] at hq)) | (with_reducible first | refine Fits.in64 (by omega) ?_ | refine FIdx.nat (by omega) ?_ | refine FIdx.int (by omega) ?_ | refine FTo.nat (by omega) ?_ | refine FTo.int (by omega) ?_) | ((with_reducible refine Need.mk ?_ ?_); focus exact needA) | (with_reducible refine FApp.grow ?_) | (refine FCall.pure (cX) ⟨Ln.sameB _ rfl, Ln.sameB _ rfl, True.intro⟩ rfl ?_)))
        all_goals (try (conv => whnf))
        (exact ⟨⟨(s + 1), hlt2, by show _ < _; omega, [0], Cut.A, allA⟩⟩)
      · rw [hc, if_pos rfl, Nat.add_zero] at hst
        rw [hc] at cX
        (repeat' ((try (conv => whnf)); first | (with_reducible first | refine FCond.tA ?_ | refine FCond.fA ?_) | ((with_reducible refine FCond.i (fun hq => ?_) (fun hq => ?_)) <;> (try simp only [zA, zE, zD, zJ, zB, zI, Int.not_le, Int.not_lt] at hq)) | (with_reducible first | refine Fits.in64 (by omega) ?_ | refine FIdx.nat (by omega) ?_ | refine FIdx.int (by omega) ?_ | refine FTo.nat (by omega) ?_ | refine FTo.int (by omega) ?_) | ((with_reducible refine Need.mk ?_ ?_); focus exact needA) | (with_reducible refine FApp.grow ?_) | (refine FCall.pure (cX) ⟨Ln.sameB _ rfl, Ln.sameB _ rfl, True.intro⟩ rfl ?_)))
        all_goals (try (conv => whnf))
        (exact ⟨⟨(s + 1), hlt2, by show _ < _; omega, [0], Cut.A, allA⟩⟩)
  · (repeat' ((try (conv => whnf)); first | (with_reducible first | refine FCond.tA ?_ | refine FCond.fA ?_) | ((with_reducible refine FCond.i (fun hq => ?_) (fun hq => ?_)) <;> (try simp only [zA, zE, zD, zJ, zB, zI, Int.not_le, Int.not_lt] at hq)) | (with_reducible first | refine Fits.in64 (by omega) ?_ | refine FIdx.nat (by omega) ?_ | refine FIdx.int (by omega) ?_ | refine FTo.nat (by omega) ?_ | refine FTo.int (by omega) ?_) | ((with_reducible refine Need.mk ?_ ?_); focus exact needA) | (with_reducible refine FApp.grow ?_) | (refine FCall.pure (cS) ⟨Ln.sameB _ rfl, Ln.sameB _ rfl, True.intro⟩ rfl ?_) | (refine FCall.pure (cM) ⟨Ln.sameB _ rfl, Ln.sameB _ rfl, True.intro⟩ rfl ?_) | (refine FCall.pure (cD) ⟨Ln.sameB _ rfl, Ln.sameB _ rfl, True.intro⟩ rfl ?_)))
    all_goals (try (conv => whnf))
    refine FLoop.of (ACalls.mono _) (X := Nat) (fun i => [(1, aInts z false (w0 :: ws)), (3, .ptr 0 0), (8, .bool false), (12, aInts false false (missL p (w0 :: ws))), (14, AI i)]) (fun _ => [.box 4 (cPool f p)]) (fun i => i ≤ p.folk.length) (fun i => p.folk.length - i) 0 ⟨Nat.zero_le _, [0], Cut.A, allA⟩ ?_
    intro i hi
    by_cases hlt : i < p.folk.length
    rotate_left
    · obtain rfl : i = p.folk.length := by omega
      (repeat' ((try (conv => whnf)); first | (with_reducible first | refine FCond.tA ?_ | refine FCond.fA ?_) | ((with_reducible refine FCond.i (fun hq => ?_) (fun hq => ?_)) <;> (try simp only [zA, zE, zD, zJ, zB, zI, Int.not_le, Int.not_lt] at hq)) | (with_reducible first | refine Fits.in64 (by omega) ?_ | refine FIdx.nat (by omega) ?_ | refine FIdx.int (by omega) ?_ | refine FTo.nat (by omega) ?_ | refine FTo.int (by omega) ?_) | ((with_reducible refine Need.mk ?_ ?_); focus exact needA) | (with_reducible refine FApp.grow ?_) | (refine FCall.pure works_ok True.intro rfl ?_)))
      all_goals (try (conv => whnf))
      (refine ⟨⟨_, [], [], Cut.nil _, Ln.sameB _ rfl, ?_, rfl⟩⟩)
      rfl
    have hmg := missL_get (p := p) (w := w0 :: ws) hlt
    (repeat' ((try (conv => whnf)); first | (with_reducible first | refine FCond.tA ?_ | refine FCond.fA ?_) | ((with_reducible refine FCond.i (fun hq => ?_) (fun hq => ?_)) <;> (try simp only [zA, zE, zD, zJ, zB, zI, Int.not_le, Int.not_lt] at hq)) | (with_reducible first | refine Fits.in64 (by omega) ?_ | refine FIdx.nat (by omega) ?_ | refine FIdx.int (by omega) ?_ | refine FTo.nat (by omega) ?_ | refine FTo.int (by omega) ?_) | ((with_reducible refine Need.mk ?_ ?_); focus exact needA) | (with_reducible refine FApp.grow ?_)))
    all_goals (try (conv => whnf))
    refine FLoop.of (ACalls.mono _) (X := Nat) (fun s => [(1, aInts z false (w0 :: ws)), (3, .ptr 0 0), (8, .bool false), (12, aInts false false (missL p (w0 :: ws))), (14, AI i), (15, AI 0), (16, AI s)]) (fun _ => [.box 4 (cPool f p)]) (fun s => s ≤ (w0 :: ws).length) (fun s => (w0 :: ws).length - s) 0 ⟨Nat.zero_le _, [0], Cut.A, allA⟩ ?_
    intro s hs
    have hpi := pow8 (n := i) (by omega)
    by_cases hlt2 : s < (w0 :: ws).length
    rotate_left
    · obtain rfl : s = (w0 :: ws).length := by omega
      (repeat' ((try (conv => whnf)); first | (with_reducible first | refine FCond.tA ?_ | refine FCond.fA ?_) | ((with_reducible refine FCond.i (fun hq => ?_) (fun hq => ?_)) <;> (try simp only [zA, zE, zD, zJ, zB, zI, Int.not_le, Int.not_lt] at hq)) | (with_reducible first | refine Fits.in64 (by omega) ?_ | refine FIdx.nat (by omega) ?_ | refine FIdx.int (by omega) ?_ | refine FTo.nat (by omega) ?_ | refine FTo.int (by omega) ?_) | ((with_reducible refine Need.mk ?_ ?_); focus exact needA) | (with_reducible refine FApp.grow ?_)))
      all_goals (try (conv => whnf))
      all_goals first
        | (exfalso; omega)
        | (exact ⟨⟨(i + 1), hlt, by show _ < _; omega, [0], Cut.A, allA⟩⟩)
    obtain ⟨e1, e2, _⟩ := k.el s hlt2
    cases hb : ((w0 :: ws).getD s 0).toNat.testBit i
    · (repeat' ((try (conv => whnf)); first | (with_reducible first | refine FCond.tA ?_ | refine FCond.fA ?_) | ((with_reducible refine FCond.i (fun hq => ?_) (fun hq => ?_)) <;> (try simp only [zA, zE, zD, zJ, zB, zI, Int.not_le, Int.not_lt] at hq)) | (with_reducible first | refine Fits.in64 (by omega) ?_ | refine FIdx.nat (by omega) ?_ | refine FIdx.int (by omega) ?_ | refine FTo.nat (by omega) ?_ | refine FTo.int (by omega) ?_) | ((with_reducible refine Need.mk ?_ ?_); focus exact needA) | (with_reducible first | refine FBit.hasT rfl (by assumption) ?_ | refine FBit.hasF rfl (by assumption) ?_ | refine FBit.shrN rfl (by omega) ?_ | refine FBit.half rfl ?_ | refine FBit.shl1 rfl (by omega) ?_ | refine Fits.inU (by omega) ?_ | refine FBit.shrNI rfl (by omega) ?_ | refine FBit.shrIN rfl (by omega) (by omega) ?_ | refine FBit.shrI rfl (by omega) (by omega) ?_ | refine FBit.shl1I rfl (by omega) ?_) | (with_reducible refine FBit.has rfl (fun hq => ?_) (fun hq => ?_)) | (with_reducible first | refine FBit.and1 rfl ?_ | refine FBit.andN rfl (by omega) (by omega) ?_ | refine FBit.orN rfl (by omega) (by omega) ?_ | refine FBit.andNotN rfl (by omega) (by omega) ?_) | (with_reducible refine FApp.grow ?_)))
      all_goals (try (conv => whnf))
      · have h2 : ((w0 :: ws).getD s 0).toNat.testBit i = true := hq; rw [hb] at h2; cases h2
      · (exact ⟨⟨(s + 1), hlt2, by show _ < _; omega, [0], Cut.A, allA⟩⟩)
    · have e1' : 0 ≤ (w0 :: ws).getD (s - 0) 0 ∧ (w0 :: ws).getD (s - 0) 0 < 256 := by
        show 0 ≤ (w0 :: ws).getD s 0 ∧ (w0 :: ws).getD s 0 < 256
        omega
      obtain ⟨l1, l2, l3⟩ := less_ok h k hlt2 (by omega) hb
      have hcl := checkW_0 hk l1
      have cX := psafe_ok f p false false (lessL (w0 :: ws) s i) hn (in64_less (p := p) hw hlt2 e1 (by omega) hpi.2) (by rw [less_len]; omega)
      rw [show safeE p (lessL (w0 :: ws) s i) = (safeT p (lessL (w0 :: ws) s i), 0) by unfold safeE; rw [if_pos hcl]] at cX
      (repeat' ((try (conv => whnf)); first | (with_reducible first | refine FCond.tA ?_ | refine FCond.fA ?_) | ((with_reducible refine FCond.i (fun hq => ?_) (fun hq => ?_)) <;> (try simp only [zA, zE, zD, zJ, zB, zI, Int.not_le, Int.not_lt] at hq)) | (with_reducible first | refine Fits.in64 (by omega) ?_ | refine FIdx.nat (by omega) ?_ | refine FIdx.int (by omega) ?_ | refine FTo.nat (by omega) ?_ | refine FTo.int (by omega) ?_) | ((with_reducible refine Need.mk ?_ ?_); focus exact needA) | (with_reducible first | refine FBit.hasT rfl (by assumption) ?_ | refine FBit.hasF rfl (by assumption) ?_ | refine FBit.shrN rfl (by omega) ?_ | refine FBit.half rfl ?_ | refine FBit.shl1 rfl (by omega) ?_ | refine Fits.inU (by omega) ?_ | refine FBit.shrNI rfl (by omega) ?_ | refine FBit.shrIN rfl (by omega) (by omega) ?_ | refine FBit.shrI rfl (by omega) (by omega) ?_ | refine FBit.shl1I rfl (by omega) ?_) | (with_reducible refine FBit.has rfl (fun hq => ?_) (fun hq => ?_)) | (with_reducible first | refine FBit.and1 rfl ?_ | refine FBit.andN rfl (by omega) (by omega) ?_ | refine FBit.orN rfl (by omega) (by omega) ?_ | refine FBit.andNotN rfl (by omega) (by omega) ?_) | (with_reducible refine FApp.grow ?_)))
      all_goals (try (conv => whnf))
      rotate_left
      · have h2 : ((w0 :: ws).getD s 0).toNat.testBit i = false := hq; rw [hb] at h2; cases h2
      refine FWk.of [(1, aInts z false (w0 :: ws)), (3, .ptr 0 0), (8, .bool false), (12, aInts false false (missL p (w0 :: ws))), (14, AI i), (15, AI 0), (16, AI s), (17, aInts false false (lessL (w0 :: ws) s i))] [.box 4 (cPool f p)] [0] (Cut.of (Nat.le_of_ble_eq_true rfl) rfl rfl (CutL.turned rfl LnB.A CutL.done)) ⟨Ln.A, Ln.A, Ln.A, Ln.A, Ln.A, Ln.A, Ln.A, Ln.pubE (goneB rfl) rfl (Nat.le_refl _) (by rw [less_len, hwl]; omega) (fun k hk o ho => less_row hlt2 rfl ho), True.intro⟩ ?_
      (repeat' ((try (conv => whnf)); first | (with_reducible first | refine FCond.tA ?_ | refine FCond.fA ?_) | ((with_reducible refine FCond.i (fun hq => ?_) (fun hq => ?_)) <;> (try simp only [zA, zE, zD, zJ, zB, zI, Int.not_le, Int.not_lt] at hq)) | (with_reducible first | refine Fits.in64 (by omega) ?_ | refine FIdx.nat (by omega) ?_ | refine FIdx.int (by omega) ?_ | refine FTo.nat (by omega) ?_ | refine FTo.int (by omega) ?_) | ((with_reducible refine Need.mk ?_ ?_); focus exact needA) | (with_reducible refine FApp.grow ?_) | (refine FCall.pure (cX) ⟨Ln.sameB _ rfl, Ln.sameB _ rfl, True.intro⟩ rfl ?_)))
      all_goals (try (conv => whnf))
      (exact ⟨⟨(s + 1), hlt2, by show _ < _; omega, [0], Cut.A, allA⟩⟩)
end Go.Proofs.Ytbhjehpjjbbhbaa
