/- Cover: the statement CoverMore. / Cover, plain: all safe watches in order; the first cheapest one is that of Plan. / Cover: every and Plan of the reference. -/
import Derived.Test.YtbhjehpjjbbhbaaBb11
import Derived.Test.YtbhjehpjjbbhbaaBb10
import Derived.Test.YtbhjehpjjbbhbaaBb9
set_option linter.unusedSimpArgs false
set_option linter.unusedVariables false
namespace Go.Proofs.Ytbhjehpjjbbhbaa
open Go.RowKit

theorem in64_less {p : Pool} {w : List Int} {s i : Nat} (hw : ∀ s, s < w.length → in64 (w.getD s 0)) (hs : s < w.length) (h1 : 0 ≤ w.getD s 0) (h2 : w.getD s 0 < 1000) (h3 : 2 ^ i ≤ 256) : ∀ j, j < (lessL w s i).length → in64 ((lessL w s i).getD j 0) := fun j hj => by
  have h0 := Nat.two_pow_pos i
  rw [less_len] at hj
  rw [less_get hs]
  split
  · unfold in64; omega
  · exact hw j hj
theorem less_row {w0 : Int} {ws : List Int} {s i k o : Nat} {c : Nat → Nat → AV} {x : Int} (hs : s < (w0 :: ws).length) (hx : x = (w0 :: ws).getD s 0 - ((2 ^ i : Nat) : Int)) (ho : o < 1) : AI ((lessL (w0 :: ws) s i).getD k 0) = updRm (appc 0 c (fun k _ => AI ((w0 :: ws).getD k 0))) s (fun _ => AI x) k o := by
  rw [less_get hs]
  simp only [updRm]
  by_cases e : k = s
  · subst e; rw [if_pos rfl, if_pos rfl, hx]
  · rw [if_neg e, if_neg e]
    simp [appc]
set_option maxHeartbeats 8000000
set_option maxRecDepth 100000
theorem more_any (f : PoF) (p : Pool) (z : Bool) (w : List Int) (mz : Bool) (mo : List Int) (hw : ∀ s, s < w.length → in64 (w.getD s 0)) (hlw : w.length ≤ 9223372036854775807) (hmo : ∀ s, s < mo.length → in64 (mo.getD s 0)) (hlm : mo.length ≤ 9223372036854775807) : ACall Try.prog 5 [aPool f p, aInts z false w, aInts mz false mo] [] (fun v h => v = .bool true ∧ h = []) := by
  have hcv := valid_ok f p
  (refine fcall_of mixed Try.func5 rfl (by decide) (hs := { pub := [23] }) ?k (ac := ?ac) ?c (rs := ?rs) ?r ?l ?H; (case k => kernel_rfl); (case c => (conv => (lhs; cbv))); (case r => (conv => (lhs; cbv))); (case l => exact Nat.le_of_ble_eq_true rfl))
  cases hv : validT p
  · rw [hv] at hcv
    (repeat' ((try (conv => whnf)); first | (with_reducible first | refine FCond.tA ?_ | refine FCond.fA ?_) | ((with_reducible refine FCond.i (fun hq => ?_) (fun hq => ?_)) <;> (try simp only [zA, zE, zD, zJ, zB, zI, Int.not_le, Int.not_lt] at hq)) | (with_reducible first | refine Fits.in64 (by omega) ?_ | refine FIdx.nat (by omega) ?_ | refine FIdx.int (by omega) ?_ | refine FTo.nat (by omega) ?_ | refine FTo.int (by omega) ?_) | ((with_reducible refine Need.mk ?_ ?_); focus exact needA) | (with_reducible refine FApp.grow ?_) | (refine FCall.pure (hcv) ⟨Ln.sameB _ rfl, True.intro⟩ rfl ?_) | (refine FCall.pure works_ok True.intro rfl ?_)))
    all_goals (try (conv => whnf))
    all_goals ((refine ⟨⟨_, [], [], Cut.nil _, Ln.sameB _ rfl, ?_, rfl⟩⟩); rfl)
  rw [hv] at hcv
  obtain ⟨hn, hk, h, hs⟩ := valid_d hv
  by_cases hl : w.length ≤ 20
  rotate_left
  · (repeat' ((try (conv => whnf)); first | (with_reducible first | refine FCond.tA ?_ | refine FCond.fA ?_) | ((with_reducible refine FCond.i (fun hq => ?_) (fun hq => ?_)) <;> (try simp only [zA, zE, zD, zJ, zB, zI, Int.not_le, Int.not_lt] at hq)) | (with_reducible first | refine Fits.in64 (by omega) ?_ | refine FIdx.nat (by omega) ?_ | refine FIdx.int (by omega) ?_ | refine FTo.nat (by omega) ?_ | refine FTo.int (by omega) ?_) | ((with_reducible refine Need.mk ?_ ?_); focus exact needA) | (with_reducible refine FApp.grow ?_) | (refine FCall.pure (hcv) ⟨Ln.sameB _ rfl, True.intro⟩ rfl ?_) | (refine FCall.pure works_ok True.intro rfl ?_)))
    all_goals (try (conv => whnf))
    all_goals ((refine ⟨⟨_, [], [], Cut.nil _, Ln.sameB _ rfl, ?_, rfl⟩⟩); rfl)
  by_cases hl2 : mo.length ≤ 20
  rotate_left
  · (repeat' ((try (conv => whnf)); first | (with_reducible first | refine FCond.tA ?_ | refine FCond.fA ?_) | ((with_reducible refine FCond.i (fun hq => ?_) (fun hq => ?_)) <;> (try simp only [zA, zE, zD, zJ, zB, zI, Int.not_le, Int.not_lt] at hq)) | (with_reducible first | refine Fits.in64 (by omega) ?_ | refine FIdx.nat (by omega) ?_ | refine FIdx.int (by omega) ?_ | refine FTo.nat (by omega) ?_ | refine FTo.int (by omega) ?_) | ((with_reducible refine Need.mk ?_ ?_); focus exact needA) | (with_reducible refine FApp.grow ?_) | (refine FCall.pure (hcv) ⟨Ln.sameB _ rfl, True.intro⟩ rfl ?_) | (refine FCall.pure works_ok True.intro rfl ?_)))
    all_goals (try (conv => whnf))
    all_goals ((refine ⟨⟨_, [], [], Cut.nil _, Ln.sameB _ rfl, ?_, rfl⟩⟩); rfl)
  have ciw := isWatch_ok f p z false w (by omega) h
  cases hq : isWatch p w
  · rw [hq] at ciw
    (repeat' ((try (conv => whnf)); first | (with_reducible first | refine FCond.tA ?_ | refine FCond.fA ?_) | ((with_reducible refine FCond.i (fun hq => ?_) (fun hq => ?_)) <;> (try simp only [zA, zE, zD, zJ, zB, zI, Int.not_le, Int.not_lt] at hq)) | (with_reducible first | refine Fits.in64 (by omega) ?_ | refine FIdx.nat (by omega) ?_ | refine FIdx.int (by omega) ?_ | refine FTo.nat (by omega) ?_ | refine FTo.int (by omega) ?_) | ((with_reducible refine Need.mk ?_ ?_); focus exact needA) | (with_reducible refine FApp.grow ?_) | (refine FCall.pure (hcv) ⟨Ln.sameB _ rfl, True.intro⟩ rfl ?_) | (refine FCall.pure (ciw) ⟨Ln.sameB _ rfl, Ln.sameB _ rfl, True.intro⟩ rfl ?_) | (refine FCall.pure works_ok True.intro rfl ?_)))
    all_goals (try (conv => whnf))
    all_goals ((refine ⟨⟨_, [], [], Cut.nil _, Ln.sameB _ rfl, ?_, rfl⟩⟩); rfl)
  rw [hq] at ciw
  have cim := isWatch_ok f p mz false mo (by omega) h
  cases hqm : isWatch p mo
  · rw [hqm] at cim
    (repeat' ((try (conv => whnf)); first | (with_reducible first | refine FCond.tA ?_ | refine FCond.fA ?_) | ((with_reducible refine FCond.i (fun hq => ?_) (fun hq => ?_)) <;> (try simp only [zA, zE, zD, zJ, zB, zI, Int.not_le, Int.not_lt] at hq)) | (with_reducible first | refine Fits.in64 (by omega) ?_ | refine FIdx.nat (by omega) ?_ | refine FIdx.int (by omega) ?_ | refine FTo.nat (by omega) ?_ | refine FTo.int (by omega) ?_) | ((with_reducible refine Need.mk ?_ ?_); focus exact needA) | (with_reducible refine FApp.grow ?_) | (refine FCall.pure (hcv) ⟨Ln.sameB _ rfl, True.intro⟩ rfl ?_) | (refine FCall.pure (ciw) ⟨Ln.sameB _ rfl, Ln.sameB _ rfl, True.intro⟩ rfl ?_) | (refine FCall.pure (cim) ⟨Ln.sameB _ rfl, Ln.sameB _ rfl, True.intro⟩ rfl ?_) | (refine FCall.pure works_ok True.intro rfl ?_)))
    all_goals (try (conv => whnf))
    all_goals ((refine ⟨⟨_, [], [], Cut.nil _, Ln.sameB _ rfl, ?_, rfl⟩⟩); rfl)
  rw [hqm] at cim
  have k := watch_d hq
  have km := watch_d hqm
  have hlen := k.len
  have hlenm := km.len
  have s6 := h.s6
  have s1 := h.s1
  have n8 := h.n8
  have n1 := h.n1
  have hp8 := pow8 h.n8
  have hcw := checkW_0 hk hq
  have hcm := checkW_0 hk hqm
  rcases w with _ | ⟨w0, ws⟩
  · exact absurd hlen (by simp only [List.length_nil]; omega)
  have hwl : (w0 :: ws).length = ws.length + 1 := rfl
  (repeat' ((try (conv => whnf)); first | (with_reducible first | refine FCond.tA ?_ | refine FCond.fA ?_) | ((with_reducible refine FCond.i (fun hq => ?_) (fun hq => ?_)) <;> (try simp only [zA, zE, zD, zJ, zB, zI, Int.not_le, Int.not_lt] at hq)) | (with_reducible first | refine Fits.in64 (by omega) ?_ | refine FIdx.nat (by omega) ?_ | refine FIdx.int (by omega) ?_ | refine FTo.nat (by omega) ?_ | refine FTo.int (by omega) ?_) | ((with_reducible refine Need.mk ?_ ?_); focus exact needA) | (with_reducible refine FApp.grow ?_) | (refine FCall.pure (hcv) ⟨Ln.sameB _ rfl, True.intro⟩ rfl ?_) | (refine FCall.pure (ciw) ⟨Ln.sameB _ rfl, Ln.sameB _ rfl, True.intro⟩ rfl ?_) | (refine FCall.pure (cim) ⟨Ln.sameB _ rfl, Ln.sameB _ rfl, True.intro⟩ rfl ?_)))
  all_goals (try (conv => whnf))
  refine FLoop.of (ACalls.mono _) (X := Nat) (fun s => [(1, aInts z false (w0 :: ws)), (2, aInts mz false mo), (3, .ptr 0 0), (7, AI s)]) (fun _ => [.box 4 (cPool f p)]) (fun s => s ≤ (w0 :: ws).length ∧ ∀ j, j < s → sdiff ((w0 :: ws).getD j 0).toNat (mo.getD j 0).toNat = 0) (fun s => (w0 :: ws).length - s) 0 ⟨⟨Nat.zero_le _, fun j hj => absurd hj (Nat.not_lt_zero j)⟩, [0], Cut.A, allA⟩ ?_
  rintro s ⟨hs2, hsub⟩
  by_cases hlt : s < (w0 :: ws).length
  · obtain ⟨e1, e2, _⟩ := k.el s hlt
    obtain ⟨m1, m2, _⟩ := km.el s (by omega)
    (repeat' ((try (conv => whnf)); first | (with_reducible first | refine FCond.tA ?_ | refine FCond.fA ?_) | ((with_reducible refine FCond.i (fun hq => ?_) (fun hq => ?_)) <;> (try simp only [zA, zE, zD, zJ, zB, zI, Int.not_le, Int.not_lt] at hq)) | (with_reducible first | refine Fits.in64 (by omega) ?_ | refine FIdx.nat (by omega) ?_ | refine FIdx.int (by omega) ?_ | refine FTo.nat (by omega) ?_ | refine FTo.int (by omega) ?_) | ((with_reducible refine Need.mk ?_ ?_); focus exact needA) | (with_reducible first | refine FBit.hasT rfl (by assumption) ?_ | refine FBit.hasF rfl (by assumption) ?_ | refine FBit.shrN rfl (by omega) ?_ | refine FBit.half rfl ?_ | refine FBit.shl1 rfl (by omega) ?_ | refine Fits.inU (by omega) ?_ | refine FBit.shrNI rfl (by omega) ?_ | refine FBit.shrIN rfl (by omega) (by omega) ?_ | refine FBit.shrI rfl (by omega) (by omega) ?_ | refine FBit.shl1I rfl (by omega) ?_) | (with_reducible refine FBit.has rfl (fun hq => ?_) (fun hq => ?_)) | (with_reducible first | refine FBit.and1 rfl ?_ | refine FBit.andN rfl (by omega) (by omega) ?_ | refine FBit.orN rfl (by omega) (by omega) ?_ | refine FBit.andNotN rfl (by omega) (by omega) ?_) | (with_reducible refine FApp.grow ?_) | (refine FBit.andNotI rfl (a := ((w0 :: ws).getD s 0).toNat) (b := (mo.getD s 0).toNat) (by omega) (by omega) (by omega) (by omega) ?_) | (refine FCall.pure works_ok True.intro rfl ?_)))
    all_goals (try (conv => whnf))
    · (refine ⟨⟨_, [], [], Cut.nil _, Ln.sameB _ rfl, ?_, rfl⟩⟩)
      rfl
    · have hq : sdiff ((w0 :: ws).getD s 0).toNat (mo.getD s 0).toNat = 0 := by omega
      (exact ⟨⟨(s + 1), ⟨hlt, below_step hsub hq⟩, by show _ < _; omega, [0], Cut.A, allA⟩⟩)
  obtain rfl : s = (w0 :: ws).length := by omega
  have hmono := safe_mono h k km hsub
  have cS := psafe_ok f p z false (w0 :: ws) hn hw (by omega)
  rw [show safeE p (w0 :: ws) = (safeT p (w0 :: ws), 0) by unfold safeE; rw [if_pos hcw]] at cS
  have cM := psafe_ok f p mz false mo hn hmo (by omega)
  rw [show safeE p mo = (safeT p mo, 0) by unfold safeE; rw [if_pos hcm]] at cM
  have cD := pMissed_ok f p z false (w0 :: ws) hn hw (by omega)
  have hoI : outI (missL p (w0 :: ws)) = aInts false false (missL p (w0 :: ws)) := outI_of (m := p.folk.length - 1) (by rw [missL_len]; omega)
  have cD : ACall Try.prog 24 [aPool f p, aInts z false (w0 :: ws)] [] (fun r h => r = .tup 2 (ofL [aInts false false (missL p (w0 :: ws)), AI 0]) ∧ h = []) := by
    rw [show missedE p (w0 :: ws) = (missL p (w0 :: ws), 0) by unfold missedE; rw [if_pos hcw], show outI (missL p (w0 :: ws), (0 : Int)).1 = aInts false false (missL p (w0 :: ws)) from hoI] at cD
    exact cD
  have hml := missL_len p (w0 :: ws)
  obtain ⟨sf, hsf⟩ : ∃ sf, safeT p (w0 :: ws) = sf := ⟨_, rfl⟩
  obtain ⟨sm, hsm⟩ : ∃ sm, safeT p mo = sm := ⟨_, rfl⟩
  rw [hsf] at cS hmono
  rw [hsm] at cM hmono
  have hsm2 : sf = true → sm = true := hmono
  cases sf
  rotate_left
  · obtain rfl : sm = true := hsm2 rfl
    (repeat' ((try (conv => whnf)); first | (with_reducible first | refine FCond.tA ?_ | refine FCond.fA ?_) | ((with_reducible refine FCond.i (fun hq => ?_) (fun hq => ?_)) <;> (try simp only [zA, zE, zD, zJ, zB, zI, Int.not_le, Int.not_lt] at hq)) | (with_reducible first | refine Fits.in64 (by omega) ?_ | refine FIdx.nat (by omega) ?_ | refine FIdx.int (by omega) ?_ | refine FTo.nat (by omega) ?_ | refine FTo.int (by omega) ?_) | ((with_reducible refine Need.mk ?_ ?_); focus exact needA) | (with_reducible refine FApp.grow ?_) | (refine FCall.pure (cS) ⟨Ln.sameB _ rfl, Ln.sameB _ rfl, True.intro⟩ rfl ?_) | (refine FCall.pure (cM) ⟨Ln.sameB _ rfl, Ln.sameB _ rfl, True.intro⟩ rfl ?_) | (refine FCall.pure (cD) ⟨Ln.sameB _ rfl, Ln.sameB _ rfl, True.intro⟩ rfl ?_)))
    all_goals (try (conv => whnf))
    refine FLoop.of (ACalls.mono _) (X := Nat) (fun i => [(1, aInts z false (w0 :: ws)), (3, .ptr 0 0), (8, .bool true), (12, aInts false false (missL p (w0 :: ws))), (14, AI i)]) (fun _ => [.box 4 (cPool f p)]) (fun i => i ≤ p.folk.length) (fun i => p.folk.length - i) 0 ⟨Nat.zero_le _, [0], Cut.A, allA⟩ ?_
    intro i hi
    by_cases hlt : i < p.folk.length
    rotate_left
    · obtain rfl : i = p.folk.length := by omega
      (repeat' ((try (conv => whnf)); first | (with_reducible first | refine FCond.tA ?_ | refine FCond.fA ?_) | ((with_reducible refine FCond.i (fun hq => ?_) (fun hq => ?_)) <;> (try simp only [zA, zE, zD, zJ, zB, zI, Int.not_le, Int.not_lt] at hq)) | (with_reducible first | refine Fits.in64 (by omega) ?_ | refine FIdx.nat (by omega) ?_ | refine FIdx.int (by omega) ?_ | refine FTo.nat (by omega) ?_ | refine FTo.int (by omega) ?_) | ((with_reducible refine Need.mk ?_ ?_); focus exact needA) | (with_reducible refine FApp.grow ?_) | (refine FCall.pure works_ok True.intro rfl ?_)))
      all_goals (try (conv => whnf))
      (refine ⟨⟨_, [], [], Cut.nil _, Ln.sameB _ rfl, ?_, rfl⟩⟩)
      rfl
    have hmg := missL_get (p := p) (w := w0 :: ws) hlt
    (repeat' ((try (conv => whnf)); first | (with_reducible first | refine FCond.tA ?_ | refine FCond.fA ?_) | ((with_reducible refine FCond.i (fun hq => ?_) (fun hq => ?_)) <;> (try simp only [zA, zE, zD, zJ, zB, zI, Int.not_le, Int.not_lt] at hq)) | (with_reducible first | refine Fits.in64 (by omega) ?_ | refine FIdx.nat (by omega) ?_ | refine FIdx.int (by omega) ?_ | refine FTo.nat (by omega) ?_ | refine FTo.int (by omega) ?_) | ((with_reducible refine Need.mk ?_ ?_); focus exact needA) | (with_reducible refine FApp.grow ?_)))
    all_goals (try (conv => whnf))
    refine FLoop.of (ACalls.mono _) (X := Nat) (fun s => [(1, aInts z false (w0 :: ws)), (3, .ptr 0 0), (8, .bool true), (12, aInts false false (missL p (w0 :: ws))), (14, AI i), (15, AI (missTo p (w0 :: ws) i s : Nat)), (16, AI s)]) (fun _ => [.box 4 (cPool f p)]) (fun s => s ≤ (w0 :: ws).length) (fun s => (w0 :: ws).length - s) 0 ⟨Nat.zero_le _, [0], Cut.A, allA⟩ ?_
    intro s hs
    have hpi := pow8 (n := i) (by omega)
    by_cases hlt2 : s < (w0 :: ws).length
    rotate_left
    · obtain rfl : s = (w0 :: ws).length := by omega
      (repeat' ((try (conv => whnf)); first | (with_reducible first | refine FCond.tA ?_ | refine FCond.fA ?_) | ((with_reducible refine FCond.i (fun hq => ?_) (fun hq => ?_)) <;> (try simp only [zA, zE, zD, zJ, zB, zI, Int.not_le, Int.not_lt] at hq)) | (with_reducible first | refine Fits.in64 (by omega) ?_ | refine FIdx.nat (by omega) ?_ | refine FIdx.int (by omega) ?_ | refine FTo.nat (by omega) ?_ | refine FTo.int (by omega) ?_) | ((with_reducible refine Need.mk ?_ ?_); focus exact needA) | (with_reducible refine FApp.grow ?_)))
      all_goals (try (conv => whnf))
      all_goals first
        | (exfalso; omega)
        | (exact ⟨⟨(i + 1), hlt, by show _ < _; omega, [0], Cut.A, allA⟩⟩)
    obtain ⟨e1, e2, _⟩ := k.el s hlt2
    have hle := missTo_le p (w0 :: ws) i s
    have hst : missTo p (w0 :: ws) i (s + 1) = missTo p (w0 :: ws) i s + if isMiss p s ((w0 :: ws).getD s 0).toNat i then 1 else 0 := rfl
    cases hb : ((w0 :: ws).getD s 0).toNat.testBit i
    · rw [isMiss_un (by omega) (by omega) hb, if_neg (by decide), Nat.add_zero] at hst
      (repeat' ((try (conv => whnf)); first | (with_reducible first | refine FCond.tA ?_ | refine FCond.fA ?_) | ((with_reducible refine FCond.i (fun hq => ?_) (fun hq => ?_)) <;> (try simp only [zA, zE, zD, zJ, zB, zI, Int.not_le, Int.not_lt] at hq)) | (with_reducible first | refine Fits.in64 (by omega) ?_ | refine FIdx.nat (by omega) ?_ | refine FIdx.int (by omega) ?_ | refine FTo.nat (by omega) ?_ | refine FTo.int (by omega) ?_) | ((with_reducible refine Need.mk ?_ ?_); focus exact needA) | (with_reducible first | refine FBit.hasT rfl (by assumption) ?_ | refine FBit.hasF rfl (by assumption) ?_ | refine FBit.shrN rfl (by omega) ?_ | refine FBit.half rfl ?_ | refine FBit.shl1 rfl (by omega) ?_ | refine Fits.inU (by omega) ?_ | refine FBit.shrNI rfl (by omega) ?_ | refine FBit.shrIN rfl (by omega) (by omega) ?_ | refine FBit.shrI rfl (by omega) (by omega) ?_ | refine FBit.shl1I rfl (by omega) ?_) | (with_reducible refine FBit.has rfl (fun hq => ?_) (fun hq => ?_)) | (with_reducible first | refine FBit.and1 rfl ?_ | refine FBit.andN rfl (by omega) (by omega) ?_ | refine FBit.orN rfl (by omega) (by omega) ?_ | refine FBit.andNotN rfl (by omega) (by omega) ?_) | (with_reducible refine FApp.grow ?_)))
      all_goals (try (conv => whnf))
      · have h2 : ((w0 :: ws).getD s 0).toNat.testBit i = true := hq; rw [hb] at h2; cases h2
      · (exact ⟨⟨(s + 1), hlt2, by show _ < _; omega, [0], Cut.A, allA⟩⟩)
    · have e1' : 0 ≤ (w0 :: ws).getD (s - 0) 0 ∧ (w0 :: ws).getD (s - 0) 0 < 256 := by
        show 0 ≤ (w0 :: ws).getD s 0 ∧ (w0 :: ws).getD s 0 < 256
        omega
      obtain ⟨l1, l2, l3⟩ := less_ok h k hlt2 (by omega) hb
      have hcl := checkW_0 hk l1
      have cX := psafe_ok f p false false (lessL (w0 :: ws) s i) hn (in64_less (p := p) hw hlt2 e1 (by omega) hpi.2) (by rw [less_len]; omega)
      rw [show safeE p (lessL (w0 :: ws) s i) = (safeT p (lessL (w0 :: ws) s i), 0) by unfold safeE; rw [if_pos hcl]] at cX
      (repeat' ((try (conv => whnf)); first | (with_reducible first | refine FCond.tA ?_ | refine FCond.fA ?_) | ((with_reducible refine FCond.i (fun hq => ?_) (fun hq => ?_)) <;> (try simp only [zA, zE, zD, zJ, zB, zI, Int.not_le, Int.not_lt] at hq)) | (with_reducible first | refine Fits.in64 (by omega) ?_ | refine FIdx.nat (by omega) ?_ | refine FIdx.int (by omega) ?_ | refine FTo.nat (by omega) ?_ | refine FTo.int (by omega) ?_) | ((with_reducible refine Need.mk ?_ ?_); focus exact needA) | (with_reducible first | refine FBit.hasT rfl (by assumption) ?_ | refine FBit.hasF rfl (by assumption) ?_ | refine FBit.shrN rfl (by omega) ?_ | refine FBit.half rfl ?_ | refine FBit.shl1 rfl (by omega) ?_ | refine Fits.inU (by omega) ?_ | refine FBit.shrNI rfl (by omega) ?_ | refine FBit.shrIN rfl (by omega) (by omega) ?_ | refine FBit.shrI rfl (by omega) (by omega) ?_ | refine FBit.shl1I rfl (by omega) ?_) | (with_reducible refine FBit.has rfl (fun hq => ?_) (fun hq => ?_)) | (with_reducible first | refine FBit.and1 rfl ?_ | refine FBit.andN rfl (by omega) (by omega) ?_ | refine FBit.orN rfl (by omega) (by omega) ?_ | refine FBit.andNotN rfl (by omega) (by omega) ?_) | (with_reducible refine FApp.grow ?_)))
      all_goals (try (conv => whnf))
      rotate_left
      · have h2 : ((w0 :: ws).getD s 0).toNat.testBit i = false := hq; rw [hb] at h2; cases h2
      refine FWk.of [(1, aInts z false (w0 :: ws)), (3, .ptr 0 0), (8, .bool true), (12, aInts false false (missL p (w0 :: ws))), (14, AI i), (15, AI (missTo p (w0 :: ws) i s : Nat)), (16, AI s), (17, aInts false false (lessL (w0 :: ws) s i))] [.box 4 (cPool f p)] [0] (Cut.of (Nat.le_of_ble_eq_true rfl) rfl rfl (CutL.turned rfl LnB.A CutL.done)) ⟨Ln.A, Ln.A, Ln.A, Ln.A, Ln.A, Ln.A, Ln.A, Ln.pubE (goneB rfl) rfl (Nat.le_refl _) (by rw [less_len, hwl]; omega) (fun k hk o ho => less_row hlt2 rfl ho), True.intro⟩ ?_
      rw [l3 hsf] at cX
      have hst : missTo p (w0 :: ws) i (s + 1) = missTo p (w0 :: ws) i s + if coveredT p s (sdiff ((w0 :: ws).getD s 0).toNat (2 ^ i)) then 0 else 1 := by
        rw [hst]
        unfold isMiss
        rw [rall_get (p := fun s => coveredT p s ((w0 :: ws).getD s 0).toNat) hsf hlt2]
        cases coveredT p s (sdiff ((w0 :: ws).getD s 0).toNat (2 ^ i)) <;> rfl
      cases hc : coveredT p s (sdiff ((w0 :: ws).getD s 0).toNat (2 ^ i))
      · rw [hc, if_neg (by decide)] at hst
        rw [hc] at cX
        (repeat' ((try (conv => whnf)); first | (with_reducible first | refine FCond.tA ?_ | refine FCond.fA ?_) | ((with_reducible refine FCond.i (fun hq => ?_) (fun hq => ?_)) <;> (try simp only [zA, zE, zD, zJ, zB, zI, Int.not_le, Int.not_lt] at hq)) | (with_reducible first | refine Fits.in64 (by omega) ?_ | refine FIdx.nat (by omega) ?_ | refine FIdx.int (by omega) ?_ | refine FTo.nat (by omega) ?_ | refine FTo.int (by omega) ?_) | ((with_reducible refine Need.mk ?_ ?_); focus exact needA) | (with_reducible refine FApp.grow ?_) | (refine FCall.pure (cX) ⟨Ln.sameB _ rfl, Ln.sameB _ rfl, True.intro⟩ rfl ?_)))
        all_goals (try (conv => whnf))
        (exact ⟨⟨(s + 1), hlt2, by show _ < _; omega, [0], Cut.A, allA⟩⟩)
      · rw [hc, if_pos rfl, Nat.add_zero] at hst
        rw [hc] at cX
        (repeat' ((try (conv => whnf)); first | (with_reducible first | refine FCond.tA ?_ | refine FCond.fA ?_) | ((with_reducible refine FCond.i (fun hq => ?_) (fun hq => ?_)) <;> (try simp only [zA, zE, zD, zJ, zB, zI, Int.not_le, Int.not_lt] at hq)) | (with_reducible first | refine Fits.in64 (by omega) ?_ | refine FIdx.nat (by omega) ?_ | refine FIdx.int (by omega) ?_ | refine FTo.nat (by omega) ?_ | refine FTo.int (by omega) ?_) | ((with_reducible refine Need.mk ?_ ?_); focus exact needA) | (with_reducible refine FApp.grow ?_) | (refine FCall.pure (cX) ⟨Ln.sameB _ rfl, Ln.sameB _ rfl, True.intro⟩ rfl ?_)))
        all_goals (try (conv => whnf))
        (exact ⟨⟨(s + 1), hlt2, by show _ < _; omega, [0], Cut.A, allA⟩⟩)
  · (repeat' ((try (conv => whnf)); first | (with_reducible first | refine FCond.tA ?_ | refine FCond.fA ?_) | ((with_reducible refine FCond.i (fun hq => ?_) (fun hq => ?_)) <;> (try simp only [zA, zE, zD, zJ, zB, zI, Int.not_le, Int.not_lt] at hq)) | (with_reducible first | refine Fits.in64 (by omega) ?_ | refine FIdx.nat (by omega) ?_ | refine FIdx.int (by omega) ?_ | refine FTo.nat (by omega) ?_ | refine FTo.int (by omega) ?_) | ((with_reducible refine Need.mk ?_ ?_); focus exact needA) | (with_reducible refine FApp.grow ?_) | (refine FCall.pure (cS) ⟨Ln.sameB _ rfl, Ln.sameB _ rfl, True.intro⟩ rfl ?_) | (refine FCall.pure (cM) ⟨Ln.sameB _ rfl, Ln.sameB _ rfl, True.intro⟩ rfl ?_) | (refine FCall.pure (cD) ⟨Ln.sameB _ rfl, Ln.sameB _ rfl, True.intro⟩ rfl ?_)))
    all_goals (try (conv => whnf))
    refine FLoop.of (ACalls.mono _) (X := Nat) (fun i => [(1, aInts z false (w0 :: ws)), (3, .ptr 0 0), (8, .bool false), (12, aInts false false (missL p (w0 :: ws))), (14, AI i)]) (fun _ => [.box 4 (cPool f p)]) (fun i => i ≤ p.folk.length) (fun i => p.folk.length - i) 0 ⟨Nat.zero_le _, [0], Cut.A, allA⟩ ?_
    intro i hi
    by_cases hlt : i < p.folk.length
    rotate_left
    · obtain rfl : i = p.folk.length := by omega
      (repeat' ((try (conv => whnf)); first | (with_reducible first | refine FCond.tA ?_ | refine FCond.fA ?_) | ((with_reducible refine FCond.i (fun hq => ?_) (fun hq => ?_)) <;> (try simp only [zA, zE, zD, zJ, zB, zI, Int.not_le, Int.not_lt] at hq)) | (with_reducible first | refine Fits.in64 (by omega) ?_ | refine FIdx.nat (by omega) ?_ | refine FIdx.int (by omega) ?_ | refine FTo.nat (by omega) ?_ | refine FTo.int (by omega) ?_) | ((with_reducible refine Need.mk ?_ ?_); focus exact needA) | (with_reducible refine FApp.grow ?_) | (refine FCall.pure works_ok True.intro rfl ?_)))
      all_goals (try (conv => whnf))
      (refine ⟨⟨_, [], [], Cut.nil _, Ln.sameB _ rfl, ?_, rfl⟩⟩)
      rfl
    have hmg := missL_get (p := p) (w := w0 :: ws) hlt
    (repeat' ((try (conv => whnf)); first | (with_reducible first | refine FCond.tA ?_ | refine FCond.fA ?_) | ((with_reducible refine FCond.i (fun hq => ?_) (fun hq => ?_)) <;> (try simp only [zA, zE, zD, zJ, zB, zI, Int.not_le, Int.not_lt] at hq)) | (with_reducible first | refine Fits.in64 (by omega) ?_ | refine FIdx.nat (by omega) ?_ | refine FIdx.int (by omega) ?_ | refine FTo.nat (by omega) ?_ | refine FTo.int (by omega) ?_) | ((with_reducible refine Need.mk ?_ ?_); focus exact needA) | (with_reducible refine FApp.grow ?_)))
    all_goals (try (conv => whnf))
    refine FLoop.of (ACalls.mono _) (X := Nat) (fun s => [(1, aInts z false (w0 :: ws)), (3, .ptr 0 0), (8, .bool false), (12, aInts false false (missL p (w0 :: ws))), (14, AI i), (15, AI 0), (16, AI s)]) (fun _ => [.box 4 (cPool f p)]) (fun s => s ≤ (w0 :: ws).length) (fun s => (w0 :: ws).length - s) 0 ⟨Nat.zero_le _, [0], Cut.A, allA⟩ ?_
    intro s hs
    have hpi := pow8 (n := i) (by omega)
    by_cases hlt2 : s < (w0 :: ws).length
    rotate_left
    · obtain rfl : s = (w0 :: ws).length := by omega
      (repeat' ((try (conv => whnf)); first | (with_reducible first | refine FCond.tA ?_ | refine FCond.fA ?_) | ((with_reducible refine FCond.i (fun hq => ?_) (fun hq => ?_)) <;> (try simp only [zA, zE, zD, zJ, zB, zI, Int.not_le, Int.not_lt] at hq)) | (with_reducible first | refine Fits.in64 (by omega) ?_ | refine FIdx.nat (by omega) ?_ | refine FIdx.int (by omega) ?_ | refine FTo.nat (by omega) ?_ | refine FTo.int (by omega) ?_) | ((with_reducible refine Need.mk ?_ ?_); focus exact needA) | (with_reducible refine FApp.grow ?_)))
      all_goals (try (conv => whnf))
      all_goals first
        | (exfalso; omega)
        | (exact ⟨⟨(i + 1), hlt, by show _ < _; omega, [0], Cut.A, allA⟩⟩)
    obtain ⟨e1, e2, _⟩ := k.el s hlt2
    cases hb : ((w0 :: ws).getD s 0).toNat.testBit i
    · (repeat' ((try (conv => whnf)); first | (with_reducible first | refine FCond.tA ?_ | refine FCond.fA ?_) | ((with_reducible refine FCond.i (fun hq => ?_) (fun hq => ?_)) <;> (try simp only [zA, zE, zD, zJ, zB, zI, Int.not_le, Int.not_lt] at hq)) | (with_reducible first | refine Fits.in64 (by omega) ?_ | refine FIdx.nat (by omega) ?_ | refine FIdx.int (by omega) ?_ | refine FTo.nat (by omega) ?_ | refine FTo.int (by omega) ?_) | ((with_reducible refine Need.mk ?_ ?_); focus exact needA) | (with_reducible first | refine FBit.hasT rfl (by assumption) ?_ | refine FBit.hasF rfl (by assumption) ?_ | refine FBit.shrN rfl (by omega) ?_ | refine FBit.half rfl ?_ | refine FBit.shl1 rfl (by omega) ?_ | refine Fits.inU (by omega) ?_ | refine FBit.shrNI rfl (by omega) ?_ | refine FBit.shrIN rfl (by omega) (by omega) ?_ | refine FBit.shrI rfl (by omega) (by omega) ?_ | refine FBit.shl1I rfl (by omega) ?_) | (with_reducible refine FBit.has rfl (fun hq => ?_) (fun hq => ?_)) | (with_reducible first | refine FBit.and1 rfl ?_ | refine FBit.andN rfl (by omega) (by omega) ?_ | refine FBit.orN rfl (by omega) (by omega) ?_ | refine FBit.andNotN rfl (by omega) (by omega) ?_) | (with_reducible refine FApp.grow ?_)))
      all_goals (try (conv => whnf))
      · have h2 : ((w0 :: ws).getD s 0).toNat.testBit i = true := hq; rw [hb] at h2; cases h2
      · (exact ⟨⟨(s + 1), hlt2, by show _ < _; omega, [0], Cut.A, allA⟩⟩)
    · have e1' : 0 ≤ (w0 :: ws).getD (s - 0) 0 ∧ (w0 :: ws).getD (s - 0) 0 < 256 := by
        show 0 ≤ (w0 :: ws).getD s 0 ∧ (w0 :: ws).getD s 0 < 256
        omega
      obtain ⟨l1, l2, l3⟩ := less_ok h k hlt2 (by omega) hb
      have hcl := checkW_0 hk l1
      have cX := psafe_ok f p false false (lessL (w0 :: ws) s i) hn (in64_less (p := p) hw hlt2 e1 (by omega) hpi.2) (by rw [less_len]; omega)
      rw [show safeE p (lessL (w0 :: ws) s i) = (safeT p (lessL (w0 :: ws) s i), 0) by unfold safeE; rw [if_pos hcl]] at cX
      (repeat' ((try (conv => whnf)); first | (with_reducible first | refine FCond.tA ?_ | refine FCond.fA ?_) | ((with_reducible refine FCond.i (fun hq => ?_) (fun hq => ?_)) <;> (try simp only [zA, zE, zD, zJ, zB, zI, Int.not_le, Int.not_lt] at hq)) | (with_reducible first | refine Fits.in64 (by omega) ?_ | refine FIdx.nat (by omega) ?_ | refine FIdx.int (by omega) ?_ | refine FTo.nat (by omega) ?_ | refine FTo.int (by omega) ?_) | ((with_reducible refine Need.mk ?_ ?_); focus exact needA) | (with_reducible first | refine FBit.hasT rfl (by assumption) ?_ | refine FBit.hasF rfl (by assumption) ?_ | refine FBit.shrN rfl (by omega) ?_ | refine FBit.half rfl ?_ | refine FBit.shl1 rfl (by omega) ?_ | refine Fits.inU (by omega) ?_ | refine FBit.shrNI rfl (by omega) ?_ | refine FBit.shrIN rfl (by omega) (by omega) ?_ | refine FBit.shrI rfl (by omega) (by omega) ?_ | refine FBit.shl1I rfl (by omega) ?_) | (with_reducible refine FBit.has rfl (fun hq => ?_) (fun hq => ?_)) | (with_reducible first | refine FBit.and1 rfl ?_ | refine FBit.andN rfl (by omega) (by omega) ?_ | refine FBit.orN rfl (by omega) (by omega) ?_ | refine FBit.andNotN rfl (by omega) (by omega) ?_) | (with_reducible refine FApp.grow ?_)))
      all_goals (try (conv => whnf))
      rotate_left
      · have h2 : ((w0 :: ws).getD s 0).toNat.testBit i = false := hq; rw [hb] at h2; cases h2
      refine FWk.of [(1, aInts z false (w0 :: ws)), (3, .ptr 0 0), (8, .bool false), (12, aInts false false (missL p (w0 :: ws))), (14, AI i), (15, AI 0), (16, AI s), (17, aInts false false (lessL (w0 :: ws) s i))] [.box 4 (cPool f p)] [0] (Cut.of (Nat.le_of_ble_eq_true rfl) rfl rfl (CutL.turned rfl LnB.A CutL.done)) ⟨Ln.A, Ln.A, Ln.A, Ln.A, Ln.A, Ln.A, Ln.A, Ln.pubE (goneB rfl) rfl (Nat.le_refl _) (by rw [less_len, hwl]; omega) (fun k hk o ho => less_row hlt2 rfl ho), True.intro⟩ ?_
      (repeat' ((try (conv => whnf)); first | (with_reducible first | refine FCond.tA ?_ | refine FCond.fA ?_) | ((with_reducible refine FCond.i (fun hq => ?_) (fun hq => ?_)) <;> (try simp only [zA, zE, zD, zJ, zB, zI, Int.not_le, Int.not_lt] at hq)) | (with_reducible first | refine Fits.in64 (by omega) ?_ | refine FIdx.nat (by omega) ?_ | refine FIdx.int (by omega) ?_ | refine FTo.nat (by omega) ?_ | refine FTo.int (by omega) ?_) | ((with_reducible refine Need.mk ?_ ?_); focus exact needA) | (with_reducible refine FApp.grow ?_) | (refine FCall.pure (cX) ⟨Ln.sameB _ rfl, Ln.sameB _ rfl, True.intro⟩ rfl ?_)))
      all_goals (try (conv => whnf))
      (exact ⟨⟨(s + 1), hlt2, by show _ < _; omega, [0], Cut.A, allA⟩⟩)
end Go.Proofs.Ytbhjehpjjbbhbaa

namespace Go.Proofs.Ytbhjehpjjbbhbaa
open Go.RowKit

def everyV (p : Pool) : Nat → List Int → List (List Nat)
  | 0, _ => [[]]
  | r + 1, t => (coversT p (p.needs.length - (r + 1))).flatMap fun g => if fitsU p.folk.length g t then (everyV p r (useL p.folk.length g t)).map (g :: ·) else []
theorem mem_every {p : Pool} : ∀ r t v, v ∈ everyV p r t ↔ FitW p r t v
  | 0, t, v => by
    rw [everyV, List.mem_singleton]; rfl
  | r + 1, t, v => by
    rw [everyV, List.mem_flatMap]
    constructor
    · rintro ⟨g, h1, h2⟩
      split at h2
      · rename_i hf
        obtain ⟨v', h3, rfl⟩ := List.mem_map.1 h2
        exact ⟨g, v', rfl, h1, hf, (mem_every r _ v').1 h3⟩
      · cases h2
    · rintro ⟨g, v', rfl, h1, hf, h3⟩
      exact ⟨g, h1, by rw [if_pos hf]; exact List.mem_map.2 ⟨v', (mem_every r _ v').2 h3, rfl⟩⟩
theorem every_sorted {p : Pool} : ∀ r t, (everyV p r t).Pairwise fun x y => ltL (toI x) (toI y) = true
  | 0, t => by rw [everyV]; exact List.pairwise_singleton _ _
  | r + 1, t => by
    rw [everyV, List.pairwise_flatMap]
    constructor
    · intro g _
      split
      · rw [List.pairwise_map]
        refine (every_sorted r (useL p.folk.length g t)).imp fun {x y} h => ?_
        show (if ((g : Nat) : Int) = ((g : Nat) : Int) then ltL (toI x) (toI y) else _) = true
        rw [if_pos rfl]; exact h
      · exact List.Pairwise.nil
    · refine (covers_sorted p (p.needs.length - (r + 1))).imp fun {g g'} h x hx y hy => ?_
      split at hx
      · split at hy
        · obtain ⟨x', _, rfl⟩ := List.mem_map.1 hx
          obtain ⟨y', _, rfl⟩ := List.mem_map.1 hy
          show (if ((g : Nat) : Int) = ((g' : Nat) : Int) then _ else decide (((g : Nat) : Int) < ((g' : Nat) : Int))) = true
          rw [if_neg (by omega)]
          exact decide_eq_true (by omega)
        · cases hy
      · cases hx
def pickT (p : Pool) (l : List (List Nat)) : Nat → List Nat
  | 0 => l.getD 0 []
  | k + 1 => if costL p (l.getD k []) < costL p (pickT p l k) then l.getD k [] else pickT p l k
theorem pick_at {p : Pool} {l : List (List Nat)} (hl : 0 < l.length) : ∀ k, k ≤ l.length → ∃ j, j < l.length ∧ pickT p l k = l.getD j [] ∧ (∀ i, i < j → costL p (l.getD j []) < costL p (l.getD i [])) ∧ ∀ i, i < k → costL p (l.getD j []) ≤ costL p (l.getD i [])
  | 0, _ => ⟨0, hl, rfl, fun i hi => absurd hi (Nat.not_lt_zero i), fun i hi => absurd hi (Nat.not_lt_zero i)⟩
  | k + 1, hk => by
    obtain ⟨j, h1, h2, h3, h4⟩ := pick_at hl k (by omega)
    rw [pickT, h2]
    by_cases hc : costL p (l.getD k []) < costL p (l.getD j [])
    · rw [if_pos hc]
      refine ⟨k, by omega, rfl, fun i hi => by have := h4 i hi; omega, fun i hi => ?_⟩
      by_cases e : i = k
      · subst e; exact Int.le_refl _
      · have := h4 i (by omega); omega
    · rw [if_neg hc]
      refine ⟨j, h1, rfl, h3, fun i hi => ?_⟩
      by_cases e : i = k
      · subst e; omega
      · exact h4 i (by omega)
def refPlanE (p : Pool) : List Int × Int × Int := if p.ok then (if (everyV p p.needs.length (leftL p)).length = 0 then ([], 0, 3) else (toI (pickT p (everyV p p.needs.length (leftL p)) (everyV p p.needs.length (leftL p)).length), costL p (pickT p (everyV p p.needs.length (leftL p)) (everyV p p.needs.length (leftL p)).length), 0)) else ([], 0, 100)
theorem getD_memV {l : List (List Nat)} {i : Nat} (h : i < l.length) : l.getD i [] ∈ l := by simp [List.getD, List.getElem?_eq_getElem h]
theorem refPlan_eq (p : Pool) : refPlanE p = planE p := by
  unfold refPlanE
  cases hk : p.ok
  · unfold planE; rw [hk]; rfl
  have h := pool_d hk
  rw [if_pos rfl]
  generalize hl : everyV p p.needs.length (leftL p) = l
  have hmem : ∀ v, v ∈ l ↔ isWatch p (toI v) = true ∧ safeT p (toI v) = true := fun v => by
    rw [← hl, mem_every]; exact fit_safe h
  have hsrt : l.Pairwise fun x y => ltL (toI x) (toI y) = true := by rw [← hl]; exact every_sorted _ _
  rcases plan_best h hk with ⟨v, hE, hv1, hv2, hv3⟩ | ⟨hE, hno⟩
  · have hv := (hmem v).2 ⟨hv1, hv2⟩
    have hpos : 0 < l.length := List.length_pos_of_mem hv
    rw [if_neg (by omega), hE]
    obtain ⟨j, h1, h2, h3, h4⟩ := pick_at (p := p) hpos l.length (Nat.le_refl _)
    obtain ⟨i, hi, e⟩ := List.mem_iff_getElem.1 hv
    have hiv : l.getD i [] = v := by simp [List.getD, List.getElem?_eq_getElem hi, e]
    have hu := (hmem _).1 (getD_memV (i := j) h1)
    have k1 := h4 i hi
    have k2 := hv3 _ hu.1 hu.2
    rw [cost_toI] at k2
    rw [hiv] at k1
    have hj : j = i := by
      by_cases e1 : j = i
      · exact e1
      · rcases Nat.lt_or_ge i j with e2 | e2
        · have := h3 i e2
          rw [hiv] at this
          omega
        · have := List.pairwise_iff_getElem.1 hsrt j i h1 hi (by omega)
          rcases k2 with k2 | ⟨_, k2⟩
          · omega
          · rw [show l.getD j [] = l[j] by simp [List.getD, List.getElem?_eq_getElem h1], ← e, this] at k2
            cases k2
    rw [h2, hj, hiv]
  · have : l.length = 0 := by
      rcases l with _ | ⟨x, xs⟩
      · rfl
      · obtain ⟨a, b⟩ := (hmem x).1 (by simp)
        rw [hno _ a] at b; cases b
    rw [if_pos this, hE]
end Go.Proofs.Ytbhjehpjjbbhbaa

namespace Go.Proofs.Ytbhjehpjjbbhbaa
open Go.RowKit

abbrev aLs (l : List (List Int)) : AV := .sl l.isEmpty l.isEmpty l.length 1 (fun k _ => aInts false false (l.getD k []))
abbrev aAll (p : Pool) : AV := .sl false false p.needs.length 1 (fun s _ => aNI (coversT p s))
abbrev rowLs (n : Nat) (l : List (List Int)) : AB := .row n 1 (fun k _ => aInts false false (l.getD k []))
def leftN (p : Pool) (t : List Int) : List Int := (List.range p.folk.length).map fun i => t.getD i 0
theorem leftN_len (p : Pool) (t : List Int) : (leftN p t).length = p.folk.length := by simp [leftN]
theorem leftN_get {p : Pool} {t : List Int} {i : Nat} (h : i < p.folk.length) : (leftN p t).getD i 0 = t.getD i 0 := by simp [leftN, List.getD, h]
def evG (p : Pool) (r : Nat) (t : List Int) (first : List Nat) (g : Nat) : List (List Int) := if fitsU p.folk.length g t then (everyV p r (useL p.folk.length g t)).map fun v => toI (first ++ g :: v) else []
def evTo (p : Pool) (r : Nat) (t : List Int) (first : List Nat) (l : List Nat) : Nat → List (List Int)
  | 0 => []
  | k + 1 => evTo p r t first l k ++ evG p r t first (l.getD k 0)
theorem evTo_flat (p : Pool) (r : Nat) (t : List Int) (first : List Nat) (l : List Nat) : ∀ k, k ≤ l.length → evTo p r t first l k = (l.take k).flatMap (evG p r t first)
  | 0, _ => by simp [evTo]
  | k + 1, h => by
    have e : l.getD k 0 = l[k] := by simp [List.getD, List.getElem?_eq_getElem (show k < l.length by omega)]
    rw [evTo, evTo_flat p r t first l k (by omega), List.take_add_one, List.getElem?_eq_getElem (by omega), e]
    simp only [Option.toList_some, List.flatMap_append, List.flatMap_cons, List.flatMap_nil, List.append_nil]
theorem evTo_end {p : Pool} {r s : Nat} (hs : s + (r + 1) = p.needs.length) (t : List Int) (first : List Nat) : evTo p r t first (coversT p s) (coversT p s).length = (everyV p (r + 1) t).map fun v => toI (first ++ v) := by
  rw [evTo_flat _ _ _ _ _ _ (Nat.le_refl _), List.take_length, everyV, show p.needs.length - (r + 1) = s by omega, List.map_flatMap]
  congr 1
  funext g
  unfold evG
  split
  · rw [List.map_map]; rfl
  · rfl
theorem evTo_len {p : Pool} {r : Nat} {t : List Int} {first : List Nat} {l : List Nat} (hG : ∀ t, (everyV p r t).length ≤ 32 ^ r) : ∀ k, (evTo p r t first l k).length ≤ k * 32 ^ r
  | 0 => Nat.zero_le _
  | k + 1 => by
    have ih := evTo_len (t := t) (first := first) (l := l) hG k
    have : (evG p r t first (l.getD k 0)).length ≤ 32 ^ r := by
      unfold evG
      split
      · rw [List.length_map]; exact hG _
      · exact Nat.zero_le _
    rw [evTo, List.length_append, Nat.succ_mul]
    omega
theorem ev_len {p : Pool} (hn : p.folk.length ≤ 5) : ∀ r, r ≤ p.needs.length → ∀ t, (everyV p r t).length ≤ 32 ^ r
  | 0, _, _ => by rw [everyV]; exact Nat.le_refl _
  | r + 1, hr, t => by
    have ih := ev_len hn r (by omega)
    have hs : p.needs.length - (r + 1) + (r + 1) = p.needs.length := by omega
    have he := evTo_end hs t []
    have hl := evTo_len (t := t) (first := []) (l := coversT p (p.needs.length - (r + 1))) ih (coversT p (p.needs.length - (r + 1))).length
    rw [he, List.length_map] at hl
    have hc := covers_len p (p.needs.length - (r + 1))
    have h32 : (2 : Nat) ^ p.folk.length ≤ 32 := Nat.le_trans (Nat.pow_le_pow_right (by decide) hn) (by decide)
    have := Nat.mul_le_mul_right (32 ^ r) (Nat.le_trans hc h32)
    rw [Nat.pow_succ, Nat.mul_comm (32 ^ r) 32]
    omega
theorem fits_succ (t : List Int) (g k : Nat) : fitsU (k + 1) g t = (fitsU k g t && (!(g.testBit k) || decide (1 ≤ t.getD k 0))) := by
  unfold fitsU
  rw [List.range_succ, List.all_append]
  simp
theorem use_row {t : List Int} {g k k' o : Nat} {x : Int} (hx : useTo t g (k + 1) k = x) : AI (useTo t g (k + 1) k') = updRm (fun k' _ => AI (useTo t g k k')) k (fun _ => AI x) k' o := by
  subst hx
  simp only [updRm]
  by_cases e : k' = k
  · subst e; rw [if_pos rfl]
  · rw [if_neg e, ← use_keep e]
theorem use_val {t : List Int} {g k : Nat} : useTo t g (k + 1) k = if g.testBit k then t.getD k 0 - 1 else t.getD k 0 := by
  unfold useTo
  cases g.testBit k with
  | false => rw [if_neg (by rintro ⟨_, h⟩; cases h), if_neg (by decide)]
  | true => rw [if_pos ⟨by omega, rfl⟩, if_pos rfl]
theorem updRm_self (c : Nat → Nat → AV) (k : Nat) (x : Nat → AV) (o : Nat) : updRm c k x k o = x o := if_pos rfl
theorem ext0 {first : List Nat} {g : Nat} {c : Nat → Nat → AV} (hf : first.length = 0) {k o : Nat} (hk : k < 0 + (0 + 1)) (ho : o < 1) : AI ((toI (first ++ [g])).getD k 0) = appc 0 c (bslC (fun _ => ofL [AI 0]) [(0, AI (g : Int))]) k o := by
  obtain rfl : first = [] := List.length_eq_zero_iff.1 hf
  obtain rfl : k = 0 := by omega
  obtain rfl : o = 0 := Nat.lt_one_iff.1 ho
  rfl
theorem ext1 {first : List Nat} {g s : Nat} {c : Nat → Nat → AV} (hf : first.length = s + 1) {k o : Nat} (hk : k < 0 + (s + 1) + 1) (ho : o < 1) : AI ((toI (first ++ [g])).getD k 0) = appc (0 + (s + 1)) (appc 0 c (fun k _ => AI ((toI first).getD k 0))) (bslC (fun _ => ofL [AI 0]) [(0, AI (g : Int))]) k o := by
  obtain rfl : o = 0 := Nat.lt_one_iff.1 ho
  have e : toI (first ++ [g]) = toI first ++ [(g : Int)] := by simp [toI]
  have hl := toI_len first
  rw [e, getD_snoc]
  by_cases h : k < s + 1
  · rw [if_pos (by omega), appc, if_pos (by omega), appc, if_neg (Nat.not_lt_zero k), Nat.sub_zero]
  · obtain rfl : k = s + 1 := by omega
    rw [if_neg (by omega), if_pos (by omega), appc, if_neg (by omega), show s + 1 - (0 + (s + 1)) = 0 by omega]
    rfl
theorem getD_appL {a : List Int} {q l : List (List Int)} {k o : Nat} (ho : o < 1) : aInts false false ((a :: (q ++ l)).getD k []) = appc (q.length + 1) (fun k _ => aInts false false ((a :: q).getD k [])) (fun k _ => aInts false false (l.getD k [])) k o := by
  have e : (a :: (q ++ l)) = (a :: q) ++ l := rfl
  by_cases h : k < q.length + 1
  · rw [appc, if_pos h, e]
    simp only [List.getD, List.getElem?_append_left (show k < (a :: q).length by simpa using h)]
  · rw [appc, if_neg h, e]
    simp only [List.getD, List.getElem?_append_right (show (a :: q).length ≤ k by simp; omega), List.length_cons]
abbrev aF (fz fe : Bool) (s : Nat) (first : List Nat) : AV := .sl fz fe s 1 (fun k _ => AI ((toI first).getD k 0))
def EveryOk (f : PoF) (p : Pool) (r : Nat) : Prop := ∀ s, s + r = p.needs.length → ∀ first : List Nat, first.length = s → ∀ fz fe, (r = 0 → fz = false) → ∀ t, T8 t → ∀ lz le, ACall Try.prog 71 [aPool f p, aAll p, aInts fz fe (toI first), aInts lz le (leftN p t)] [] (fun v h => v = aLs ((everyV p r t).map fun v => toI (first ++ v)) ∧ h = [])
set_option maxHeartbeats 8000000
set_option maxRecDepth 100000
theorem every_zero (f : PoF) (p : Pool) (h : PoolOk p) : EveryOk f p 0 := by
  intro s hs first hf fz fe hz t ht lz le
  obtain rfl := hz rfl
  have s6 := h.s6
  have hlen := toI_len first
  (refine fcall_of mixed Try.func71 rfl (by decide) (hs := { ord := [(16, [(0, []), (1, []), (2, []), (3, []), (4, []), (6, []), (7, []), (8, []), (9, []), (10, []), (12, []), (5, [1, 9]), (11, [1]), (13, []), (14, []), (15, [])])] }) ?k (ac := ?ac) ?c (rs := ?rs) ?r ?l ?H; (case k => kernel_rfl); (case c => (conv => (lhs; cbv))); (case r => (conv => (lhs; cbv))); (case l => exact Nat.le_of_ble_eq_true rfl))
  (repeat' ((try (conv => whnf)); first | (with_reducible first | refine FCond.tA ?_ | refine FCond.fA ?_) | ((with_reducible refine FCond.i (fun hq => ?_) (fun hq => ?_)) <;> (try simp only [zA, zE, zD, zJ, zB, zI, Int.not_le, Int.not_lt] at hq)) | (with_reducible first | refine Fits.in64 (by omega) ?_ | refine FIdx.nat (by omega) ?_ | refine FIdx.int (by omega) ?_ | refine FTo.nat (by omega) ?_ | refine FTo.int (by omega) ?_) | ((with_reducible refine Need.mk ?_ ?_); focus exact needA) | (with_reducible refine FApp.grow ?_)))
  all_goals (try (conv => whnf))
  refine ⟨⟨aLs [toI (first ++ [])], [], [], Cut.nil _, Ln.le _ _ (show True from trivial) (LeV.sl (fun h => by cases h) (fun k hk o ho => ?_)), rfl, rfl⟩⟩
  obtain rfl : k = 0 := Nat.lt_one_iff.1 hk
  obtain rfl : o = 0 := Nat.lt_one_iff.1 ho
  rw [List.append_nil]
  exact LeV.sl (fun h => by cases h) (fun k _ o _ => LeV.refl _)
theorem every_step (f : PoF) (p : Pool) (h : PoolOk p) (hsm : Small p) (r : Nat) (ih : EveryOk f p r) : EveryOk f p (r + 1) := by
  intro s hs first hf fz fe hz t ht lz le
  have s6 := h.s6
  have hn5 := hsm.n5
  have hs3 := hsm.s3
  have hp32 : 32 ^ r ≤ 1024 := Nat.le_trans (Nat.pow_le_pow_right (by decide) (show r ≤ 2 by omega)) (by decide)
  have hel := fun k => evTo_len (t := t) (first := first) (l := coversT p s) (ev_len hn5 r (by omega)) k
  have n8 := h.n8
  have n1 := h.n1
  have hb := ht.b
  have hlen := toI_len first
  have harg : aInts fz fe (toI first) = aF fz fe s first := by
    show AV.sl _ _ _ _ _ = _
    rw [hlen, hf]
  rw [harg]
  have hcl := covers_len p s
  have hcl : (coversT p s).length ≤ 256 := Nat.le_trans hcl (Nat.pow_le_pow_right (by decide) n8)
  have hll := leftN_len p t
  have hlg := fun i => leftN_get (p := p) (t := t) (i := i)
  rw [← evTo_end hs]
  have hih := fun g (hf2 : fitsU p.folk.length g t = true) => ih (s + 1) (by omega) (first ++ [g]) (by rw [List.length_append, hf]; rfl) false false (fun _ => rfl) (useL p.folk.length g t) (useL_8 ht hf2) false false
  generalize leftN p t = lt at hll hlg ⊢
  rcases lt with _ | ⟨l0, ls⟩
  · rw [List.length_nil] at hll; omega
  have hll2 : ls.length + 1 = p.folk.length := hll
  (refine fcall_of mixed Try.func71 rfl (by decide) (hs := { ord := [(16, [(0, []), (1, []), (2, []), (3, []), (4, []), (6, []), (7, []), (8, []), (9, []), (10, []), (12, []), (5, [1, 9]), (11, [1]), (13, []), (14, []), (15, [])])] }) ?k (ac := ?ac) ?c (rs := ?rs) ?r ?l ?H; (case k => kernel_rfl); (case c => (conv => (lhs; cbv))); (case r => (conv => (lhs; cbv))); (case l => exact Nat.le_of_ble_eq_true rfl))
  (repeat' ((try (conv => whnf)); first | (with_reducible first | refine FCond.tA ?_ | refine FCond.fA ?_) | ((with_reducible refine FCond.i (fun hq => ?_) (fun hq => ?_)) <;> (try simp only [zA, zE, zD, zJ, zB, zI, Int.not_le, Int.not_lt] at hq)) | (with_reducible first | refine Fits.in64 (by omega) ?_ | refine FIdx.nat (by omega) ?_ | refine FIdx.int (by omega) ?_ | refine FTo.nat (by omega) ?_ | refine FTo.int (by omega) ?_) | ((with_reducible refine Need.mk ?_ ?_); focus exact needA) | (with_reducible refine FApp.grow ?_)))
  all_goals (try (conv => whnf))
  refine FLoop.of (ACalls.mono _) (X := Nat × List (List Int)) (fun x => [(1, aAll p), (2, aF fz fe s first), (3, aInts lz le (l0 :: ls)), (4, .ptr 0 0), (9, match x.2 with | [] => nilS | _ :: q => .own 1 (q.length + 1)), (10, aNI (coversT p s)), (11, AI x.1)]) (fun x => match x.2 with
    | [] => [.box 4 (cPool f p)]
    | a :: q => [.box 4 (cPool f p), rowLs (q.length + 1) (a :: q)]) (fun x => x.1 ≤ (coversT p s).length ∧ evTo p r t first (coversT p s) x.1 = x.2) (fun x => (coversT p s).length - x.1) (0, []) ⟨⟨Nat.zero_le _, rfl⟩, [0], Cut.A, allA⟩ ?_
  rintro ⟨i, lst⟩ ⟨hi, hL⟩
  simp only at hi hL
  by_cases hlt : i < (coversT p s).length
  · obtain ⟨hg1, _, _⟩ := covers_mem (p := p) (s := s) (getD_memN hlt)
    have hst : evTo p r t first (coversT p s) (i + 1) = lst ++ evG p r t first ((coversT p s).getD i 0) := by rw [evTo, hL]
    rcases lst with _ | ⟨a, q⟩
    · (repeat' ((try (conv => whnf)); first | (with_reducible first | refine FCond.tA ?_ | refine FCond.fA ?_) | ((with_reducible refine FCond.i (fun hq => ?_) (fun hq => ?_)) <;> (try simp only [zA, zE, zD, zJ, zB, zI, Int.not_le, Int.not_lt] at hq)) | (with_reducible first | refine Fits.in64 (by omega) ?_ | refine FIdx.nat (by omega) ?_ | refine FIdx.int (by omega) ?_ | refine FTo.nat (by omega) ?_ | refine FTo.int (by omega) ?_) | ((with_reducible refine Need.mk ?_ ?_); focus exact needA) | (with_reducible refine FApp.grow ?_)))
      all_goals (try (conv => whnf))
      refine FLoop.of (ACalls.mono _) (X := Nat × Bool) (fun x => [(1, aAll p), (2, aF fz fe s first), (3, aInts lz le (l0 :: ls)), (4, .ptr 0 0), (9, nilS), (10, aNI (coversT p s)), (11, AI i), (12, .own 1 (0 + (ls.length + 1))), (13, .bool x.2), (14, AI x.1)]) (fun x => [.box 4 (cPool f p), rowZ (0 + (ls.length + 1)) (useTo t ((coversT p s).getD i 0) x.1)]) (fun x => x.1 ≤ p.folk.length ∧ fitsU x.1 ((coversT p s).getD i 0) t = x.2) (fun x => p.folk.length - x.1) (0, true) ⟨⟨Nat.zero_le _, rfl⟩, [0, 1], Cut.of (Nat.le_of_ble_eq_true rfl) rfl rfl (CutL.turned rfl LnB.A (CutL.turned rfl (LnB.rowE (by omega) (fun k hk o ho => by obtain rfl : o = 0 := Nat.lt_one_iff.1 ho; simp only [appc, Nat.not_lt_zero, if_false, Nat.sub_zero]; rw [use0, hlg k (by omega)])) CutL.done)), allA⟩ ?_
      rintro ⟨k, b⟩ ⟨hk, hfk⟩
      simp only at hk hfk
      dsimp only
      have hgs := getD_memN hlt
      by_cases hlt2 : k < p.folk.length
      · have hbk := hb k (by omega)
        have hold := use_old (t := t) (g := (coversT p s).getD i 0) (i := k)
        have hfs := fits_succ t ((coversT p s).getD i 0) k
        rw [hfk] at hfs
        have hg256 : (coversT p s).getD i 0 < 256 := Nat.lt_of_lt_of_le hg1 (Nat.pow_le_pow_right (by decide) n8)
        have huv := use_val (t := t) (g := (coversT p s).getD i 0) (k := k)
        cases hbit : ((coversT p s).getD i 0).testBit k
        · rw [hbit, if_neg (by decide)] at huv
          have hd : (!false || decide (1 ≤ t.getD k 0)) = true := rfl
          rw [hbit, hd, Bool.and_true] at hfs
          cases b
          · (repeat' ((try (conv => whnf)); first | (with_reducible first | refine FCond.tA ?_ | refine FCond.fA ?_) | ((with_reducible refine FCond.i (fun hq => ?_) (fun hq => ?_)) <;> (try simp only [zA, zE, zD, zJ, zB, zI, Int.not_le, Int.not_lt] at hq)) | (with_reducible first | refine Fits.in64 (by omega) ?_ | refine FIdx.nat (by omega) ?_ | refine FIdx.int (by omega) ?_ | refine FTo.nat (by omega) ?_ | refine FTo.int (by omega) ?_) | ((with_reducible refine Need.mk ?_ ?_); focus exact needA) | (with_reducible first | refine FBit.hasT rfl (by assumption) ?_ | refine FBit.hasF rfl (by assumption) ?_ | refine FBit.shrN rfl (by omega) ?_ | refine FBit.half rfl ?_ | refine FBit.shl1 rfl (by omega) ?_ | refine Fits.inU (by omega) ?_ | refine FBit.shrNI rfl (by omega) ?_ | refine FBit.shrIN rfl (by omega) (by omega) ?_ | refine FBit.shrI rfl (by omega) (by omega) ?_ | refine FBit.shl1I rfl (by omega) ?_) | (with_reducible refine FBit.has rfl (fun hq => ?_) (fun hq => ?_)) | (with_reducible first | refine FBit.and1 rfl ?_ | refine FBit.andN rfl (by omega) (by omega) ?_ | refine FBit.orN rfl (by omega) (by omega) ?_ | refine FBit.andNotN rfl (by omega) (by omega) ?_) | (with_reducible refine FApp.grow ?_)))
            all_goals (try (conv => whnf))
            (exact ⟨⟨(k + 1, false), ⟨hlt2, hfs⟩, by show _ < _; omega, [0, 1], (by (refine Cut.of (Nat.le_of_ble_eq_true rfl) rfl rfl ?_; repeat (first | exact CutL.done | (refine CutL.turned rfl (by first | exact LnB.rowS | exact LnB.rowE (Nat.le_refl _) (fun k hk o ho => use_row (by omega)) | exact LnB.A) ?_) | (refine CutL.gone (Nat.lt_of_lt_of_le (Nat.lt_succ_self _) (Nat.le_of_ble_eq_true rfl)) ?_)))), allA⟩⟩)
          · (repeat' ((try (conv => whnf)); first | (with_reducible first | refine FCond.tA ?_ | refine FCond.fA ?_) | ((with_reducible refine FCond.i (fun hq => ?_) (fun hq => ?_)) <;> (try simp only [zA, zE, zD, zJ, zB, zI, Int.not_le, Int.not_lt] at hq)) | (with_reducible first | refine Fits.in64 (by omega) ?_ | refine FIdx.nat (by omega) ?_ | refine FIdx.int (by omega) ?_ | refine FTo.nat (by omega) ?_ | refine FTo.int (by omega) ?_) | ((with_reducible refine Need.mk ?_ ?_); focus exact needA) | (with_reducible first | refine FBit.hasT rfl (by assumption) ?_ | refine FBit.hasF rfl (by assumption) ?_ | refine FBit.shrN rfl (by omega) ?_ | refine FBit.half rfl ?_ | refine FBit.shl1 rfl (by omega) ?_ | refine Fits.inU (by omega) ?_ | refine FBit.shrNI rfl (by omega) ?_ | refine FBit.shrIN rfl (by omega) (by omega) ?_ | refine FBit.shrI rfl (by omega) (by omega) ?_ | refine FBit.shl1I rfl (by omega) ?_) | (with_reducible refine FBit.has rfl (fun hq => ?_) (fun hq => ?_)) | (with_reducible first | refine FBit.and1 rfl ?_ | refine FBit.andN rfl (by omega) (by omega) ?_ | refine FBit.orN rfl (by omega) (by omega) ?_ | refine FBit.andNotN rfl (by omega) (by omega) ?_) | (with_reducible refine FApp.grow ?_)))
            all_goals (try (conv => whnf))
            rw [updRm_self]
            (repeat' ((try (conv => whnf)); first | (with_reducible first | refine FCond.tA ?_ | refine FCond.fA ?_) | ((with_reducible refine FCond.i (fun hq => ?_) (fun hq => ?_)) <;> (try simp only [zA, zE, zD, zJ, zB, zI, Int.not_le, Int.not_lt] at hq)) | (with_reducible first | refine Fits.in64 (by omega) ?_ | refine FIdx.nat (by omega) ?_ | refine FIdx.int (by omega) ?_ | refine FTo.nat (by omega) ?_ | refine FTo.int (by omega) ?_) | ((with_reducible refine Need.mk ?_ ?_); focus exact needA) | (with_reducible first | refine FBit.hasT rfl (by assumption) ?_ | refine FBit.hasF rfl (by assumption) ?_ | refine FBit.shrN rfl (by omega) ?_ | refine FBit.half rfl ?_ | refine FBit.shl1 rfl (by omega) ?_ | refine Fits.inU (by omega) ?_ | refine FBit.shrNI rfl (by omega) ?_ | refine FBit.shrIN rfl (by omega) (by omega) ?_ | refine FBit.shrI rfl (by omega) (by omega) ?_ | refine FBit.shl1I rfl (by omega) ?_) | (with_reducible refine FBit.has rfl (fun hq => ?_) (fun hq => ?_)) | (with_reducible first | refine FBit.and1 rfl ?_ | refine FBit.andN rfl (by omega) (by omega) ?_ | refine FBit.orN rfl (by omega) (by omega) ?_ | refine FBit.andNotN rfl (by omega) (by omega) ?_) | (with_reducible refine FApp.grow ?_)))
            all_goals (try (conv => whnf))
            (exact ⟨⟨(k + 1, decide (0 ≤ useTo t ((coversT p s).getD i 0) k k - 0)), ⟨hlt2, hfs.trans (decide_eq_true (by omega)).symm⟩, by show _ < _; omega, [0, 1], (by (refine Cut.of (Nat.le_of_ble_eq_true rfl) rfl rfl ?_; repeat (first | exact CutL.done | (refine CutL.turned rfl (by first | exact LnB.rowS | exact LnB.rowE (Nat.le_refl _) (fun k hk o ho => use_row (by omega)) | exact LnB.A) ?_) | (refine CutL.gone (Nat.lt_of_lt_of_le (Nat.lt_succ_self _) (Nat.le_of_ble_eq_true rfl)) ?_)))), allA⟩⟩)
        · rw [hbit, if_pos rfl] at huv
          have hd : (!true || decide (1 ≤ t.getD k 0)) = decide (0 ≤ useTo t ((coversT p s).getD i 0) k k - 1) := by
            rw [hold]; exact decide_eq_decide.2 (by omega)
          rw [hbit, hd] at hfs
          cases b
          · (repeat' ((try (conv => whnf)); first | (with_reducible first | refine FCond.tA ?_ | refine FCond.fA ?_) | ((with_reducible refine FCond.i (fun hq => ?_) (fun hq => ?_)) <;> (try simp only [zA, zE, zD, zJ, zB, zI, Int.not_le, Int.not_lt] at hq)) | (with_reducible first | refine Fits.in64 (by omega) ?_ | refine FIdx.nat (by omega) ?_ | refine FIdx.int (by omega) ?_ | refine FTo.nat (by omega) ?_ | refine FTo.int (by omega) ?_) | ((with_reducible refine Need.mk ?_ ?_); focus exact needA) | (with_reducible first | refine FBit.hasT rfl (by assumption) ?_ | refine FBit.hasF rfl (by assumption) ?_ | refine FBit.shrN rfl (by omega) ?_ | refine FBit.half rfl ?_ | refine FBit.shl1 rfl (by omega) ?_ | refine Fits.inU (by omega) ?_ | refine FBit.shrNI rfl (by omega) ?_ | refine FBit.shrIN rfl (by omega) (by omega) ?_ | refine FBit.shrI rfl (by omega) (by omega) ?_ | refine FBit.shl1I rfl (by omega) ?_) | (with_reducible refine FBit.has rfl (fun hq => ?_) (fun hq => ?_)) | (with_reducible first | refine FBit.and1 rfl ?_ | refine FBit.andN rfl (by omega) (by omega) ?_ | refine FBit.orN rfl (by omega) (by omega) ?_ | refine FBit.andNotN rfl (by omega) (by omega) ?_) | (with_reducible refine FApp.grow ?_)))
            all_goals (try (conv => whnf))
            (exact ⟨⟨(k + 1, false), ⟨hlt2, hfs⟩, by show _ < _; omega, [0, 1], (by (refine Cut.of (Nat.le_of_ble_eq_true rfl) rfl rfl ?_; repeat (first | exact CutL.done | (refine CutL.turned rfl (by first | exact LnB.rowS | exact LnB.rowE (Nat.le_refl _) (fun k hk o ho => use_row (by omega)) | exact LnB.A) ?_) | (refine CutL.gone (Nat.lt_of_lt_of_le (Nat.lt_succ_self _) (Nat.le_of_ble_eq_true rfl)) ?_)))), allA⟩⟩)
          · (repeat' ((try (conv => whnf)); first | (with_reducible first | refine FCond.tA ?_ | refine FCond.fA ?_) | ((with_reducible refine FCond.i (fun hq => ?_) (fun hq => ?_)) <;> (try simp only [zA, zE, zD, zJ, zB, zI, Int.not_le, Int.not_lt] at hq)) | (with_reducible first | refine Fits.in64 (by omega) ?_ | refine FIdx.nat (by omega) ?_ | refine FIdx.int (by omega) ?_ | refine FTo.nat (by omega) ?_ | refine FTo.int (by omega) ?_) | ((with_reducible refine Need.mk ?_ ?_); focus exact needA) | (with_reducible first | refine FBit.hasT rfl (by assumption) ?_ | refine FBit.hasF rfl (by assumption) ?_ | refine FBit.shrN rfl (by omega) ?_ | refine FBit.half rfl ?_ | refine FBit.shl1 rfl (by omega) ?_ | refine Fits.inU (by omega) ?_ | refine FBit.shrNI rfl (by omega) ?_ | refine FBit.shrIN rfl (by omega) (by omega) ?_ | refine FBit.shrI rfl (by omega) (by omega) ?_ | refine FBit.shl1I rfl (by omega) ?_) | (with_reducible refine FBit.has rfl (fun hq => ?_) (fun hq => ?_)) | (with_reducible first | refine FBit.and1 rfl ?_ | refine FBit.andN rfl (by omega) (by omega) ?_ | refine FBit.orN rfl (by omega) (by omega) ?_ | refine FBit.andNotN rfl (by omega) (by omega) ?_) | (with_reducible refine FApp.grow ?_)))
            all_goals (try (conv => whnf))
            rw [updRm_self]
            (repeat' ((try (conv => whnf)); first | (with_reducible first | refine FCond.tA ?_ | refine FCond.fA ?_) | ((with_reducible refine FCond.i (fun hq => ?_) (fun hq => ?_)) <;> (try simp only [zA, zE, zD, zJ, zB, zI, Int.not_le, Int.not_lt] at hq)) | (with_reducible first | refine Fits.in64 (by omega) ?_ | refine FIdx.nat (by omega) ?_ | refine FIdx.int (by omega) ?_ | refine FTo.nat (by omega) ?_ | refine FTo.int (by omega) ?_) | ((with_reducible refine Need.mk ?_ ?_); focus exact needA) | (with_reducible first | refine FBit.hasT rfl (by assumption) ?_ | refine FBit.hasF rfl (by assumption) ?_ | refine FBit.shrN rfl (by omega) ?_ | refine FBit.half rfl ?_ | refine FBit.shl1 rfl (by omega) ?_ | refine Fits.inU (by omega) ?_ | refine FBit.shrNI rfl (by omega) ?_ | refine FBit.shrIN rfl (by omega) (by omega) ?_ | refine FBit.shrI rfl (by omega) (by omega) ?_ | refine FBit.shl1I rfl (by omega) ?_) | (with_reducible refine FBit.has rfl (fun hq => ?_) (fun hq => ?_)) | (with_reducible first | refine FBit.and1 rfl ?_ | refine FBit.andN rfl (by omega) (by omega) ?_ | refine FBit.orN rfl (by omega) (by omega) ?_ | refine FBit.andNotN rfl (by omega) (by omega) ?_) | (with_reducible refine FApp.grow ?_)))
            all_goals (try (conv => whnf))
            (exact ⟨⟨(k + 1, decide (0 ≤ useTo t ((coversT p s).getD i 0) k k - 1)), ⟨hlt2, hfs⟩, by show _ < _; omega, [0, 1], (by (refine Cut.of (Nat.le_of_ble_eq_true rfl) rfl rfl ?_; repeat (first | exact CutL.done | (refine CutL.turned rfl (by first | exact LnB.rowS | exact LnB.rowE (Nat.le_refl _) (fun k hk o ho => use_row (by omega)) | exact LnB.A) ?_) | (refine CutL.gone (Nat.lt_of_lt_of_le (Nat.lt_succ_self _) (Nat.le_of_ble_eq_true rfl)) ?_)))), allA⟩⟩)
      · obtain rfl : k = p.folk.length := by omega
        cases b
        · have hev : evG p r t first ((coversT p s).getD i 0) = [] := by unfold evG; rw [hfk]; rfl
          rw [hev] at hst
          (repeat' ((try (conv => whnf)); first | (with_reducible first | refine FCond.tA ?_ | refine FCond.fA ?_) | ((with_reducible refine FCond.i (fun hq => ?_) (fun hq => ?_)) <;> (try simp only [zA, zE, zD, zJ, zB, zI, Int.not_le, Int.not_lt] at hq)) | (with_reducible first | refine Fits.in64 (by omega) ?_ | refine FIdx.nat (by omega) ?_ | refine FIdx.int (by omega) ?_ | refine FTo.nat (by omega) ?_ | refine FTo.int (by omega) ?_) | ((with_reducible refine Need.mk ?_ ?_); focus exact needA) | (with_reducible refine FApp.grow ?_)))
          all_goals (try (conv => whnf))
          (exact ⟨⟨(i + 1, []), ⟨hlt, hst⟩, by show _ < _; omega, [0], Cut.A, allA⟩⟩)
        · have hI := hih ((coversT p s).getD i 0) hfk
          have hev : evG p r t first ((coversT p s).getD i 0) = (everyV p r (useL p.folk.length ((coversT p s).getD i 0) t)).map fun v => toI ((first ++ [(coversT p s).getD i 0]) ++ v) := by
            unfold evG; rw [hfk, if_pos rfl]
            congr 1; funext v; rw [List.append_assoc]; rfl
          rw [← hev] at hI
          generalize evG p r t first ((coversT p s).getD i 0) = Lg at hst hI
          rcases s with _ | s
          · (repeat' ((try (conv => whnf)); first | (with_reducible first | refine FCond.tA ?_ | refine FCond.fA ?_) | ((with_reducible refine FCond.i (fun hq => ?_) (fun hq => ?_)) <;> (try simp only [zA, zE, zD, zJ, zB, zI, Int.not_le, Int.not_lt] at hq)) | (with_reducible first | refine Fits.in64 (by omega) ?_ | refine FIdx.nat (by omega) ?_ | refine FIdx.int (by omega) ?_ | refine FTo.nat (by omega) ?_ | refine FTo.int (by omega) ?_) | ((with_reducible refine Need.mk ?_ ?_); focus exact needA) | (with_reducible first | refine FBit.hasT rfl (by assumption) ?_ | refine FBit.hasF rfl (by assumption) ?_ | refine FBit.shrN rfl (by omega) ?_ | refine FBit.half rfl ?_ | refine FBit.shl1 rfl (by omega) ?_ | refine Fits.inU (by omega) ?_ | refine FBit.shrNI rfl (by omega) ?_ | refine FBit.shrIN rfl (by omega) (by omega) ?_ | refine FBit.shrI rfl (by omega) (by omega) ?_ | refine FBit.shl1I rfl (by omega) ?_) | (with_reducible refine FBit.has rfl (fun hq => ?_) (fun hq => ?_)) | (with_reducible first | refine FBit.and1 rfl ?_ | refine FBit.andN rfl (by omega) (by omega) ?_ | refine FBit.orN rfl (by omega) (by omega) ?_ | refine FBit.andNotN rfl (by omega) (by omega) ?_) | (with_reducible refine FApp.grow ?_)))
            all_goals (try (conv => whnf))
            refine FCall.bury 2 [aPool f p, aAll p, aInts false false (toI (first ++ [(coversT p 0).getD i 0])), .own 1 (0 + (ls.length + 1))] ⟨Ln.sameB _ rfl, Ln.sameB _ rfl, Ln.pubE rfl rfl (Nat.le_refl _) (by rw [toI_len, List.length_append, hf, List.length_singleton] <;> omega) (fun k hk o ho => ext0 hf hk ho), Ln.own _ _ _ ⟨rfl, by decide⟩, True.intro⟩ ?_
            refine FCall.bury 1 [aPool f p, aAll p, aInts false false (toI (first ++ [(coversT p 0).getD i 0])), aInts false false (leftN p (useL p.folk.length ((coversT p 0).getD i 0) t))] ⟨Ln.sameB _ rfl, Ln.sameB _ rfl, Ln.sameB _ rfl, Ln.pubE rfl rfl (Nat.le_refl _) (by rw [leftN_len]; omega) (fun k hk o ho => int_eq (by rw [leftN_get (by omega), useL_get (by omega)])), True.intro⟩ ?_
            refine FCall.pure hI ⟨Ln.sameB _ rfl, Ln.sameB _ rfl, Ln.sameB _ rfl, Ln.sameB _ rfl, True.intro⟩ rfl ?_
            rcases Lg with _ | ⟨x, xs⟩
            · (repeat' ((try (conv => whnf)); first | (with_reducible first | refine FCond.tA ?_ | refine FCond.fA ?_) | ((with_reducible refine FCond.i (fun hq => ?_) (fun hq => ?_)) <;> (try simp only [zA, zE, zD, zJ, zB, zI, Int.not_le, Int.not_lt] at hq)) | (with_reducible first | refine Fits.in64 (by omega) ?_ | refine FIdx.nat (by omega) ?_ | refine FIdx.int (by omega) ?_ | refine FTo.nat (by omega) ?_ | refine FTo.int (by omega) ?_) | ((with_reducible refine Need.mk ?_ ?_); focus exact needA) | (with_reducible first | refine FBit.hasT rfl (by assumption) ?_ | refine FBit.hasF rfl (by assumption) ?_ | refine FBit.shrN rfl (by omega) ?_ | refine FBit.half rfl ?_ | refine FBit.shl1 rfl (by omega) ?_ | refine Fits.inU (by omega) ?_ | refine FBit.shrNI rfl (by omega) ?_ | refine FBit.shrIN rfl (by omega) (by omega) ?_ | refine FBit.shrI rfl (by omega) (by omega) ?_ | refine FBit.shl1I rfl (by omega) ?_) | (with_reducible refine FBit.has rfl (fun hq => ?_) (fun hq => ?_)) | (with_reducible first | refine FBit.and1 rfl ?_ | refine FBit.andN rfl (by omega) (by omega) ?_ | refine FBit.orN rfl (by omega) (by omega) ?_ | refine FBit.andNotN rfl (by omega) (by omega) ?_) | (with_reducible refine FApp.grow ?_) | (refine Need.mk ⟨.inr rfl, by decide, by decide⟩ ?_)))
              all_goals (try (conv => whnf))
              (exact ⟨⟨(i + 1, []), ⟨hlt, hst⟩, by show _ < _; omega, [0], Cut.A, allA⟩⟩)
            · have hxs : xs.length ≤ 1000000 := by
                have h1 := hel (i + 1)
                rw [hst] at h1
                have h2 := Nat.mul_le_mul (show i + 1 ≤ 257 by omega) hp32
                simp only [List.length_append, List.length_cons] at h1
                omega
              (repeat' ((try (conv => whnf)); first | (with_reducible first | refine FCond.tA ?_ | refine FCond.fA ?_) | ((with_reducible refine FCond.i (fun hq => ?_) (fun hq => ?_)) <;> (try simp only [zA, zE, zD, zJ, zB, zI, Int.not_le, Int.not_lt] at hq)) | (with_reducible first | refine Fits.in64 (by omega) ?_ | refine FIdx.nat (by omega) ?_ | refine FIdx.int (by omega) ?_ | refine FTo.nat (by omega) ?_ | refine FTo.int (by omega) ?_) | ((with_reducible refine Need.mk ?_ ?_); focus exact needA) | (with_reducible first | refine FBit.hasT rfl (by assumption) ?_ | refine FBit.hasF rfl (by assumption) ?_ | refine FBit.shrN rfl (by omega) ?_ | refine FBit.half rfl ?_ | refine FBit.shl1 rfl (by omega) ?_ | refine Fits.inU (by omega) ?_ | refine FBit.shrNI rfl (by omega) ?_ | refine FBit.shrIN rfl (by omega) (by omega) ?_ | refine FBit.shrI rfl (by omega) (by omega) ?_ | refine FBit.shl1I rfl (by omega) ?_) | (with_reducible refine FBit.has rfl (fun hq => ?_) (fun hq => ?_)) | (with_reducible first | refine FBit.and1 rfl ?_ | refine FBit.andN rfl (by omega) (by omega) ?_ | refine FBit.orN rfl (by omega) (by omega) ?_ | refine FBit.andNotN rfl (by omega) (by omega) ?_) | (with_reducible refine FApp.grow ?_) | (refine Need.mk ⟨.inl rfl, Nat.le_trans (m := 2000000) (by simp only [List.length_cons]; omega) (by decide), by simp only [List.length_cons]; omega⟩ ?_)))
              all_goals (try (conv => whnf))
              rw [show 0 + (xs.length + 1) = xs.length + 1 by omega]
              (exact ⟨⟨(i + 1, x :: xs), ⟨hlt, hst⟩, by show _ < _; omega, [0, 3], (by (refine Cut.of (Nat.le_of_ble_eq_true rfl) rfl rfl ?_; repeat (first | exact CutL.done | (refine CutL.turned rfl (by first | exact LnB.rowS | exact LnB.rowE (Nat.le_refl _) (fun k hk o ho => by simp [appc]) | exact LnB.A) ?_) | (refine CutL.gone (Nat.lt_of_lt_of_le (Nat.lt_succ_self _) (Nat.le_of_ble_eq_true rfl)) ?_)))), allA⟩⟩)
          · (repeat' ((try (conv => whnf)); first | (with_reducible first | refine FCond.tA ?_ | refine FCond.fA ?_) | ((with_reducible refine FCond.i (fun hq => ?_) (fun hq => ?_)) <;> (try simp only [zA, zE, zD, zJ, zB, zI, Int.not_le, Int.not_lt] at hq)) | (with_reducible first | refine Fits.in64 (by omega) ?_ | refine FIdx.nat (by omega) ?_ | refine FIdx.int (by omega) ?_ | refine FTo.nat (by omega) ?_ | refine FTo.int (by omega) ?_) | ((with_reducible refine Need.mk ?_ ?_); focus exact needA) | (with_reducible first | refine FBit.hasT rfl (by assumption) ?_ | refine FBit.hasF rfl (by assumption) ?_ | refine FBit.shrN rfl (by omega) ?_ | refine FBit.half rfl ?_ | refine FBit.shl1 rfl (by omega) ?_ | refine Fits.inU (by omega) ?_ | refine FBit.shrNI rfl (by omega) ?_ | refine FBit.shrIN rfl (by omega) (by omega) ?_ | refine FBit.shrI rfl (by omega) (by omega) ?_ | refine FBit.shl1I rfl (by omega) ?_) | (with_reducible refine FBit.has rfl (fun hq => ?_) (fun hq => ?_)) | (with_reducible first | refine FBit.and1 rfl ?_ | refine FBit.andN rfl (by omega) (by omega) ?_ | refine FBit.orN rfl (by omega) (by omega) ?_ | refine FBit.andNotN rfl (by omega) (by omega) ?_) | (with_reducible refine FApp.grow ?_)))
            all_goals (try (conv => whnf))
            refine FCall.bury 3 [aPool f p, aAll p, aInts false false (toI (first ++ [(coversT p (s + 1)).getD i 0])), .own 1 (0 + (ls.length + 1))] ⟨Ln.sameB _ rfl, Ln.sameB _ rfl, Ln.pubE rfl rfl (Nat.le_refl _) (by rw [toI_len, List.length_append, hf, List.length_singleton] <;> omega) (fun k hk o ho => ext1 hf hk ho), Ln.own _ _ _ ⟨rfl, by decide⟩, True.intro⟩ ?_
            refine FCall.bury 1 [aPool f p, aAll p, aInts false false (toI (first ++ [(coversT p (s + 1)).getD i 0])), aInts false false (leftN p (useL p.folk.length ((coversT p (s + 1)).getD i 0) t))] ⟨Ln.sameB _ rfl, Ln.sameB _ rfl, Ln.sameB _ rfl, Ln.pubE rfl rfl (Nat.le_refl _) (by rw [leftN_len]; omega) (fun k hk o ho => int_eq (by rw [leftN_get (by omega), useL_get (by omega)])), True.intro⟩ ?_
            refine FCall.pure hI ⟨Ln.sameB _ rfl, Ln.sameB _ rfl, Ln.sameB _ rfl, Ln.sameB _ rfl, True.intro⟩ rfl ?_
            rcases Lg with _ | ⟨x, xs⟩
            · (repeat' ((try (conv => whnf)); first | (with_reducible first | refine FCond.tA ?_ | refine FCond.fA ?_) | ((with_reducible refine FCond.i (fun hq => ?_) (fun hq => ?_)) <;> (try simp only [zA, zE, zD, zJ, zB, zI, Int.not_le, Int.not_lt] at hq)) | (with_reducible first | refine Fits.in64 (by omega) ?_ | refine FIdx.nat (by omega) ?_ | refine FIdx.int (by omega) ?_ | refine FTo.nat (by omega) ?_ | refine FTo.int (by omega) ?_) | ((with_reducible refine Need.mk ?_ ?_); focus exact needA) | (with_reducible first | refine FBit.hasT rfl (by assumption) ?_ | refine FBit.hasF rfl (by assumption) ?_ | refine FBit.shrN rfl (by omega) ?_ | refine FBit.half rfl ?_ | refine FBit.shl1 rfl (by omega) ?_ | refine Fits.inU (by omega) ?_ | refine FBit.shrNI rfl (by omega) ?_ | refine FBit.shrIN rfl (by omega) (by omega) ?_ | refine FBit.shrI rfl (by omega) (by omega) ?_ | refine FBit.shl1I rfl (by omega) ?_) | (with_reducible refine FBit.has rfl (fun hq => ?_) (fun hq => ?_)) | (with_reducible first | refine FBit.and1 rfl ?_ | refine FBit.andN rfl (by omega) (by omega) ?_ | refine FBit.orN rfl (by omega) (by omega) ?_ | refine FBit.andNotN rfl (by omega) (by omega) ?_) | (with_reducible refine FApp.grow ?_) | (refine Need.mk ⟨.inr rfl, by decide, by decide⟩ ?_)))
              all_goals (try (conv => whnf))
              (exact ⟨⟨(i + 1, []), ⟨hlt, hst⟩, by show _ < _; omega, [0], Cut.A, allA⟩⟩)
            · have hxs : xs.length ≤ 1000000 := by
                have h1 := hel (i + 1)
                rw [hst] at h1
                have h2 := Nat.mul_le_mul (show i + 1 ≤ 257 by omega) hp32
                simp only [List.length_append, List.length_cons] at h1
                omega
              (repeat' ((try (conv => whnf)); first | (with_reducible first | refine FCond.tA ?_ | refine FCond.fA ?_) | ((with_reducible refine FCond.i (fun hq => ?_) (fun hq => ?_)) <;> (try simp only [zA, zE, zD, zJ, zB, zI, Int.not_le, Int.not_lt] at hq)) | (with_reducible first | refine Fits.in64 (by omega) ?_ | refine FIdx.nat (by omega) ?_ | refine FIdx.int (by omega) ?_ | refine FTo.nat (by omega) ?_ | refine FTo.int (by omega) ?_) | ((with_reducible refine Need.mk ?_ ?_); focus exact needA) | (with_reducible first | refine FBit.hasT rfl (by assumption) ?_ | refine FBit.hasF rfl (by assumption) ?_ | refine FBit.shrN rfl (by omega) ?_ | refine FBit.half rfl ?_ | refine FBit.shl1 rfl (by omega) ?_ | refine Fits.inU (by omega) ?_ | refine FBit.shrNI rfl (by omega) ?_ | refine FBit.shrIN rfl (by omega) (by omega) ?_ | refine FBit.shrI rfl (by omega) (by omega) ?_ | refine FBit.shl1I rfl (by omega) ?_) | (with_reducible refine FBit.has rfl (fun hq => ?_) (fun hq => ?_)) | (with_reducible first | refine FBit.and1 rfl ?_ | refine FBit.andN rfl (by omega) (by omega) ?_ | refine FBit.orN rfl (by omega) (by omega) ?_ | refine FBit.andNotN rfl (by omega) (by omega) ?_) | (with_reducible refine FApp.grow ?_) | (refine Need.mk ⟨.inl rfl, Nat.le_trans (m := 2000000) (by simp only [List.length_cons]; omega) (by decide), by simp only [List.length_cons]; omega⟩ ?_)))
              all_goals (try (conv => whnf))
              rw [show 0 + (xs.length + 1) = xs.length + 1 by omega]
              (exact ⟨⟨(i + 1, x :: xs), ⟨hlt, hst⟩, by show _ < _; omega, [0, 4], (by (refine Cut.of (Nat.le_of_ble_eq_true rfl) rfl rfl ?_; repeat (first | exact CutL.done | (refine CutL.turned rfl (by first | exact LnB.rowS | exact LnB.rowE (Nat.le_refl _) (fun k hk o ho => by simp [appc]) | exact LnB.A) ?_) | (refine CutL.gone (Nat.lt_of_lt_of_le (Nat.lt_succ_self _) (Nat.le_of_ble_eq_true rfl)) ?_)))), allA⟩⟩)
    · (repeat' ((try (conv => whnf)); first | (with_reducible first | refine FCond.tA ?_ | refine FCond.fA ?_) | ((with_reducible refine FCond.i (fun hq => ?_) (fun hq => ?_)) <;> (try simp only [zA, zE, zD, zJ, zB, zI, Int.not_le, Int.not_lt] at hq)) | (with_reducible first | refine Fits.in64 (by omega) ?_ | refine FIdx.nat (by omega) ?_ | refine FIdx.int (by omega) ?_ | refine FTo.nat (by omega) ?_ | refine FTo.int (by omega) ?_) | ((with_reducible refine Need.mk ?_ ?_); focus exact needA) | (with_reducible refine FApp.grow ?_)))
      all_goals (try (conv => whnf))
      refine FLoop.of (ACalls.mono _) (X := Nat × Bool) (fun x => [(1, aAll p), (2, aF fz fe s first), (3, aInts lz le (l0 :: ls)), (4, .ptr 0 0), (9, .own 1 (q.length + 1)), (10, aNI (coversT p s)), (11, AI i), (12, .own 2 (0 + (ls.length + 1))), (13, .bool x.2), (14, AI x.1)]) (fun x => [.box 4 (cPool f p), rowLs (q.length + 1) (a :: q), rowZ (0 + (ls.length + 1)) (useTo t ((coversT p s).getD i 0) x.1)]) (fun x => x.1 ≤ p.folk.length ∧ fitsU x.1 ((coversT p s).getD i 0) t = x.2) (fun x => p.folk.length - x.1) (0, true) ⟨⟨Nat.zero_le _, rfl⟩, [0, 1, 2], Cut.of (Nat.le_of_ble_eq_true rfl) rfl rfl (CutL.turned rfl LnB.A (CutL.turned rfl LnB.A (CutL.turned rfl (LnB.rowE (by omega) (fun k hk o ho => by obtain rfl : o = 0 := Nat.lt_one_iff.1 ho; simp only [appc, Nat.not_lt_zero, if_false, Nat.sub_zero]; rw [use0, hlg k (by omega)])) CutL.done))), allA⟩ ?_
      rintro ⟨k, b⟩ ⟨hk, hfk⟩
      simp only at hk hfk
      dsimp only
      have hgs := getD_memN hlt
      by_cases hlt2 : k < p.folk.length
      · have hbk := hb k (by omega)
        have hold := use_old (t := t) (g := (coversT p s).getD i 0) (i := k)
        have hfs := fits_succ t ((coversT p s).getD i 0) k
        rw [hfk] at hfs
        have hg256 : (coversT p s).getD i 0 < 256 := Nat.lt_of_lt_of_le hg1 (Nat.pow_le_pow_right (by decide) n8)
        have huv := use_val (t := t) (g := (coversT p s).getD i 0) (k := k)
        cases hbit : ((coversT p s).getD i 0).testBit k
        · rw [hbit, if_neg (by decide)] at huv
          have hd : (!false || decide (1 ≤ t.getD k 0)) = true := rfl
          rw [hbit, hd, Bool.and_true] at hfs
          cases b
          · (repeat' ((try (conv => whnf)); first | (with_reducible first | refine FCond.tA ?_ | refine FCond.fA ?_) | ((with_reducible refine FCond.i (fun hq => ?_) (fun hq => ?_)) <;> (try simp only [zA, zE, zD, zJ, zB, zI, Int.not_le, Int.not_lt] at hq)) | (with_reducible first | refine Fits.in64 (by omega) ?_ | refine FIdx.nat (by omega) ?_ | refine FIdx.int (by omega) ?_ | refine FTo.nat (by omega) ?_ | refine FTo.int (by omega) ?_) | ((with_reducible refine Need.mk ?_ ?_); focus exact needA) | (with_reducible first | refine FBit.hasT rfl (by assumption) ?_ | refine FBit.hasF rfl (by assumption) ?_ | refine FBit.shrN rfl (by omega) ?_ | refine FBit.half rfl ?_ | refine FBit.shl1 rfl (by omega) ?_ | refine Fits.inU (by omega) ?_ | refine FBit.shrNI rfl (by omega) ?_ | refine FBit.shrIN rfl (by omega) (by omega) ?_ | refine FBit.shrI rfl (by omega) (by omega) ?_ | refine FBit.shl1I rfl (by omega) ?_) | (with_reducible refine FBit.has rfl (fun hq => ?_) (fun hq => ?_)) | (with_reducible first | refine FBit.and1 rfl ?_ | refine FBit.andN rfl (by omega) (by omega) ?_ | refine FBit.orN rfl (by omega) (by omega) ?_ | refine FBit.andNotN rfl (by omega) (by omega) ?_) | (with_reducible refine FApp.grow ?_)))
            all_goals (try (conv => whnf))
            (exact ⟨⟨(k + 1, false), ⟨hlt2, hfs⟩, by show _ < _; omega, [0, 1, 2], (by (refine Cut.of (Nat.le_of_ble_eq_true rfl) rfl rfl ?_; repeat (first | exact CutL.done | (refine CutL.turned rfl (by first | exact LnB.rowS | exact LnB.rowE (Nat.le_refl _) (fun k hk o ho => use_row (by omega)) | exact LnB.A) ?_) | (refine CutL.gone (Nat.lt_of_lt_of_le (Nat.lt_succ_self _) (Nat.le_of_ble_eq_true rfl)) ?_)))), allA⟩⟩)
          · (repeat' ((try (conv => whnf)); first | (with_reducible first | refine FCond.tA ?_ | refine FCond.fA ?_) | ((with_reducible refine FCond.i (fun hq => ?_) (fun hq => ?_)) <;> (try simp only [zA, zE, zD, zJ, zB, zI, Int.not_le, Int.not_lt] at hq)) | (with_reducible first | refine Fits.in64 (by omega) ?_ | refine FIdx.nat (by omega) ?_ | refine FIdx.int (by omega) ?_ | refine FTo.nat (by omega) ?_ | refine FTo.int (by omega) ?_) | ((with_reducible refine Need.mk ?_ ?_); focus exact needA) | (with_reducible first | refine FBit.hasT rfl (by assumption) ?_ | refine FBit.hasF rfl (by assumption) ?_ | refine FBit.shrN rfl (by omega) ?_ | refine FBit.half rfl ?_ | refine FBit.shl1 rfl (by omega) ?_ | refine Fits.inU (by omega) ?_ | refine FBit.shrNI rfl (by omega) ?_ | refine FBit.shrIN rfl (by omega) (by omega) ?_ | refine FBit.shrI rfl (by omega) (by omega) ?_ | refine FBit.shl1I rfl (by omega) ?_) | (with_reducible refine FBit.has rfl (fun hq => ?_) (fun hq => ?_)) | (with_reducible first | refine FBit.and1 rfl ?_ | refine FBit.andN rfl (by omega) (by omega) ?_ | refine FBit.orN rfl (by omega) (by omega) ?_ | refine FBit.andNotN rfl (by omega) (by omega) ?_) | (with_reducible refine FApp.grow ?_)))
            all_goals (try (conv => whnf))
            rw [updRm_self]
            (repeat' ((try (conv => whnf)); first | (with_reducible first | refine FCond.tA ?_ | refine FCond.fA ?_) | ((with_reducible refine FCond.i (fun hq => ?_) (fun hq => ?_)) <;> (try simp only [zA, zE, zD, zJ, zB, zI, Int.not_le, Int.not_lt] at hq)) | (with_reducible first | refine Fits.in64 (by omega) ?_ | refine FIdx.nat (by omega) ?_ | refine FIdx.int (by omega) ?_ | refine FTo.nat (by omega) ?_ | refine FTo.int (by omega) ?_) | ((with_reducible refine Need.mk ?_ ?_); focus exact needA) | (with_reducible first | refine FBit.hasT rfl (by assumption) ?_ | refine FBit.hasF rfl (by assumption) ?_ | refine FBit.shrN rfl (by omega) ?_ | refine FBit.half rfl ?_ | refine FBit.shl1 rfl (by omega) ?_ | refine Fits.inU (by omega) ?_ | refine FBit.shrNI rfl (by omega) ?_ | refine FBit.shrIN rfl (by omega) (by omega) ?_ | refine FBit.shrI rfl (by omega) (by omega) ?_ | refine FBit.shl1I rfl (by omega) ?_) | (with_reducible refine FBit.has rfl (fun hq => ?_) (fun hq => ?_)) | (with_reducible first | refine FBit.and1 rfl ?_ | refine FBit.andN rfl (by omega) (by omega) ?_ | refine FBit.orN rfl (by omega) (by omega) ?_ | refine FBit.andNotN rfl (by omega) (by omega) ?_) | (with_reducible refine FApp.grow ?_)))
            all_goals (try (conv => whnf))
            (exact ⟨⟨(k + 1, decide (0 ≤ useTo t ((coversT p s).getD i 0) k k - 0)), ⟨hlt2, hfs.trans (decide_eq_true (by omega)).symm⟩, by show _ < _; omega, [0, 1, 2], (by (refine Cut.of (Nat.le_of_ble_eq_true rfl) rfl rfl ?_; repeat (first | exact CutL.done | (refine CutL.turned rfl (by first | exact LnB.rowS | exact LnB.rowE (Nat.le_refl _) (fun k hk o ho => use_row (by omega)) | exact LnB.A) ?_) | (refine CutL.gone (Nat.lt_of_lt_of_le (Nat.lt_succ_self _) (Nat.le_of_ble_eq_true rfl)) ?_)))), allA⟩⟩)
        · rw [hbit, if_pos rfl] at huv
          have hd : (!true || decide (1 ≤ t.getD k 0)) = decide (0 ≤ useTo t ((coversT p s).getD i 0) k k - 1) := by
            rw [hold]; exact decide_eq_decide.2 (by omega)
          rw [hbit, hd] at hfs
          cases b
          · (repeat' ((try (conv => whnf)); first | (with_reducible first | refine FCond.tA ?_ | refine FCond.fA ?_) | ((with_reducible refine FCond.i (fun hq => ?_) (fun hq => ?_)) <;> (try simp only [zA, zE, zD, zJ, zB, zI, Int.not_le, Int.not_lt] at hq)) | (with_reducible first | refine Fits.in64 (by omega) ?_ | refine FIdx.nat (by omega) ?_ | refine FIdx.int (by omega) ?_ | refine FTo.nat (by omega) ?_ | refine FTo.int (by omega) ?_) | ((with_reducible refine Need.mk ?_ ?_); focus exact needA) | (with_reducible first | refine FBit.hasT rfl (by assumption) ?_ | refine FBit.hasF rfl (by assumption) ?_ | refine FBit.shrN rfl (by omega) ?_ | refine FBit.half rfl ?_ | refine FBit.shl1 rfl (by omega) ?_ | refine Fits.inU (by omega) ?_ | refine FBit.shrNI rfl (by omega) ?_ | refine FBit.shrIN rfl (by omega) (by omega) ?_ | refine FBit.shrI rfl (by omega) (by omega) ?_ | refine FBit.shl1I rfl (by omega) ?_) | (with_reducible refine FBit.has rfl (fun hq => ?_) (fun hq => ?_)) | (with_reducible first | refine FBit.and1 rfl ?_ | refine FBit.andN rfl (by omega) (by omega) ?_ | refine FBit.orN rfl (by omega) (by omega) ?_ | refine FBit.andNotN rfl (by omega) (by omega) ?_) | (with_reducible refine FApp.grow ?_)))
            all_goals (try (conv => whnf))
            (exact ⟨⟨(k + 1, false), ⟨hlt2, hfs⟩, by show _ < _; omega, [0, 1, 2], (by (refine Cut.of (Nat.le_of_ble_eq_true rfl) rfl rfl ?_; repeat (first | exact CutL.done | (refine CutL.turned rfl (by first | exact LnB.rowS | exact LnB.rowE (Nat.le_refl _) (fun k hk o ho => use_row (by omega)) | exact LnB.A) ?_) | (refine CutL.gone (Nat.lt_of_lt_of_le (Nat.lt_succ_self _) (Nat.le_of_ble_eq_true rfl)) ?_)))), allA⟩⟩)
          · (repeat' ((try (conv => whnf)); first | (with_reducible first | refine FCond.tA ?_ | refine FCond.fA ?_) | ((with_reducible refine FCond.i (fun hq => ?_) (fun hq => ?_)) <;> (try simp only [zA, zE, zD, zJ, zB, zI, Int.not_le, Int.not_lt] at hq)) | (with_reducible first | refine Fits.in64 (by omega) ?_ | refine FIdx.nat (by omega) ?_ | refine FIdx.int (by omega) ?_ | refine FTo.nat (by omega) ?_ | refine FTo.int (by omega) ?_) | ((with_reducible refine Need.mk ?_ ?_); focus exact needA) | (with_reducible first | refine FBit.hasT rfl (by assumption) ?_ | refine FBit.hasF rfl (by assumption) ?_ | refine FBit.shrN rfl (by omega) ?_ | refine FBit.half rfl ?_ | refine FBit.shl1 rfl (by omega) ?_ | refine Fits.inU (by omega) ?_ | refine FBit.shrNI rfl (by omega) ?_ | refine FBit.shrIN rfl (by omega) (by omega) ?_ | refine FBit.shrI rfl (by omega) (by omega) ?_ | refine FBit.shl1I rfl (by omega) ?_) | (with_reducible refine FBit.has rfl (fun hq => ?_) (fun hq => ?_)) | (with_reducible first | refine FBit.and1 rfl ?_ | refine FBit.andN rfl (by omega) (by omega) ?_ | refine FBit.orN rfl (by omega) (by omega) ?_ | refine FBit.andNotN rfl (by omega) (by omega) ?_) | (with_reducible refine FApp.grow ?_)))
            all_goals (try (conv => whnf))
            rw [updRm_self]
            (repeat' ((try (conv => whnf)); first | (with_reducible first | refine FCond.tA ?_ | refine FCond.fA ?_) | ((with_reducible refine FCond.i (fun hq => ?_) (fun hq => ?_)) <;> (try simp only [zA, zE, zD, zJ, zB, zI, Int.not_le, Int.not_lt] at hq)) | (with_reducible first | refine Fits.in64 (by omega) ?_ | refine FIdx.nat (by omega) ?_ | refine FIdx.int (by omega) ?_ | refine FTo.nat (by omega) ?_ | refine FTo.int (by omega) ?_) | ((with_reducible refine Need.mk ?_ ?_); focus exact needA) | (with_reducible first | refine FBit.hasT rfl (by assumption) ?_ | refine FBit.hasF rfl (by assumption) ?_ | refine FBit.shrN rfl (by omega) ?_ | refine FBit.half rfl ?_ | refine FBit.shl1 rfl (by omega) ?_ | refine Fits.inU (by omega) ?_ | refine FBit.shrNI rfl (by omega) ?_ | refine FBit.shrIN rfl (by omega) (by omega) ?_ | refine FBit.shrI rfl (by omega) (by omega) ?_ | refine FBit.shl1I rfl (by omega) ?_) | (with_reducible refine FBit.has rfl (fun hq => ?_) (fun hq => ?_)) | (with_reducible first | refine FBit.and1 rfl ?_ | refine FBit.andN rfl (by omega) (by omega) ?_ | refine FBit.orN rfl (by omega) (by omega) ?_ | refine FBit.andNotN rfl (by omega) (by omega) ?_) | (with_reducible refine FApp.grow ?_)))
            all_goals (try (conv => whnf))
            (exact ⟨⟨(k + 1, decide (0 ≤ useTo t ((coversT p s).getD i 0) k k - 1)), ⟨hlt2, hfs⟩, by show _ < _; omega, [0, 1, 2], (by (refine Cut.of (Nat.le_of_ble_eq_true rfl) rfl rfl ?_; repeat (first | exact CutL.done | (refine CutL.turned rfl (by first | exact LnB.rowS | exact LnB.rowE (Nat.le_refl _) (fun k hk o ho => use_row (by omega)) | exact LnB.A) ?_) | (refine CutL.gone (Nat.lt_of_lt_of_le (Nat.lt_succ_self _) (Nat.le_of_ble_eq_true rfl)) ?_)))), allA⟩⟩)
      · obtain rfl : k = p.folk.length := by omega
        cases b
        · have hev : evG p r t first ((coversT p s).getD i 0) = [] := by unfold evG; rw [hfk]; rfl
          rw [hev] at hst
          (repeat' ((try (conv => whnf)); first | (with_reducible first | refine FCond.tA ?_ | refine FCond.fA ?_) | ((with_reducible refine FCond.i (fun hq => ?_) (fun hq => ?_)) <;> (try simp only [zA, zE, zD, zJ, zB, zI, Int.not_le, Int.not_lt] at hq)) | (with_reducible first | refine Fits.in64 (by omega) ?_ | refine FIdx.nat (by omega) ?_ | refine FIdx.int (by omega) ?_ | refine FTo.nat (by omega) ?_ | refine FTo.int (by omega) ?_) | ((with_reducible refine Need.mk ?_ ?_); focus exact needA) | (with_reducible refine FApp.grow ?_)))
          all_goals (try (conv => whnf))
          (exact ⟨⟨(i + 1, a :: q), ⟨hlt, by rw [hst, List.append_nil]⟩, by show _ < _; omega, [0, 1], Cut.A, allA⟩⟩)
        · have hI := hih ((coversT p s).getD i 0) hfk
          have hev : evG p r t first ((coversT p s).getD i 0) = (everyV p r (useL p.folk.length ((coversT p s).getD i 0) t)).map fun v => toI ((first ++ [(coversT p s).getD i 0]) ++ v) := by
            unfold evG; rw [hfk, if_pos rfl]
            congr 1; funext v; rw [List.append_assoc]; rfl
          rw [← hev] at hI
          generalize evG p r t first ((coversT p s).getD i 0) = Lg at hst hI
          rcases s with _ | s
          · (repeat' ((try (conv => whnf)); first | (with_reducible first | refine FCond.tA ?_ | refine FCond.fA ?_) | ((with_reducible refine FCond.i (fun hq => ?_) (fun hq => ?_)) <;> (try simp only [zA, zE, zD, zJ, zB, zI, Int.not_le, Int.not_lt] at hq)) | (with_reducible first | refine Fits.in64 (by omega) ?_ | refine FIdx.nat (by omega) ?_ | refine FIdx.int (by omega) ?_ | refine FTo.nat (by omega) ?_ | refine FTo.int (by omega) ?_) | ((with_reducible refine Need.mk ?_ ?_); focus exact needA) | (with_reducible first | refine FBit.hasT rfl (by assumption) ?_ | refine FBit.hasF rfl (by assumption) ?_ | refine FBit.shrN rfl (by omega) ?_ | refine FBit.half rfl ?_ | refine FBit.shl1 rfl (by omega) ?_ | refine Fits.inU (by omega) ?_ | refine FBit.shrNI rfl (by omega) ?_ | refine FBit.shrIN rfl (by omega) (by omega) ?_ | refine FBit.shrI rfl (by omega) (by omega) ?_ | refine FBit.shl1I rfl (by omega) ?_) | (with_reducible refine FBit.has rfl (fun hq => ?_) (fun hq => ?_)) | (with_reducible first | refine FBit.and1 rfl ?_ | refine FBit.andN rfl (by omega) (by omega) ?_ | refine FBit.orN rfl (by omega) (by omega) ?_ | refine FBit.andNotN rfl (by omega) (by omega) ?_) | (with_reducible refine FApp.grow ?_)))
            all_goals (try (conv => whnf))
            refine FCall.bury 3 [aPool f p, aAll p, aInts false false (toI (first ++ [(coversT p 0).getD i 0])), .own 2 (0 + (ls.length + 1))] ⟨Ln.sameB _ rfl, Ln.sameB _ rfl, Ln.pubE rfl rfl (Nat.le_refl _) (by rw [toI_len, List.length_append, hf, List.length_singleton] <;> omega) (fun k hk o ho => ext0 hf hk ho), Ln.own _ _ _ ⟨rfl, by decide⟩, True.intro⟩ ?_
            refine FCall.bury 2 [aPool f p, aAll p, aInts false false (toI (first ++ [(coversT p 0).getD i 0])), aInts false false (leftN p (useL p.folk.length ((coversT p 0).getD i 0) t))] ⟨Ln.sameB _ rfl, Ln.sameB _ rfl, Ln.sameB _ rfl, Ln.pubE rfl rfl (Nat.le_refl _) (by rw [leftN_len]; omega) (fun k hk o ho => int_eq (by rw [leftN_get (by omega), useL_get (by omega)])), True.intro⟩ ?_
            refine FCall.pure hI ⟨Ln.sameB _ rfl, Ln.sameB _ rfl, Ln.sameB _ rfl, Ln.sameB _ rfl, True.intro⟩ rfl ?_
            have hql : q.length ≤ 1000000 := by
              have h1 := hel i
              rw [hL] at h1
              have h2 := Nat.mul_le_mul (show i ≤ 257 by omega) hp32
              simp only [List.length_cons] at h1
              omega
            rcases Lg with _ | ⟨x, xs⟩
            · (repeat' ((try (conv => whnf)); first | (with_reducible first | refine FCond.tA ?_ | refine FCond.fA ?_) | ((with_reducible refine FCond.i (fun hq => ?_) (fun hq => ?_)) <;> (try simp only [zA, zE, zD, zJ, zB, zI, Int.not_le, Int.not_lt] at hq)) | (with_reducible first | refine Fits.in64 (by omega) ?_ | refine FIdx.nat (by omega) ?_ | refine FIdx.int (by omega) ?_ | refine FTo.nat (by omega) ?_ | refine FTo.int (by omega) ?_) | ((with_reducible refine Need.mk ?_ ?_); focus exact needA) | (with_reducible first | refine FBit.hasT rfl (by assumption) ?_ | refine FBit.hasF rfl (by assumption) ?_ | refine FBit.shrN rfl (by omega) ?_ | refine FBit.half rfl ?_ | refine FBit.shl1 rfl (by omega) ?_ | refine Fits.inU (by omega) ?_ | refine FBit.shrNI rfl (by omega) ?_ | refine FBit.shrIN rfl (by omega) (by omega) ?_ | refine FBit.shrI rfl (by omega) (by omega) ?_ | refine FBit.shl1I rfl (by omega) ?_) | (with_reducible refine FBit.has rfl (fun hq => ?_) (fun hq => ?_)) | (with_reducible first | refine FBit.and1 rfl ?_ | refine FBit.andN rfl (by omega) (by omega) ?_ | refine FBit.orN rfl (by omega) (by omega) ?_ | refine FBit.andNotN rfl (by omega) (by omega) ?_) | (with_reducible refine FApp.grow ?_) | (refine Need.mk ⟨Nat.le_trans (m := 2000000) (by simp only [List.length_nil]; omega) (by decide), by simp only [List.length_nil]; omega⟩ ?_)))
              all_goals (try (conv => whnf))
              rw [show q.length + 1 + ([] : List (List Int)).length = q.length + 1 from rfl]
              (exact ⟨⟨(i + 1, a :: q), ⟨hlt, by rw [hst, List.append_nil]⟩, by show _ < _; omega, [0, 4], (by (refine Cut.of (Nat.le_of_ble_eq_true rfl) rfl rfl ?_; repeat (first | exact CutL.done | (refine CutL.turned rfl (by first | exact LnB.rowS | exact LnB.rowE (Nat.le_refl _) (fun k hk o ho => by rw [appc, if_pos hk]) | exact LnB.A) ?_) | (refine CutL.gone (Nat.lt_of_lt_of_le (Nat.lt_succ_self _) (Nat.le_of_ble_eq_true rfl)) ?_)))), allA⟩⟩)
            · have hxs : xs.length ≤ 1000000 := by
                have h1 := hel (i + 1)
                rw [hst] at h1
                have h2 := Nat.mul_le_mul (show i + 1 ≤ 257 by omega) hp32
                simp only [List.length_append, List.length_cons] at h1
                omega
              (repeat' ((try (conv => whnf)); first | (with_reducible first | refine FCond.tA ?_ | refine FCond.fA ?_) | ((with_reducible refine FCond.i (fun hq => ?_) (fun hq => ?_)) <;> (try simp only [zA, zE, zD, zJ, zB, zI, Int.not_le, Int.not_lt] at hq)) | (with_reducible first | refine Fits.in64 (by omega) ?_ | refine FIdx.nat (by omega) ?_ | refine FIdx.int (by omega) ?_ | refine FTo.nat (by omega) ?_ | refine FTo.int (by omega) ?_) | ((with_reducible refine Need.mk ?_ ?_); focus exact needA) | (with_reducible first | refine FBit.hasT rfl (by assumption) ?_ | refine FBit.hasF rfl (by assumption) ?_ | refine FBit.shrN rfl (by omega) ?_ | refine FBit.half rfl ?_ | refine FBit.shl1 rfl (by omega) ?_ | refine Fits.inU (by omega) ?_ | refine FBit.shrNI rfl (by omega) ?_ | refine FBit.shrIN rfl (by omega) (by omega) ?_ | refine FBit.shrI rfl (by omega) (by omega) ?_ | refine FBit.shl1I rfl (by omega) ?_) | (with_reducible refine FBit.has rfl (fun hq => ?_) (fun hq => ?_)) | (with_reducible first | refine FBit.and1 rfl ?_ | refine FBit.andN rfl (by omega) (by omega) ?_ | refine FBit.orN rfl (by omega) (by omega) ?_ | refine FBit.andNotN rfl (by omega) (by omega) ?_) | (with_reducible refine FApp.grow ?_) | (refine Need.mk ⟨Nat.le_trans (m := 3000000) (by simp only [List.length_cons]; omega) (by decide), by simp only [List.length_cons]; omega⟩ ?_)))
              all_goals (try (conv => whnf))
              rw [show q.length + 1 + (x :: xs).length = (q ++ x :: xs).length + 1 by simp only [List.length_append, List.length_cons]; omega]
              (exact ⟨⟨(i + 1, a :: (q ++ x :: xs)), ⟨hlt, hst⟩, by show _ < _; omega, [0, 4], (by (refine Cut.of (Nat.le_of_ble_eq_true rfl) rfl rfl ?_; repeat (first | exact CutL.done | (refine CutL.turned rfl (by first | exact LnB.rowS | exact LnB.rowE (Nat.le_refl _) (fun k hk o ho => getD_appL ho) | exact LnB.A) ?_) | (refine CutL.gone (Nat.lt_of_lt_of_le (Nat.lt_succ_self _) (Nat.le_of_ble_eq_true rfl)) ?_)))), allA⟩⟩)
          · (repeat' ((try (conv => whnf)); first | (with_reducible first | refine FCond.tA ?_ | refine FCond.fA ?_) | ((with_reducible refine FCond.i (fun hq => ?_) (fun hq => ?_)) <;> (try simp only [zA, zE, zD, zJ, zB, zI, Int.not_le, Int.not_lt] at hq)) | (with_reducible first | refine Fits.in64 (by omega) ?_ | refine FIdx.nat (by omega) ?_ | refine FIdx.int (by omega) ?_ | refine FTo.nat (by omega) ?_ | refine FTo.int (by omega) ?_) | ((with_reducible refine Need.mk ?_ ?_); focus exact needA) | (with_reducible first | refine FBit.hasT rfl (by assumption) ?_ | refine FBit.hasF rfl (by assumption) ?_ | refine FBit.shrN rfl (by omega) ?_ | refine FBit.half rfl ?_ | refine FBit.shl1 rfl (by omega) ?_ | refine Fits.inU (by omega) ?_ | refine FBit.shrNI rfl (by omega) ?_ | refine FBit.shrIN rfl (by omega) (by omega) ?_ | refine FBit.shrI rfl (by omega) (by omega) ?_ | refine FBit.shl1I rfl (by omega) ?_) | (with_reducible refine FBit.has rfl (fun hq => ?_) (fun hq => ?_)) | (with_reducible first | refine FBit.and1 rfl ?_ | refine FBit.andN rfl (by omega) (by omega) ?_ | refine FBit.orN rfl (by omega) (by omega) ?_ | refine FBit.andNotN rfl (by omega) (by omega) ?_) | (with_reducible refine FApp.grow ?_)))
            all_goals (try (conv => whnf))
            refine FCall.bury 4 [aPool f p, aAll p, aInts false false (toI (first ++ [(coversT p (s + 1)).getD i 0])), .own 2 (0 + (ls.length + 1))] ⟨Ln.sameB _ rfl, Ln.sameB _ rfl, Ln.pubE rfl rfl (Nat.le_refl _) (by rw [toI_len, List.length_append, hf, List.length_singleton] <;> omega) (fun k hk o ho => ext1 hf hk ho), Ln.own _ _ _ ⟨rfl, by decide⟩, True.intro⟩ ?_
            refine FCall.bury 2 [aPool f p, aAll p, aInts false false (toI (first ++ [(coversT p (s + 1)).getD i 0])), aInts false false (leftN p (useL p.folk.length ((coversT p (s + 1)).getD i 0) t))] ⟨Ln.sameB _ rfl, Ln.sameB _ rfl, Ln.sameB _ rfl, Ln.pubE rfl rfl (Nat.le_refl _) (by rw [leftN_len]; omega) (fun k hk o ho => int_eq (by rw [leftN_get (by omega), useL_get (by omega)])), True.intro⟩ ?_
            refine FCall.pure hI ⟨Ln.sameB _ rfl, Ln.sameB _ rfl, Ln.sameB _ rfl, Ln.sameB _ rfl, True.intro⟩ rfl ?_
            have hql : q.length ≤ 1000000 := by
              have h1 := hel i
              rw [hL] at h1
              have h2 := Nat.mul_le_mul (show i ≤ 257 by omega) hp32
              simp only [List.length_cons] at h1
              omega
            rcases Lg with _ | ⟨x, xs⟩
            · (repeat' ((try (conv => whnf)); first | (with_reducible first | refine FCond.tA ?_ | refine FCond.fA ?_) | ((with_reducible refine FCond.i (fun hq => ?_) (fun hq => ?_)) <;> (try simp only [zA, zE, zD, zJ, zB, zI, Int.not_le, Int.not_lt] at hq)) | (with_reducible first | refine Fits.in64 (by omega) ?_ | refine FIdx.nat (by omega) ?_ | refine FIdx.int (by omega) ?_ | refine FTo.nat (by omega) ?_ | refine FTo.int (by omega) ?_) | ((with_reducible refine Need.mk ?_ ?_); focus exact needA) | (with_reducible first | refine FBit.hasT rfl (by assumption) ?_ | refine FBit.hasF rfl (by assumption) ?_ | refine FBit.shrN rfl (by omega) ?_ | refine FBit.half rfl ?_ | refine FBit.shl1 rfl (by omega) ?_ | refine Fits.inU (by omega) ?_ | refine FBit.shrNI rfl (by omega) ?_ | refine FBit.shrIN rfl (by omega) (by omega) ?_ | refine FBit.shrI rfl (by omega) (by omega) ?_ | refine FBit.shl1I rfl (by omega) ?_) | (with_reducible refine FBit.has rfl (fun hq => ?_) (fun hq => ?_)) | (with_reducible first | refine FBit.and1 rfl ?_ | refine FBit.andN rfl (by omega) (by omega) ?_ | refine FBit.orN rfl (by omega) (by omega) ?_ | refine FBit.andNotN rfl (by omega) (by omega) ?_) | (with_reducible refine FApp.grow ?_) | (refine Need.mk ⟨Nat.le_trans (m := 2000000) (by simp only [List.length_nil]; omega) (by decide), by simp only [List.length_nil]; omega⟩ ?_)))
              all_goals (try (conv => whnf))
              rw [show q.length + 1 + ([] : List (List Int)).length = q.length + 1 from rfl]
              (exact ⟨⟨(i + 1, a :: q), ⟨hlt, by rw [hst, List.append_nil]⟩, by show _ < _; omega, [0, 5], (by (refine Cut.of (Nat.le_of_ble_eq_true rfl) rfl rfl ?_; repeat (first | exact CutL.done | (refine CutL.turned rfl (by first | exact LnB.rowS | exact LnB.rowE (Nat.le_refl _) (fun k hk o ho => by rw [appc, if_pos hk]) | exact LnB.A) ?_) | (refine CutL.gone (Nat.lt_of_lt_of_le (Nat.lt_succ_self _) (Nat.le_of_ble_eq_true rfl)) ?_)))), allA⟩⟩)
            · have hxs : xs.length ≤ 1000000 := by
                have h1 := hel (i + 1)
                rw [hst] at h1
                have h2 := Nat.mul_le_mul (show i + 1 ≤ 257 by omega) hp32
                simp only [List.length_append, List.length_cons] at h1
                omega
              (repeat' ((try (conv => whnf)); first | (with_reducible first | refine FCond.tA ?_ | refine FCond.fA ?_) | ((with_reducible refine FCond.i (fun hq => ?_) (fun hq => ?_)) <;> (try simp only [zA, zE, zD, zJ, zB, zI, Int.not_le, Int.not_lt] at hq)) | (with_reducible first | refine Fits.in64 (by omega) ?_ | refine FIdx.nat (by omega) ?_ | refine FIdx.int (by omega) ?_ | refine FTo.nat (by omega) ?_ | refine FTo.int (by omega) ?_) | ((with_reducible refine Need.mk ?_ ?_); focus exact needA) | (with_reducible first | refine FBit.hasT rfl (by assumption) ?_ | refine FBit.hasF rfl (by assumption) ?_ | refine FBit.shrN rfl (by omega) ?_ | refine FBit.half rfl ?_ | refine FBit.shl1 rfl (by omega) ?_ | refine Fits.inU (by omega) ?_ | refine FBit.shrNI rfl (by omega) ?_ | refine FBit.shrIN rfl (by omega) (by omega) ?_ | refine FBit.shrI rfl (by omega) (by omega) ?_ | refine FBit.shl1I rfl (by omega) ?_) | (with_reducible refine FBit.has rfl (fun hq => ?_) (fun hq => ?_)) | (with_reducible first | refine FBit.and1 rfl ?_ | refine FBit.andN rfl (by omega) (by omega) ?_ | refine FBit.orN rfl (by omega) (by omega) ?_ | refine FBit.andNotN rfl (by omega) (by omega) ?_) | (with_reducible refine FApp.grow ?_) | (refine Need.mk ⟨Nat.le_trans (m := 3000000) (by simp only [List.length_cons]; omega) (by decide), by simp only [List.length_cons]; omega⟩ ?_)))
              all_goals (try (conv => whnf))
              rw [show q.length + 1 + (x :: xs).length = (q ++ x :: xs).length + 1 by simp only [List.length_append, List.length_cons]; omega]
              (exact ⟨⟨(i + 1, a :: (q ++ x :: xs)), ⟨hlt, hst⟩, by show _ < _; omega, [0, 5], (by (refine Cut.of (Nat.le_of_ble_eq_true rfl) rfl rfl ?_; repeat (first | exact CutL.done | (refine CutL.turned rfl (by first | exact LnB.rowS | exact LnB.rowE (Nat.le_refl _) (fun k hk o ho => getD_appL ho) | exact LnB.A) ?_) | (refine CutL.gone (Nat.lt_of_lt_of_le (Nat.lt_succ_self _) (Nat.le_of_ble_eq_true rfl)) ?_)))), allA⟩⟩)
  · obtain rfl : i = (coversT p s).length := by omega
    rw [hL]
    rcases lst with _ | ⟨a, q⟩
    all_goals
      (repeat' ((try (conv => whnf)); first | (with_reducible first | refine FCond.tA ?_ | refine FCond.fA ?_) | ((with_reducible refine FCond.i (fun hq => ?_) (fun hq => ?_)) <;> (try simp only [zA, zE, zD, zJ, zB, zI, Int.not_le, Int.not_lt] at hq)) | (with_reducible first | refine Fits.in64 (by omega) ?_ | refine FIdx.nat (by omega) ?_ | refine FIdx.int (by omega) ?_ | refine FTo.nat (by omega) ?_ | refine FTo.int (by omega) ?_) | ((with_reducible refine Need.mk ?_ ?_); focus exact needA) | (with_reducible refine FApp.grow ?_)))
      all_goals (try (conv => whnf))
    · exact ⟨⟨aLs [], [], [], Cut.nil _, Ln.slz _ _ _ _ _ _ _ (fun _ => rfl), rfl, rfl⟩⟩
    · exact ⟨⟨aLs (a :: q), [], [], Cut.nil _, Ln.pubE (goneB rfl) rfl (Nat.le_refl _) rfl (fun _ _ _ _ => rfl), rfl, rfl⟩⟩
end Go.Proofs.Ytbhjehpjjbbhbaa
