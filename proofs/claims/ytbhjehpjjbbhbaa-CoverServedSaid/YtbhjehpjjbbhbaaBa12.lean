/- Cover: the statement CoverIll. / Cover: how the sick and the given languages read. / Cover, plain: given languages (the easy half of Hall's theorem). / Cover: Given of the reference. / Cover: the statement CoverServed. -/
import Derived.Test.YtbhjehpjjbbhbaaBa11
import Derived.Test.YtbhjehpjjbbhbaaBa7
import Derived.Test.YtbhjehpjjbbhbaaBa8
set_option linter.unusedSimpArgs false
set_option linter.unusedVariables false
namespace Go.Proofs.Ytbhjehpjjbbhbaa
open Go.RowKit

abbrev cSick (s i : Int) : Nat → AV := ofL [AI s, AI i]
theorem ill_lt {p : Pool} {a g : Nat} (hg : g < 2 ^ p.folk.length) (h : sdiff a g = 0) : a < 2 ^ p.folk.length := Nat.lt_of_le_of_lt (le_of_bits (sdiff_z.1 h)) hg
set_option maxHeartbeats 8000000
set_option maxRecDepth 100000
theorem cill_any (f : PoF) (p : Pool) (z : Bool) (w : List Int) (sl il : Int) (hw : ∀ s, s < w.length → in64 (w.getD s 0)) (hlw : w.length ≤ 9223372036854775807) (hil : in64 il) : ACall Try.prog 7 [aPool f p, aInts z false w, .agg 2 (cSick sl il)] [] (fun v h => v = .bool true ∧ h = []) := by
  have hcv := valid_ok f p
  unfold in64 at hil
  (refine fcall_of mixed Try.func7 rfl (by decide) (hs := { ord := [(7, [(0, []), (1, []), (2, []), (3, []), (4, []), (5, []), (6, []), (7, []), (8, []), (9, []), (10, []), (11, []), (12, []), (13, []), (14, []), (15, []), (16, []), (17, []), (18, []), (19, []), (20, []), (21, []), (22, []), (23, []), (25, []), (26, []), (24, [26]), (27, []), (28, [])])] }) ?k (ac := ?ac) ?c (rs := ?rs) ?r ?l ?H; (case k => kernel_rfl); (case c => (conv => (lhs; cbv))); (case r => (conv => (lhs; cbv))); (case l => exact Nat.le_of_ble_eq_true rfl))
  cases hv : validT p
  · rw [hv] at hcv
    (repeat' ((try (conv => whnf)); first | (with_reducible first | refine FCond.tA ?_ | refine FCond.fA ?_) | ((with_reducible refine FCond.i (fun hq => ?_) (fun hq => ?_)) <;> (try simp only [zA, zE, zD, zJ, zB, zI, Int.not_le, Int.not_lt] at hq)) | (with_reducible first | refine Fits.in64 (by omega) ?_ | refine FIdx.nat (by omega) ?_ | refine FIdx.int (by omega) ?_ | refine FTo.nat (by omega) ?_ | refine FTo.int (by omega) ?_) | ((with_reducible refine Need.mk ?_ ?_); focus exact needA) | (with_reducible refine FApp.grow ?_) | (refine FCall.pure (hcv) ⟨Ln.sameB _ rfl, True.intro⟩ rfl ?_) | (refine FCall.pure works_ok True.intro rfl ?_)))
    all_goals (try (conv => whnf))
    all_goals ((refine ⟨⟨_, [], [], Cut.nil _, Ln.sameB _ rfl, ?_, rfl⟩⟩); rfl)
  rw [hv] at hcv
  obtain ⟨hn, hk, h, hs⟩ := valid_d hv
  by_cases hl : w.length ≤ 20
  · have ciw := isWatch_ok f p z false w (by omega) h
    cases hq : isWatch p w
    · rw [hq] at ciw
      (repeat' ((try (conv => whnf)); first | (with_reducible first | refine FCond.tA ?_ | refine FCond.fA ?_) | ((with_reducible refine FCond.i (fun hq => ?_) (fun hq => ?_)) <;> (try simp only [zA, zE, zD, zJ, zB, zI, Int.not_le, Int.not_lt] at hq)) | (with_reducible first | refine Fits.in64 (by omega) ?_ | refine FIdx.nat (by omega) ?_ | refine FIdx.int (by omega) ?_ | refine FTo.nat (by omega) ?_ | refine FTo.int (by omega) ?_) | ((with_reducible refine Need.mk ?_ ?_); focus exact needA) | (with_reducible refine FApp.grow ?_) | (refine FCall.pure (hcv) ⟨Ln.sameB _ rfl, True.intro⟩ rfl ?_) | (refine FCall.pure (ciw) ⟨Ln.sameB _ rfl, Ln.sameB _ rfl, True.intro⟩ rfl ?_) | (refine FCall.pure works_ok True.intro rfl ?_)))
      all_goals (try (conv => whnf))
      all_goals ((refine ⟨⟨_, [], [], Cut.nil _, Ln.sameB _ rfl, ?_, rfl⟩⟩); rfl)
    rw [hq] at ciw
    have k := watch_d hq
    have hcw := checkW_0 hk hq
    have hlen := k.len
    have s6 := h.s6
    have t5 := h.t5
    have hp8 := pow8 h.n8
    have hp5 := pow5 t5
    have cS := psafe_ok f p z false w hn hw (by omega)
    rw [show safeE p w = (safeT p w, 0) by unfold safeE; rw [if_pos hcw], safe_weak] at cS
    have cW := pWeak_ok f p z false w hn hw (by omega)
    have hm0 := weak_nn p w
    have cI := isSlot_ok f p sl (by omega)
    -- the program's gap
    obtain ⟨g, e, b, hgE, hgm, heE, hbE, hgI⟩ : ∃ (g : GapT) (e : Int) (b : Bool), weakE p w = (g, e) ∧ g.missing = (weakT p w).missing ∧ (e = 3 ∧ b = true ∨ e = 0 ∧ b = false) ∧ decide ((weakT p w).missing = 0) = b ∧ (e = 0 → ACall Try.prog 26 [aPool f p, aInts z false w, aGap g] [] (fun r h => r = .bool true ∧ h = [])) := by
      by_cases hm : (weakT p w).missing = 0
      · refine ⟨gap0, 3, true, by unfold weakE; rw [if_pos hcw, if_pos hm], hm.symm, .inl ⟨rfl, rfl⟩, decide_eq_true hm, fun e => by cases e⟩
      · refine ⟨weakT p w, 0, false, by unfold weakE; rw [if_pos hcw, if_neg hm], rfl, .inr ⟨rfl, rfl⟩, decide_eq_false hm, fun _ => ?_⟩
        rcases weak_found p w with e | ⟨s, a, T, h1, h2, h3, h4, h5⟩
        · rw [e] at hm; exact absurd rfl hm
        · obtain ⟨m1, m2⟩ := watch_lt h k h1
          have := isGap_ok f p z false w s a T (w.getD s 0).toNat (weakT p w).missing h1 (by omega) (by omega) h3 h k
          rw [h5] at this
          rw [h4]; exact this
    rw [hgE] at cW
    rw [hbE] at cS
    by_cases hsl : 0 ≤ sl ∧ sl ≤ p.needs.length - 1
    · rw [show inB sl 0 (p.needs.length - 1) = true from decide_eq_true hsl] at cI
      obtain ⟨s, rfl⟩ : ∃ s : Nat, sl = s := ⟨sl.toNat, by omega⟩
      obtain ⟨e1, e2, _⟩ := k.el s (by omega)
      obtain ⟨m, hm⟩ : ∃ m : Nat, w.getD s 0 = m := ⟨(w.getD s 0).toNat, by omega⟩
      rw [hm, Int.toNat_natCast] at e2
      by_cases hi0 : 0 ≤ il
      · obtain ⟨a, rfl⟩ : ∃ a : Nat, il = a := ⟨il.toNat, by omega⟩
        by_cases ha : sdiff a m = 0
        · have ha2 := ill_lt (p := p) e2 ha
          have cZ := size_ok a (by omega)
          rcases heE with ⟨rfl, rfl⟩ | ⟨rfl, rfl⟩
          · (repeat' ((try (conv => whnf)); first | (with_reducible first | refine FCond.tA ?_ | refine FCond.fA ?_) | ((with_reducible refine FCond.i (fun hq => ?_) (fun hq => ?_)) <;> (try simp only [zA, zE, zD, zJ, zB, zI, Int.not_le, Int.not_lt] at hq)) | (with_reducible first | refine Fits.in64 (by omega) ?_ | refine FIdx.nat (by omega) ?_ | refine FIdx.int (by omega) ?_ | refine FTo.nat (by omega) ?_ | refine FTo.int (by omega) ?_) | ((with_reducible refine Need.mk ?_ ?_); focus exact needA) | (with_reducible first | refine FBit.hasT rfl (by assumption) ?_ | refine FBit.hasF rfl (by assumption) ?_ | refine FBit.shrN rfl (by omega) ?_ | refine FBit.half rfl ?_ | refine FBit.shl1 rfl (by omega) ?_ | refine Fits.inU (by omega) ?_ | refine FBit.shrNI rfl (by omega) ?_ | refine FBit.shrIN rfl (by omega) (by omega) ?_ | refine FBit.shrI rfl (by omega) (by omega) ?_ | refine FBit.shl1I rfl (by omega) ?_) | (with_reducible refine FBit.has rfl (fun hq => ?_) (fun hq => ?_)) | (with_reducible first | refine FBit.and1 rfl ?_ | refine FBit.andN rfl (by omega) (by omega) ?_ | refine FBit.orN rfl (by omega) (by omega) ?_ | refine FBit.andNotN rfl (by omega) (by omega) ?_) | (with_reducible refine FApp.grow ?_) | (refine FCall.pure (hcv) ⟨Ln.sameB _ rfl, True.intro⟩ rfl ?_) | (refine FCall.pure (ciw) ⟨Ln.sameB _ rfl, Ln.sameB _ rfl, True.intro⟩ rfl ?_) | (refine FCall.pure (cS) ⟨Ln.sameB _ rfl, Ln.sameB _ rfl, True.intro⟩ rfl ?_) | (refine FCall.pure (cW) ⟨Ln.sameB _ rfl, Ln.sameB _ rfl, True.intro⟩ rfl ?_) | (refine FCall.pure (cI) ⟨Ln.sameB _ rfl, Ln.sameB _ rfl, True.intro⟩ rfl ?_) | (refine FCall.pure (cZ) ⟨Ln.sameB _ rfl, True.intro⟩ rfl ?_) | (refine FBit.andNotI rfl (a := a) (b := m) rfl hm (by omega) (by omega) ?_) | (refine FCall.pure works_ok True.intro rfl ?_)))
            all_goals (try (conv => whnf))
            · exact absurd hq (by first | decide | (simp; done) | fail)
            · (refine ⟨⟨_, [], [], Cut.nil _, Ln.sameB _ rfl, ?_, rfl⟩⟩)
              rfl
            · rename_i hpa
              refine FLoop.of (ACalls.mono _) (X := Nat) (fun T => [(1, aInts z false w), (3, .ptr 0 0), (5, .ptr 1 0), (7, .bool true), (9, .ptr 2 0), (11, AI T)]) (fun _ => [.box 4 (cPool f p), .box 2 (cSick s a), .box 4 (cGap g)]) (fun T => T ≤ 2 ^ p.nT) (fun T => 2 ^ p.nT - T) 0 ⟨Nat.zero_le _, [0, 1, 2], Cut.A, allA⟩ ?_
              intro T hT
              have c3 := tongues_ok f p (by omega)
              by_cases hlt : T < 2 ^ p.nT
              · have c5 := missing_ok f p s (sdiff m a) T (by omega) (by omega) h
                have hle := weak_le (p := p) (w := w) (s := s) (a := a) (T := T) (by omega) (by rw [hm, Int.toNat_natCast]; exact ha) hq hlt
                rw [hm, Int.toNat_natCast] at hle
                clear hpa
                (repeat' ((try (conv => whnf)); first | (with_reducible first | refine FCond.tA ?_ | refine FCond.fA ?_) | ((with_reducible refine FCond.i (fun hq => ?_) (fun hq => ?_)) <;> (try simp only [zA, zE, zD, zJ, zB, zI, Int.not_le, Int.not_lt] at hq)) | (with_reducible first | refine Fits.in64 (by omega) ?_ | refine FIdx.nat (by omega) ?_ | refine FIdx.int (by omega) ?_ | refine FTo.nat (by omega) ?_ | refine FTo.int (by omega) ?_) | ((with_reducible refine Need.mk ?_ ?_); focus exact needA) | (with_reducible first | refine FBit.hasT rfl (by assumption) ?_ | refine FBit.hasF rfl (by assumption) ?_ | refine FBit.shrN rfl (by omega) ?_ | refine FBit.half rfl ?_ | refine FBit.shl1 rfl (by omega) ?_ | refine Fits.inU (by omega) ?_ | refine FBit.shrNI rfl (by omega) ?_ | refine FBit.shrIN rfl (by omega) (by omega) ?_ | refine FBit.shrI rfl (by omega) (by omega) ?_ | refine FBit.shl1I rfl (by omega) ?_) | (with_reducible refine FBit.has rfl (fun hq => ?_) (fun hq => ?_)) | (with_reducible first | refine FBit.and1 rfl ?_ | refine FBit.andN rfl (by omega) (by omega) ?_ | refine FBit.orN rfl (by omega) (by omega) ?_ | refine FBit.andNotN rfl (by omega) (by omega) ?_) | (with_reducible refine FApp.grow ?_) | (refine FCall.pure (c3) ⟨Ln.sameB _ rfl, True.intro⟩ rfl ?_) | (refine FCall.pure (c5) ⟨Ln.sameB _ rfl, Ln.sameB _ rfl, Ln.sameB _ rfl, Ln.sameB _ rfl, True.intro⟩ rfl ?_) | (refine FBit.andNotI rfl (a := m) (b := a) hm rfl (by omega) (by omega) ?_)))
                all_goals (try (conv => whnf))
                all_goals first
                  | (exact ⟨⟨(T + 1), hlt, by show _ < _; omega, [0, 1, 2], Cut.A, allA⟩⟩)
                  | (exfalso; have hbE := of_decide_eq_true hbE; omega)
              · obtain rfl : T = 2 ^ p.nT := by omega
                clear hpa
                (repeat' ((try (conv => whnf)); first | (with_reducible first | refine FCond.tA ?_ | refine FCond.fA ?_) | ((with_reducible refine FCond.i (fun hq => ?_) (fun hq => ?_)) <;> (try simp only [zA, zE, zD, zJ, zB, zI, Int.not_le, Int.not_lt] at hq)) | (with_reducible first | refine Fits.in64 (by omega) ?_ | refine FIdx.nat (by omega) ?_ | refine FIdx.int (by omega) ?_ | refine FTo.nat (by omega) ?_ | refine FTo.int (by omega) ?_) | ((with_reducible refine Need.mk ?_ ?_); focus exact needA) | (with_reducible first | refine FBit.hasT rfl (by assumption) ?_ | refine FBit.hasF rfl (by assumption) ?_ | refine FBit.shrN rfl (by omega) ?_ | refine FBit.half rfl ?_ | refine FBit.shl1 rfl (by omega) ?_ | refine Fits.inU (by omega) ?_ | refine FBit.shrNI rfl (by omega) ?_ | refine FBit.shrIN rfl (by omega) (by omega) ?_ | refine FBit.shrI rfl (by omega) (by omega) ?_ | refine FBit.shl1I rfl (by omega) ?_) | (with_reducible refine FBit.has rfl (fun hq => ?_) (fun hq => ?_)) | (with_reducible first | refine FBit.and1 rfl ?_ | refine FBit.andN rfl (by omega) (by omega) ?_ | refine FBit.orN rfl (by omega) (by omega) ?_ | refine FBit.andNotN rfl (by omega) (by omega) ?_) | (with_reducible refine FApp.grow ?_) | (refine FCall.pure (c3) ⟨Ln.sameB _ rfl, True.intro⟩ rfl ?_) | (refine FCall.pure works_ok True.intro rfl ?_)))
                all_goals (try (conv => whnf))
                (refine ⟨⟨_, [], [], Cut.nil _, Ln.sameB _ rfl, ?_, rfl⟩⟩)
                rfl
          · have cG := hgI rfl
            (repeat' ((try (conv => whnf)); first | (with_reducible first | refine FCond.tA ?_ | refine FCond.fA ?_) | ((with_reducible refine FCond.i (fun hq => ?_) (fun hq => ?_)) <;> (try simp only [zA, zE, zD, zJ, zB, zI, Int.not_le, Int.not_lt] at hq)) | (with_reducible first | refine Fits.in64 (by omega) ?_ | refine FIdx.nat (by omega) ?_ | refine FIdx.int (by omega) ?_ | refine FTo.nat (by omega) ?_ | refine FTo.int (by omega) ?_) | ((with_reducible refine Need.mk ?_ ?_); focus exact needA) | (with_reducible first | refine FBit.hasT rfl (by assumption) ?_ | refine FBit.hasF rfl (by assumption) ?_ | refine FBit.shrN rfl (by omega) ?_ | refine FBit.half rfl ?_ | refine FBit.shl1 rfl (by omega) ?_ | refine Fits.inU (by omega) ?_ | refine FBit.shrNI rfl (by omega) ?_ | refine FBit.shrIN rfl (by omega) (by omega) ?_ | refine FBit.shrI rfl (by omega) (by omega) ?_ | refine FBit.shl1I rfl (by omega) ?_) | (with_reducible refine FBit.has rfl (fun hq => ?_) (fun hq => ?_)) | (with_reducible first | refine FBit.and1 rfl ?_ | refine FBit.andN rfl (by omega) (by omega) ?_ | refine FBit.orN rfl (by omega) (by omega) ?_ | refine FBit.andNotN rfl (by omega) (by omega) ?_) | (with_reducible refine FApp.grow ?_) | (refine FCall.pure (hcv) ⟨Ln.sameB _ rfl, True.intro⟩ rfl ?_) | (refine FCall.pure (ciw) ⟨Ln.sameB _ rfl, Ln.sameB _ rfl, True.intro⟩ rfl ?_) | (refine FCall.pure (cS) ⟨Ln.sameB _ rfl, Ln.sameB _ rfl, True.intro⟩ rfl ?_) | (refine FCall.pure (cW) ⟨Ln.sameB _ rfl, Ln.sameB _ rfl, True.intro⟩ rfl ?_) | (refine FCall.pure (cI) ⟨Ln.sameB _ rfl, Ln.sameB _ rfl, True.intro⟩ rfl ?_) | (refine FCall.pure (cZ) ⟨Ln.sameB _ rfl, True.intro⟩ rfl ?_) | (refine FCall.pure (cG) ⟨Ln.sameB _ rfl, Ln.sameB _ rfl, Ln.sameB _ rfl, True.intro⟩ rfl ?_) | (refine FBit.andNotI rfl (a := a) (b := m) rfl hm (by omega) (by omega) ?_) | (refine FCall.pure works_ok True.intro rfl ?_)))
            all_goals (try (conv => whnf))
            · exact absurd hq (by first | decide | (simp; done) | fail)
            · (refine ⟨⟨_, [], [], Cut.nil _, Ln.sameB _ rfl, ?_, rfl⟩⟩)
              rfl
            · rename_i hpa
              refine FLoop.of (ACalls.mono _) (X := Nat) (fun T => [(1, aInts z false w), (3, .ptr 0 0), (5, .ptr 1 0), (7, .bool false), (9, .ptr 2 0), (11, AI T)]) (fun _ => [.box 4 (cPool f p), .box 2 (cSick s a), .box 4 (cGap g)]) (fun T => T ≤ 2 ^ p.nT) (fun T => 2 ^ p.nT - T) 0 ⟨Nat.zero_le _, [0, 1, 2], Cut.A, allA⟩ ?_
              intro T hT
              have c3 := tongues_ok f p (by omega)
              by_cases hlt : T < 2 ^ p.nT
              · have c5 := missing_ok f p s (sdiff m a) T (by omega) (by omega) h
                have hle := weak_le (p := p) (w := w) (s := s) (a := a) (T := T) (by omega) (by rw [hm, Int.toNat_natCast]; exact ha) hq hlt
                rw [hm, Int.toNat_natCast] at hle
                clear hpa
                (repeat' ((try (conv => whnf)); first | (with_reducible first | refine FCond.tA ?_ | refine FCond.fA ?_) | ((with_reducible refine FCond.i (fun hq => ?_) (fun hq => ?_)) <;> (try simp only [zA, zE, zD, zJ, zB, zI, Int.not_le, Int.not_lt] at hq)) | (with_reducible first | refine Fits.in64 (by omega) ?_ | refine FIdx.nat (by omega) ?_ | refine FIdx.int (by omega) ?_ | refine FTo.nat (by omega) ?_ | refine FTo.int (by omega) ?_) | ((with_reducible refine Need.mk ?_ ?_); focus exact needA) | (with_reducible first | refine FBit.hasT rfl (by assumption) ?_ | refine FBit.hasF rfl (by assumption) ?_ | refine FBit.shrN rfl (by omega) ?_ | refine FBit.half rfl ?_ | refine FBit.shl1 rfl (by omega) ?_ | refine Fits.inU (by omega) ?_ | refine FBit.shrNI rfl (by omega) ?_ | refine FBit.shrIN rfl (by omega) (by omega) ?_ | refine FBit.shrI rfl (by omega) (by omega) ?_ | refine FBit.shl1I rfl (by omega) ?_) | (with_reducible refine FBit.has rfl (fun hq => ?_) (fun hq => ?_)) | (with_reducible first | refine FBit.and1 rfl ?_ | refine FBit.andN rfl (by omega) (by omega) ?_ | refine FBit.orN rfl (by omega) (by omega) ?_ | refine FBit.andNotN rfl (by omega) (by omega) ?_) | (with_reducible refine FApp.grow ?_) | (refine FCall.pure (c3) ⟨Ln.sameB _ rfl, True.intro⟩ rfl ?_) | (refine FCall.pure (c5) ⟨Ln.sameB _ rfl, Ln.sameB _ rfl, Ln.sameB _ rfl, Ln.sameB _ rfl, True.intro⟩ rfl ?_) | (refine FBit.andNotI rfl (a := m) (b := a) hm rfl (by omega) (by omega) ?_)))
                all_goals (try (conv => whnf))
                all_goals first
                  | (exact ⟨⟨(T + 1), hlt, by show _ < _; omega, [0, 1, 2], Cut.A, allA⟩⟩)
                  | (exfalso; have hbE := of_decide_eq_false hbE; omega)
              · obtain rfl : T = 2 ^ p.nT := by omega
                clear hpa
                (repeat' ((try (conv => whnf)); first | (with_reducible first | refine FCond.tA ?_ | refine FCond.fA ?_) | ((with_reducible refine FCond.i (fun hq => ?_) (fun hq => ?_)) <;> (try simp only [zA, zE, zD, zJ, zB, zI, Int.not_le, Int.not_lt] at hq)) | (with_reducible first | refine Fits.in64 (by omega) ?_ | refine FIdx.nat (by omega) ?_ | refine FIdx.int (by omega) ?_ | refine FTo.nat (by omega) ?_ | refine FTo.int (by omega) ?_) | ((with_reducible refine Need.mk ?_ ?_); focus exact needA) | (with_reducible first | refine FBit.hasT rfl (by assumption) ?_ | refine FBit.hasF rfl (by assumption) ?_ | refine FBit.shrN rfl (by omega) ?_ | refine FBit.half rfl ?_ | refine FBit.shl1 rfl (by omega) ?_ | refine Fits.inU (by omega) ?_ | refine FBit.shrNI rfl (by omega) ?_ | refine FBit.shrIN rfl (by omega) (by omega) ?_ | refine FBit.shrI rfl (by omega) (by omega) ?_ | refine FBit.shl1I rfl (by omega) ?_) | (with_reducible refine FBit.has rfl (fun hq => ?_) (fun hq => ?_)) | (with_reducible first | refine FBit.and1 rfl ?_ | refine FBit.andN rfl (by omega) (by omega) ?_ | refine FBit.orN rfl (by omega) (by omega) ?_ | refine FBit.andNotN rfl (by omega) (by omega) ?_) | (with_reducible refine FApp.grow ?_) | (refine FCall.pure (c3) ⟨Ln.sameB _ rfl, True.intro⟩ rfl ?_) | (refine FCall.pure works_ok True.intro rfl ?_)))
                all_goals (try (conv => whnf))
                (refine ⟨⟨_, [], [], Cut.nil _, Ln.sameB _ rfl, ?_, rfl⟩⟩)
                rfl
        · have ha2 : a < 9223372036854775808 := by omega
          rcases heE with ⟨rfl, rfl⟩ | ⟨rfl, rfl⟩
          · (repeat' ((try (conv => whnf)); first | (with_reducible first | refine FCond.tA ?_ | refine FCond.fA ?_) | ((with_reducible refine FCond.i (fun hq => ?_) (fun hq => ?_)) <;> (try simp only [zA, zE, zD, zJ, zB, zI, Int.not_le, Int.not_lt] at hq)) | (with_reducible first | refine Fits.in64 (by omega) ?_ | refine FIdx.nat (by omega) ?_ | refine FIdx.int (by omega) ?_ | refine FTo.nat (by omega) ?_ | refine FTo.int (by omega) ?_) | ((with_reducible refine Need.mk ?_ ?_); focus exact needA) | (with_reducible first | refine FBit.hasT rfl (by assumption) ?_ | refine FBit.hasF rfl (by assumption) ?_ | refine FBit.shrN rfl (by omega) ?_ | refine FBit.half rfl ?_ | refine FBit.shl1 rfl (by omega) ?_ | refine Fits.inU (by omega) ?_ | refine FBit.shrNI rfl (by omega) ?_ | refine FBit.shrIN rfl (by omega) (by omega) ?_ | refine FBit.shrI rfl (by omega) (by omega) ?_ | refine FBit.shl1I rfl (by omega) ?_) | (with_reducible refine FBit.has rfl (fun hq => ?_) (fun hq => ?_)) | (with_reducible first | refine FBit.and1 rfl ?_ | refine FBit.andN rfl (by omega) (by omega) ?_ | refine FBit.orN rfl (by omega) (by omega) ?_ | refine FBit.andNotN rfl (by omega) (by omega) ?_) | (with_reducible refine FApp.grow ?_) | (refine FCall.pure (hcv) ⟨Ln.sameB _ rfl, True.intro⟩ rfl ?_) | (refine FCall.pure (ciw) ⟨Ln.sameB _ rfl, Ln.sameB _ rfl, True.intro⟩ rfl ?_) | (refine FCall.pure (cS) ⟨Ln.sameB _ rfl, Ln.sameB _ rfl, True.intro⟩ rfl ?_) | (refine FCall.pure (cW) ⟨Ln.sameB _ rfl, Ln.sameB _ rfl, True.intro⟩ rfl ?_) | (refine FCall.pure (cI) ⟨Ln.sameB _ rfl, Ln.sameB _ rfl, True.intro⟩ rfl ?_) | (refine FBit.andNotI rfl (a := a) (b := m) rfl hm (by omega) (by omega) ?_) | (refine FCall.pure works_ok True.intro rfl ?_)))
            all_goals (try (conv => whnf))
            all_goals first | ((refine ⟨⟨_, [], [], Cut.nil _, Ln.sameB _ rfl, ?_, rfl⟩⟩); rfl) | exact absurd hq (by first | decide | (simp; done) | fail) | (exfalso; omega)
          · have cG := hgI rfl
            (repeat' ((try (conv => whnf)); first | (with_reducible first | refine FCond.tA ?_ | refine FCond.fA ?_) | ((with_reducible refine FCond.i (fun hq => ?_) (fun hq => ?_)) <;> (try simp only [zA, zE, zD, zJ, zB, zI, Int.not_le, Int.not_lt] at hq)) | (with_reducible first | refine Fits.in64 (by omega) ?_ | refine FIdx.nat (by omega) ?_ | refine FIdx.int (by omega) ?_ | refine FTo.nat (by omega) ?_ | refine FTo.int (by omega) ?_) | ((with_reducible refine Need.mk ?_ ?_); focus exact needA) | (with_reducible first | refine FBit.hasT rfl (by assumption) ?_ | refine FBit.hasF rfl (by assumption) ?_ | refine FBit.shrN rfl (by omega) ?_ | refine FBit.half rfl ?_ | refine FBit.shl1 rfl (by omega) ?_ | refine Fits.inU (by omega) ?_ | refine FBit.shrNI rfl (by omega) ?_ | refine FBit.shrIN rfl (by omega) (by omega) ?_ | refine FBit.shrI rfl (by omega) (by omega) ?_ | refine FBit.shl1I rfl (by omega) ?_) | (with_reducible refine FBit.has rfl (fun hq => ?_) (fun hq => ?_)) | (with_reducible first | refine FBit.and1 rfl ?_ | refine FBit.andN rfl (by omega) (by omega) ?_ | refine FBit.orN rfl (by omega) (by omega) ?_ | refine FBit.andNotN rfl (by omega) (by omega) ?_) | (with_reducible refine FApp.grow ?_) | (refine FCall.pure (hcv) ⟨Ln.sameB _ rfl, True.intro⟩ rfl ?_) | (refine FCall.pure (ciw) ⟨Ln.sameB _ rfl, Ln.sameB _ rfl, True.intro⟩ rfl ?_) | (refine FCall.pure (cS) ⟨Ln.sameB _ rfl, Ln.sameB _ rfl, True.intro⟩ rfl ?_) | (refine FCall.pure (cW) ⟨Ln.sameB _ rfl, Ln.sameB _ rfl, True.intro⟩ rfl ?_) | (refine FCall.pure (cI) ⟨Ln.sameB _ rfl, Ln.sameB _ rfl, True.intro⟩ rfl ?_) | (refine FCall.pure (cG) ⟨Ln.sameB _ rfl, Ln.sameB _ rfl, Ln.sameB _ rfl, True.intro⟩ rfl ?_) | (refine FBit.andNotI rfl (a := a) (b := m) rfl hm (by omega) (by omega) ?_) | (refine FCall.pure works_ok True.intro rfl ?_)))
            all_goals (try (conv => whnf))
            all_goals first | ((refine ⟨⟨_, [], [], Cut.nil _, Ln.sameB _ rfl, ?_, rfl⟩⟩); rfl) | exact absurd hq (by first | decide | (simp; done) | fail) | (exfalso; omega)
      · rcases heE with ⟨rfl, rfl⟩ | ⟨rfl, rfl⟩
        · (repeat' ((try (conv => whnf)); first | (with_reducible first | refine FCond.tA ?_ | refine FCond.fA ?_) | ((with_reducible refine FCond.i (fun hq => ?_) (fun hq => ?_)) <;> (try simp only [zA, zE, zD, zJ, zB, zI, Int.not_le, Int.not_lt] at hq)) | (with_reducible first | refine Fits.in64 (by omega) ?_ | refine FIdx.nat (by omega) ?_ | refine FIdx.int (by omega) ?_ | refine FTo.nat (by omega) ?_ | refine FTo.int (by omega) ?_) | ((with_reducible refine Need.mk ?_ ?_); focus exact needA) | (with_reducible first | refine FBit.hasT rfl (by assumption) ?_ | refine FBit.hasF rfl (by assumption) ?_ | refine FBit.shrN rfl (by omega) ?_ | refine FBit.half rfl ?_ | refine FBit.shl1 rfl (by omega) ?_ | refine Fits.inU (by omega) ?_ | refine FBit.shrNI rfl (by omega) ?_ | refine FBit.shrIN rfl (by omega) (by omega) ?_ | refine FBit.shrI rfl (by omega) (by omega) ?_ | refine FBit.shl1I rfl (by omega) ?_) | (with_reducible refine FBit.has rfl (fun hq => ?_) (fun hq => ?_)) | (with_reducible first | refine FBit.and1 rfl ?_ | refine FBit.andN rfl (by omega) (by omega) ?_ | refine FBit.orN rfl (by omega) (by omega) ?_ | refine FBit.andNotN rfl (by omega) (by omega) ?_) | (with_reducible refine FApp.grow ?_) | (refine FCall.pure (hcv) ⟨Ln.sameB _ rfl, True.intro⟩ rfl ?_) | (refine FCall.pure (ciw) ⟨Ln.sameB _ rfl, Ln.sameB _ rfl, True.intro⟩ rfl ?_) | (refine FCall.pure (cS) ⟨Ln.sameB _ rfl, Ln.sameB _ rfl, True.intro⟩ rfl ?_) | (refine FCall.pure (cW) ⟨Ln.sameB _ rfl, Ln.sameB _ rfl, True.intro⟩ rfl ?_) | (refine FCall.pure (cI) ⟨Ln.sameB _ rfl, Ln.sameB _ rfl, True.intro⟩ rfl ?_) | (refine FCall.pure works_ok True.intro rfl ?_)))
          all_goals (try (conv => whnf))
          all_goals first | ((refine ⟨⟨_, [], [], Cut.nil _, Ln.sameB _ rfl, ?_, rfl⟩⟩); rfl) | exact absurd hq (by first | decide | (simp; done) | fail) | (exfalso; omega)
        · have cG := hgI rfl
          (repeat' ((try (conv => whnf)); first | (with_reducible first | refine FCond.tA ?_ | refine FCond.fA ?_) | ((with_reducible refine FCond.i (fun hq => ?_) (fun hq => ?_)) <;> (try simp only [zA, zE, zD, zJ, zB, zI, Int.not_le, Int.not_lt] at hq)) | (with_reducible first | refine Fits.in64 (by omega) ?_ | refine FIdx.nat (by omega) ?_ | refine FIdx.int (by omega) ?_ | refine FTo.nat (by omega) ?_ | refine FTo.int (by omega) ?_) | ((with_reducible refine Need.mk ?_ ?_); focus exact needA) | (with_reducible first | refine FBit.hasT rfl (by assumption) ?_ | refine FBit.hasF rfl (by assumption) ?_ | refine FBit.shrN rfl (by omega) ?_ | refine FBit.half rfl ?_ | refine FBit.shl1 rfl (by omega) ?_ | refine Fits.inU (by omega) ?_ | refine FBit.shrNI rfl (by omega) ?_ | refine FBit.shrIN rfl (by omega) (by omega) ?_ | refine FBit.shrI rfl (by omega) (by omega) ?_ | refine FBit.shl1I rfl (by omega) ?_) | (with_reducible refine FBit.has rfl (fun hq => ?_) (fun hq => ?_)) | (with_reducible first | refine FBit.and1 rfl ?_ | refine FBit.andN rfl (by omega) (by omega) ?_ | refine FBit.orN rfl (by omega) (by omega) ?_ | refine FBit.andNotN rfl (by omega) (by omega) ?_) | (with_reducible refine FApp.grow ?_) | (refine FCall.pure (hcv) ⟨Ln.sameB _ rfl, True.intro⟩ rfl ?_) | (refine FCall.pure (ciw) ⟨Ln.sameB _ rfl, Ln.sameB _ rfl, True.intro⟩ rfl ?_) | (refine FCall.pure (cS) ⟨Ln.sameB _ rfl, Ln.sameB _ rfl, True.intro⟩ rfl ?_) | (refine FCall.pure (cW) ⟨Ln.sameB _ rfl, Ln.sameB _ rfl, True.intro⟩ rfl ?_) | (refine FCall.pure (cI) ⟨Ln.sameB _ rfl, Ln.sameB _ rfl, True.intro⟩ rfl ?_) | (refine FCall.pure (cG) ⟨Ln.sameB _ rfl, Ln.sameB _ rfl, Ln.sameB _ rfl, True.intro⟩ rfl ?_) | (refine FCall.pure works_ok True.intro rfl ?_)))
          all_goals (try (conv => whnf))
          all_goals first | ((refine ⟨⟨_, [], [], Cut.nil _, Ln.sameB _ rfl, ?_, rfl⟩⟩); rfl) | exact absurd hq (by first | decide | (simp; done) | fail) | (exfalso; omega)
    · rw [show inB sl 0 (p.needs.length - 1) = false from decide_eq_false hsl] at cI
      rcases heE with ⟨rfl, rfl⟩ | ⟨rfl, rfl⟩
      · (repeat' ((try (conv => whnf)); first | (with_reducible first | refine FCond.tA ?_ | refine FCond.fA ?_) | ((with_reducible refine FCond.i (fun hq => ?_) (fun hq => ?_)) <;> (try simp only [zA, zE, zD, zJ, zB, zI, Int.not_le, Int.not_lt] at hq)) | (with_reducible first | refine Fits.in64 (by omega) ?_ | refine FIdx.nat (by omega) ?_ | refine FIdx.int (by omega) ?_ | refine FTo.nat (by omega) ?_ | refine FTo.int (by omega) ?_) | ((with_reducible refine Need.mk ?_ ?_); focus exact needA) | (with_reducible first | refine FBit.hasT rfl (by assumption) ?_ | refine FBit.hasF rfl (by assumption) ?_ | refine FBit.shrN rfl (by omega) ?_ | refine FBit.half rfl ?_ | refine FBit.shl1 rfl (by omega) ?_ | refine Fits.inU (by omega) ?_ | refine FBit.shrNI rfl (by omega) ?_ | refine FBit.shrIN rfl (by omega) (by omega) ?_ | refine FBit.shrI rfl (by omega) (by omega) ?_ | refine FBit.shl1I rfl (by omega) ?_) | (with_reducible refine FBit.has rfl (fun hq => ?_) (fun hq => ?_)) | (with_reducible first | refine FBit.and1 rfl ?_ | refine FBit.andN rfl (by omega) (by omega) ?_ | refine FBit.orN rfl (by omega) (by omega) ?_ | refine FBit.andNotN rfl (by omega) (by omega) ?_) | (with_reducible refine FApp.grow ?_) | (refine FCall.pure (hcv) ⟨Ln.sameB _ rfl, True.intro⟩ rfl ?_) | (refine FCall.pure (ciw) ⟨Ln.sameB _ rfl, Ln.sameB _ rfl, True.intro⟩ rfl ?_) | (refine FCall.pure (cS) ⟨Ln.sameB _ rfl, Ln.sameB _ rfl, True.intro⟩ rfl ?_) | (refine FCall.pure (cW) ⟨Ln.sameB _ rfl, Ln.sameB _ rfl, True.intro⟩ rfl ?_) | (refine FCall.pure (cI) ⟨Ln.sameB _ rfl, Ln.sameB _ rfl, True.intro⟩ rfl ?_) | (refine FCall.pure works_ok True.intro rfl ?_)))
        all_goals (try (conv => whnf))
        all_goals first | ((refine ⟨⟨_, [], [], Cut.nil _, Ln.sameB _ rfl, ?_, rfl⟩⟩); rfl) | exact absurd hq (by first | decide | (simp; done) | fail) | (exfalso; omega)
      · have cG := hgI rfl
        (repeat' ((try (conv => whnf)); first | (with_reducible first | refine FCond.tA ?_ | refine FCond.fA ?_) | ((with_reducible refine FCond.i (fun hq => ?_) (fun hq => ?_)) <;> (try simp only [zA, zE, zD, zJ, zB, zI, Int.not_le, Int.not_lt] at hq)) | (with_reducible first | refine Fits.in64 (by omega) ?_ | refine FIdx.nat (by omega) ?_ | refine FIdx.int (by omega) ?_ | refine FTo.nat (by omega) ?_ | refine FTo.int (by omega) ?_) | ((with_reducible refine Need.mk ?_ ?_); focus exact needA) | (with_reducible first | refine FBit.hasT rfl (by assumption) ?_ | refine FBit.hasF rfl (by assumption) ?_ | refine FBit.shrN rfl (by omega) ?_ | refine FBit.half rfl ?_ | refine FBit.shl1 rfl (by omega) ?_ | refine Fits.inU (by omega) ?_ | refine FBit.shrNI rfl (by omega) ?_ | refine FBit.shrIN rfl (by omega) (by omega) ?_ | refine FBit.shrI rfl (by omega) (by omega) ?_ | refine FBit.shl1I rfl (by omega) ?_) | (with_reducible refine FBit.has rfl (fun hq => ?_) (fun hq => ?_)) | (with_reducible first | refine FBit.and1 rfl ?_ | refine FBit.andN rfl (by omega) (by omega) ?_ | refine FBit.orN rfl (by omega) (by omega) ?_ | refine FBit.andNotN rfl (by omega) (by omega) ?_) | (with_reducible refine FApp.grow ?_) | (refine FCall.pure (hcv) ⟨Ln.sameB _ rfl, True.intro⟩ rfl ?_) | (refine FCall.pure (ciw) ⟨Ln.sameB _ rfl, Ln.sameB _ rfl, True.intro⟩ rfl ?_) | (refine FCall.pure (cS) ⟨Ln.sameB _ rfl, Ln.sameB _ rfl, True.intro⟩ rfl ?_) | (refine FCall.pure (cW) ⟨Ln.sameB _ rfl, Ln.sameB _ rfl, True.intro⟩ rfl ?_) | (refine FCall.pure (cI) ⟨Ln.sameB _ rfl, Ln.sameB _ rfl, True.intro⟩ rfl ?_) | (refine FCall.pure (cG) ⟨Ln.sameB _ rfl, Ln.sameB _ rfl, Ln.sameB _ rfl, True.intro⟩ rfl ?_) | (refine FCall.pure works_ok True.intro rfl ?_)))
        all_goals (try (conv => whnf))
        all_goals first | ((refine ⟨⟨_, [], [], Cut.nil _, Ln.sameB _ rfl, ?_, rfl⟩⟩); rfl) | exact absurd hq (by first | decide | (simp; done) | fail) | (exfalso; omega)
  · (repeat' ((try (conv => whnf)); first | (with_reducible first | refine FCond.tA ?_ | refine FCond.fA ?_) | ((with_reducible refine FCond.i (fun hq => ?_) (fun hq => ?_)) <;> (try simp only [zA, zE, zD, zJ, zB, zI, Int.not_le, Int.not_lt] at hq)) | (with_reducible first | refine Fits.in64 (by omega) ?_ | refine FIdx.nat (by omega) ?_ | refine FIdx.int (by omega) ?_ | refine FTo.nat (by omega) ?_ | refine FTo.int (by omega) ?_) | ((with_reducible refine Need.mk ?_ ?_); focus exact needA) | (with_reducible refine FApp.grow ?_) | (refine FCall.pure (hcv) ⟨Ln.sameB _ rfl, True.intro⟩ rfl ?_) | (refine FCall.pure works_ok True.intro rfl ?_)))
    all_goals (try (conv => whnf))
    all_goals ((refine ⟨⟨_, [], [], Cut.nil _, Ln.sameB _ rfl, ?_, rfl⟩⟩); rfl)
end Go.Proofs.Ytbhjehpjjbbhbaa

namespace Go.Proofs.Ytbhjehpjjbbhbaa
open Go.RowKit Go.ChangeShapes Go.WideShapes Go.Deep

section
variable {H : Type} {enc : TypeId × Value → H} {w : World} {base : Nat} {held : Bool}
theorem csz2 : Try.prog.cellsOf 57 = 2 ∧ Try.prog.cellsOf 42 = 2 := by
  refine ⟨?_, ?_⟩ <;> kernel_rfl
theorem rt_sick {n : Nat} {cs : List Value} {y : DataW H × List MemPlace} (h : DataW.trod enc Try.prog w base (fun _ => true) held n 57 cs = some y) : ∃ x : Int × Int, (I64 x.1 ∧ I64 x.2) ∧ CellsAre w cs 2 (ofL [AI x.1, AI x.2]) := by
  obtain ⟨hl, ⟨_, _, h0⟩, ⟨_, _, h1⟩, _⟩ := rdr_fields Try.underlying57 h
  simp only [csz.1] at h0 h1
  obtain ⟨a, ha, c0⟩ := rt_int h0
  obtain ⟨b, hb, c1⟩ := rt_int h1
  refine ⟨(a, b), ⟨ha, hb⟩, by rw [hl]; exact csz2.1, fun o ho => ?_⟩
  rcases (show o = 0 ∨ o = 1 by omega) with rfl | rfl
  · exact c0.sub (o := 0) (by omega)
  · exact c1.sub (o := 0) (by omega)
theorem rt_given {n : Nat} {cs : List Value} {y : DataW H × List MemPlace} (h : DataW.trod enc Try.prog w base (fun _ => true) held n 42 cs = some y) : ∃ x : Int × Bool × List Int, (I64 x.1 ∧ x.2.2.length ≤ 9223372036854775807 ∧ ∀ a ∈ x.2.2, I64 a) ∧ CellsAre w cs 2 (ofL [AI x.1, aInts x.2.1 false x.2.2]) := by
  obtain ⟨hl, ⟨_, _, h0⟩, ⟨_, _, h1⟩, _⟩ := rdr_fields Try.underlying42 h
  simp only [csz.1, csz.2.1] at h0 h1
  obtain ⟨a, ha, c0⟩ := rt_int h0
  obtain ⟨z, b, hb, c1⟩ := rt_ints h1
  refine ⟨(a, z, b), ⟨ha, hb⟩, by rw [hl]; exact csz2.2, fun o ho => ?_⟩
  rcases (show o = 0 ∨ o = 1 by omega) with rfl | rfl
  · exact c0.sub (o := 0) (by omega)
  · exact c1.sub (o := 0) (by omega)
end
end Go.Proofs.Ytbhjehpjjbbhbaa

namespace Go.Proofs.Ytbhjehpjjbbhbaa
open Go.RowKit

/-- To how many of the first people a language is given. -/
def cntTo (l : List Int) (t : Nat) : Nat → Nat
  | 0 => 0
  | i + 1 => cntTo l t i + if l.getD i 0 = (t : Int) then 1 else 0
def sumTo (f : Nat → Nat) (T : Nat) : Nat → Nat
  | 0 => 0
  | k + 1 => sumTo f T k + if T.testBit k then f k else 0
theorem sumTo_add (f g : Nat → Nat) (T : Nat) : ∀ k, sumTo (fun t => f t + g t) T k = sumTo f T k + sumTo g T k
  | 0 => rfl
  | k + 1 => by
    rw [sumTo, sumTo, sumTo, sumTo_add f g T k]
    split <;> omega
theorem sumTo_one (x : Int) (T : Nat) : ∀ k, sumTo (fun t => if x = (t : Int) then 1 else 0) T k ≤ if 0 ≤ x ∧ x < k ∧ T.testBit x.toNat = true then 1 else 0
  | 0 => by rw [sumTo]; exact Nat.zero_le _
  | k + 1 => by
    have ih := sumTo_one x T k
    rw [sumTo]
    by_cases e : x = (k : Int)
    · subst e
      rw [if_neg (by omega)] at ih
      rw [if_pos rfl, Int.toNat_natCast]
      cases hT : T.testBit k with
      | false => rw [if_neg (by decide)]; omega
      | true => rw [if_pos rfl, if_pos ⟨by omega, by omega, rfl⟩]; omega
    · rw [if_neg e]
      have e2 : (if T.testBit k = true then 0 else 0) = 0 := by split <;> rfl
      rw [e2]
      by_cases h : 0 ≤ x ∧ x < (k : Int) ∧ T.testBit x.toNat = true
      · rw [if_pos h] at ih
        rw [if_pos ⟨h.1, by omega, h.2.2⟩]; omega
      · rw [if_neg h] at ih
        omega
/-- A language is rightly given to the person. -/
def gvB (p : Pool) (g : Nat) (l : List Int) (i : Nat) : Bool := decide (l.getD i 0 = -1) || (g.testBit i && (inB (l.getD i 0) 0 ((p.nT : Int) - 1) && (p.tg i).testBit (l.getD i 0).toNat))
def givenT (p : Pool) (s g : Nat) (l : List Int) : Bool := decide (l.length = p.folk.length) && ((List.range l.length).all (gvB p g l) && (List.range p.nT).all fun t => decide ((p.row s).getD t 0 ≤ (cntTo l t l.length : Nat)))
theorem gv_and {p : Pool} {T i : Nat} {x : Nat} (h1 : (p.tg i).testBit x = true) (h2 : T.testBit x = true) : p.tg i &&& T ≠ 0 := fun e => by
  have : (p.tg i &&& T).testBit x = true := by rw [Nat.testBit_and, h1, h2]; rfl
  rw [e] at this
  simp at this
theorem cnt_who {p : Pool} {g T : Nat} {l : List Int} : ∀ i, (∀ j, j < i → gvB p g l j = true) → sumTo (fun t => cntTo l t i) T p.nT ≤ whoTo p g T i
  | 0, _ => by
    have : ∀ k, sumTo (fun t => cntTo l t 0) T k = 0 := fun k => by
      induction k with
      | zero => rfl
      | succ k ih =>
        rw [sumTo, ih]
        have e2 : (if T.testBit k = true then cntTo l k 0 else 0) = 0 := by split <;> rfl
        rw [e2]
    rw [this]; exact Nat.zero_le _
  | i + 1, h => by
    have ih := cnt_who (T := T) i (fun j hj => h j (by omega))
    have h1 := sumTo_one (l.getD i 0) T p.nT
    have e : (fun t => cntTo l t (i + 1)) = fun t => cntTo l t i + (if l.getD i 0 = (t : Int) then 1 else 0) := rfl
    rw [e, sumTo_add, whoTo]
    have hg := h i (by omega)
    by_cases hc : 0 ≤ l.getD i 0 ∧ l.getD i 0 < (p.nT : Int) ∧ T.testBit (l.getD i 0).toNat = true
    · rw [if_pos hc] at h1
      simp only [gvB, Bool.or_eq_true, Bool.and_eq_true, decide_eq_true_eq] at hg
      rcases hg with hg | ⟨hg1, hg2, hg3⟩
      · omega
      · rw [if_pos (by rw [hg1, Bool.true_and]; exact decide_eq_true (gv_and hg3 hc.2.2))]
        omega
    · rw [if_neg hc] at h1
      omega
theorem need_cnt {p : Pool} {s T : Nat} {f : Nat → Nat} : ∀ k, (∀ t, t < k → (p.row s).getD t 0 ≤ (f t : Nat)) → needTo p s T k ≤ (sumTo f T k : Nat)
  | 0, _ => Int.le_refl _
  | k + 1, h => by
    have ih := need_cnt (T := T) k (fun t ht => h t (by omega))
    have hk := h k (by omega)
    rw [needTo, sumTo]
    cases T.testBit k with
    | false => rw [if_neg (by decide), if_neg (by decide)]; omega
    | true => rw [if_pos rfl, if_pos rfl]; omega
/-- THE THEOREM OF THE GIVEN LANGUAGES. -/
theorem given_spare {p : Pool} (h : PoolOk p) {s g : Nat} (hs : s < p.needs.length) (hg : g < 2 ^ p.folk.length) {l : List Int} (hl : givenT p s g l = true) : 0 ≤ spareT p s g := by
  simp only [givenT, Bool.and_eq_true, decide_eq_true_eq] at hl
  obtain ⟨h1, h2, h3⟩ := hl
  have hb := spare_b (p := p) s g
  have hst : standsT p s g 0 = true := (stands_need h hs (need_nn h hs) hg (Int.le_refl 0)).2 fun T hT _ => by
    have k1 := cnt_who (p := p) (g := g) (T := T) (l := l) l.length (fun j hj => rall_get h2 hj)
    have k2 := need_cnt (p := p) (s := s) (T := T) (f := fun t => cntTo l t l.length) p.nT (fun t ht => of_decide_eq_true (rall_get (p := fun t => decide ((p.row s).getD t 0 ≤ (cntTo l t l.length : Nat))) h3 ht))
    show 0 ≤ (whoT p g T : Int) - needT p s T
    unfold whoT needT
    rw [h1] at k1
    rw [h1] at k2
    omega
  rcases (stands_spare h hs hg (Int.le_refl 0)).1 hst with e | e <;> omega
end Go.Proofs.Ytbhjehpjjbbhbaa

namespace Go.Proofs.Ytbhjehpjjbbhbaa
open Go.RowKit

def cntR (l : List Int) (i t : Nat) : Int := (cntTo l t i : Nat)
theorem cnt_same {l : List Int} {i : Nat} (h : l.getD i 0 = -1) (t : Nat) : AI (cntR l (i + 1) t) = AI (cntR l i t) := by
  unfold cntR
  rw [cntTo, if_neg (by omega)]; rfl
theorem cnt_row {l : List Int} {i x : Nat} (h : l.getD i 0 = (x : Int)) (t o : Nat) : AI (cntR l (i + 1) t) = updRm (fun t _ => AI (cntR l i t)) x (fun _ => AI (cntR l i x + 1)) t o := by
  simp only [updRm, cntR]
  by_cases e : t = x
  · subst e; rw [if_pos rfl, cntTo, if_pos h]; exact int_eq (by omega)
  · rw [if_neg e, cntTo, if_neg (by omega)]; rfl
theorem cnt_le (l : List Int) (t : Nat) : ∀ i, cntTo l t i ≤ i
  | 0 => Nat.le_refl _
  | i + 1 => by have := cnt_le l t i; rw [cntTo]; split <;> omega
set_option maxHeartbeats 8000000
set_option maxRecDepth 100000
theorem given_ok (f : PoF) (p : Pool) (s g : Nat) (z e : Bool) (l : List Int) (hs : s < p.needs.length) (h : PoolOk p) : ACall Try.prog 21 [aPool f p, AI s, AI g, aInts z e l] [] (fun r h => r = .bool (givenT p s g l) ∧ h = []) := by
  have n8 := h.n8
  have t5 := h.t5
  have s6 := h.s6
  have hrow := h.row s hs
  unfold Pool.row at hrow
  have cT := tongues_ok f p (by omega)
  (refine fcall_of mixed Try.func21 rfl (by decide) (hs := { ord := [(8, [(0, []), (1, []), (2, []), (3, []), (4, []), (5, []), (6, []), (7, []), (8, []), (9, []), (10, [8]), (11, []), (12, []), (13, []), (14, []), (15, []), (16, []), (17, []), (18, []), (19, []), (20, []), (21, []), (22, []), (23, []), (24, []), (25, []), (26, []), (27, []), (28, [])])] }) ?k (ac := ?ac) ?c (rs := ?rs) ?r ?l ?H; (case k => kernel_rfl); (case c => (conv => (lhs; cbv))); (case r => (conv => (lhs; cbv))); (case l => exact Nat.le_of_ble_eq_true rfl))
  by_cases hl : l.length = p.folk.length
  · have hG : givenT p s g l = ((List.range l.length).all (gvB p g l) && (List.range p.nT).all fun t => decide ((p.row s).getD t 0 ≤ (cntTo l t l.length : Nat))) := by unfold givenT; rw [decide_eq_true hl, Bool.true_and]
    rw [hG]
    (repeat' ((try (conv => whnf)); first | (with_reducible first | refine FCond.tA ?_ | refine FCond.fA ?_) | ((with_reducible refine FCond.i (fun hq => ?_) (fun hq => ?_)) <;> (try simp only [zA, zE, zD, zJ, zB, zI, Int.not_le, Int.not_lt] at hq)) | (with_reducible first | refine Fits.in64 (by omega) ?_ | refine FIdx.nat (by omega) ?_ | refine FIdx.int (by omega) ?_ | refine FTo.nat (by omega) ?_ | refine FTo.int (by omega) ?_) | ((with_reducible refine Need.mk ?_ ?_); focus exact needA) | (with_reducible refine FApp.grow ?_) | (refine FCall.pure (cT) ⟨Ln.sameB _ rfl, True.intro⟩ rfl ?_)))
    all_goals (try (conv => whnf))
    refine FLoop.of (ACalls.mono _) (X := Nat) (fun i => [(1, AI s), (2, AI g), (3, aInts z e l), (4, .ptr 0 0), (9, .own 1 p.nT), (10, AI i)]) (fun i => [.box 4 (cPool f p), rowZ p.nT (cntR l i)]) (fun i => i ≤ l.length ∧ ∀ j, j < i → gvB p g l j = true) (fun i => l.length - i) 0 ⟨⟨Nat.zero_le _, fun j hj => absurd hj (Nat.not_lt_zero j)⟩, [0, 1], Cut.of (Nat.le_of_ble_eq_true rfl) rfl rfl (CutL.turned rfl LnB.A (CutL.turned rfl (LnB.rowE (by omega) (fun k hk o ho => by obtain rfl : o = 0 := Nat.lt_one_iff.1 ho; rfl)) CutL.done)), allA⟩ ?_
    rintro i ⟨hi, hL⟩
    by_cases hlt : i < l.length
    · have hf := (h.folk i (by omega)).1
      have c1 := has_ok g i (by omega)
      by_cases hx : l.getD i 0 = -1
      · (repeat' ((try (conv => whnf)); first | (with_reducible first | refine FCond.tA ?_ | refine FCond.fA ?_) | ((with_reducible refine FCond.i (fun hq => ?_) (fun hq => ?_)) <;> (try simp only [zA, zE, zD, zJ, zB, zI, Int.not_le, Int.not_lt] at hq)) | (with_reducible first | refine Fits.in64 (by omega) ?_ | refine FIdx.nat (by omega) ?_ | refine FIdx.int (by omega) ?_ | refine FTo.nat (by omega) ?_ | refine FTo.int (by omega) ?_) | ((with_reducible refine Need.mk ?_ ?_); focus exact needA) | (with_reducible refine FApp.grow ?_)))
        all_goals (try (conv => whnf))
        (exact ⟨⟨(i + 1), ⟨hlt, below_step hL (by unfold gvB; rw [decide_eq_true hx]; rfl)⟩, by show _ < _; omega, [0, 1], (by (refine Cut.of (Nat.le_of_ble_eq_true rfl) rfl rfl ?_; repeat (first | exact CutL.done | (refine CutL.turned rfl (by first | exact LnB.rowS | exact LnB.rowE (Nat.le_refl _) (fun k hk o ho => cnt_same hx k) | exact LnB.A) ?_) | (refine CutL.gone (Nat.lt_of_lt_of_le (Nat.lt_succ_self _) (Nat.le_of_ble_eq_true rfl)) ?_)))), allA⟩⟩)
      cases hb : g.testBit i
      · rw [hb] at c1
        (repeat' ((try (conv => whnf)); first | (with_reducible first | refine FCond.tA ?_ | refine FCond.fA ?_) | ((with_reducible refine FCond.i (fun hq => ?_) (fun hq => ?_)) <;> (try simp only [zA, zE, zD, zJ, zB, zI, Int.not_le, Int.not_lt] at hq)) | (with_reducible first | refine Fits.in64 (by omega) ?_ | refine FIdx.nat (by omega) ?_ | refine FIdx.int (by omega) ?_ | refine FTo.nat (by omega) ?_ | refine FTo.int (by omega) ?_) | ((with_reducible refine Need.mk ?_ ?_); focus exact needA) | (with_reducible refine FApp.grow ?_) | (refine FCall.pure (c1) ⟨Ln.sameB _ rfl, Ln.sameB _ rfl, True.intro⟩ rfl ?_)))
        all_goals (try (conv => whnf))
        (refine ⟨⟨_, [], [], Cut.nil _, Ln.sameB _ rfl, ?_, rfl⟩⟩)
        rw [rall_no hlt (by unfold gvB; rw [decide_eq_false hx, hb]; rfl)]; rfl
      rw [hb] at c1
      have c2 := within_ok (l.getD i 0) 0 ((p.nT : Int) - 1)
      cases hin : inB (l.getD i 0) 0 ((p.nT : Int) - 1)
      · rw [hin] at c2
        (repeat' ((try (conv => whnf)); first | (with_reducible first | refine FCond.tA ?_ | refine FCond.fA ?_) | ((with_reducible refine FCond.i (fun hq => ?_) (fun hq => ?_)) <;> (try simp only [zA, zE, zD, zJ, zB, zI, Int.not_le, Int.not_lt] at hq)) | (with_reducible first | refine Fits.in64 (by omega) ?_ | refine FIdx.nat (by omega) ?_ | refine FIdx.int (by omega) ?_ | refine FTo.nat (by omega) ?_ | refine FTo.int (by omega) ?_) | ((with_reducible refine Need.mk ?_ ?_); focus exact needA) | (with_reducible refine FApp.grow ?_) | (refine FCall.pure (c1) ⟨Ln.sameB _ rfl, Ln.sameB _ rfl, True.intro⟩ rfl ?_) | (refine FCall.pure (cT) ⟨Ln.sameB _ rfl, True.intro⟩ rfl ?_) | (refine FCall.pure (c2) ⟨Ln.sameB _ rfl, Ln.sameB _ rfl, Ln.sameB _ rfl, True.intro⟩ rfl ?_)))
        all_goals (try (conv => whnf))
        (refine ⟨⟨_, [], [], Cut.nil _, Ln.sameB _ rfl, ?_, rfl⟩⟩)
        rw [rall_no hlt (by unfold gvB; rw [decide_eq_false hx, hb, hin]; rfl)]; rfl
      rw [hin] at c2
      have hin2 := of_decide_eq_true hin
      obtain ⟨x, hxn⟩ : ∃ x : Nat, l.getD i 0 = x := ⟨(l.getD i 0).toNat, by omega⟩
      have c3 := has_i (p.folk.getD i fo0).tongues x (by omega) (by omega)
      cases ht : (p.folk.getD i fo0).tongues.toNat.testBit x
      · rw [ht, ← hxn] at c3
        (repeat' ((try (conv => whnf)); first | (with_reducible first | refine FCond.tA ?_ | refine FCond.fA ?_) | ((with_reducible refine FCond.i (fun hq => ?_) (fun hq => ?_)) <;> (try simp only [zA, zE, zD, zJ, zB, zI, Int.not_le, Int.not_lt] at hq)) | (with_reducible first | refine Fits.in64 (by omega) ?_ | refine FIdx.nat (by omega) ?_ | refine FIdx.int (by omega) ?_ | refine FTo.nat (by omega) ?_ | refine FTo.int (by omega) ?_) | ((with_reducible refine Need.mk ?_ ?_); focus exact needA) | (with_reducible refine FApp.grow ?_) | (refine FCall.pure (c1) ⟨Ln.sameB _ rfl, Ln.sameB _ rfl, True.intro⟩ rfl ?_) | (refine FCall.pure (cT) ⟨Ln.sameB _ rfl, True.intro⟩ rfl ?_) | (refine FCall.pure (c2) ⟨Ln.sameB _ rfl, Ln.sameB _ rfl, Ln.sameB _ rfl, True.intro⟩ rfl ?_) | (refine FCall.pure (c3) ⟨Ln.sameB _ rfl, Ln.sameB _ rfl, True.intro⟩ rfl ?_)))
        all_goals (try (conv => whnf))
        (refine ⟨⟨_, [], [], Cut.nil _, Ln.sameB _ rfl, ?_, rfl⟩⟩)
        rw [rall_no hlt (by unfold gvB Pool.tg; rw [decide_eq_false hx, hb, hin, hxn, Int.toNat_natCast, ht]; rfl)]; rfl
      · rw [ht, ← hxn] at c3
        have hcl : 0 ≤ cntR l i (l.getD i 0).toNat ∧ cntR l i (l.getD i 0).toNat ≤ i := by
          have := cnt_le l (l.getD i 0).toNat i
          unfold cntR; omega
        (repeat' ((try (conv => whnf)); first | (with_reducible first | refine FCond.tA ?_ | refine FCond.fA ?_) | ((with_reducible refine FCond.i (fun hq => ?_) (fun hq => ?_)) <;> (try simp only [zA, zE, zD, zJ, zB, zI, Int.not_le, Int.not_lt] at hq)) | (with_reducible first | refine Fits.in64 (by omega) ?_ | refine FIdx.nat (by omega) ?_ | refine FIdx.int (by omega) ?_ | refine FTo.nat (by omega) ?_ | refine FTo.int (by omega) ?_) | ((with_reducible refine Need.mk ?_ ?_); focus exact needA) | (with_reducible refine FApp.grow ?_) | (refine FCall.pure (c1) ⟨Ln.sameB _ rfl, Ln.sameB _ rfl, True.intro⟩ rfl ?_) | (refine FCall.pure (cT) ⟨Ln.sameB _ rfl, True.intro⟩ rfl ?_) | (refine FCall.pure (c2) ⟨Ln.sameB _ rfl, Ln.sameB _ rfl, Ln.sameB _ rfl, True.intro⟩ rfl ?_) | (refine FCall.pure (c3) ⟨Ln.sameB _ rfl, Ln.sameB _ rfl, True.intro⟩ rfl ?_)))
        all_goals (try (conv => whnf))
        (exact ⟨⟨(i + 1), ⟨hlt, below_step hL (by unfold gvB Pool.tg; rw [hb, hin, hxn, Int.toNat_natCast, ht, Bool.and_self, Bool.and_self, Bool.or_true])⟩, by show _ < _; omega, [0, 1], (by (refine Cut.of (Nat.le_of_ble_eq_true rfl) rfl rfl ?_; repeat (first | exact CutL.done | (refine CutL.turned rfl (by first | exact LnB.rowS | exact LnB.rowE (Nat.le_refl _) (fun k hk o ho => cnt_row (x := (l.getD i 0).toNat) (by omega) k o) | exact LnB.A) ?_) | (refine CutL.gone (Nat.lt_of_lt_of_le (Nat.lt_succ_self _) (Nat.le_of_ble_eq_true rfl)) ?_)))), allA⟩⟩)
    · obtain rfl : i = l.length := by omega
      rw [rall_yes hL, Bool.true_and]
      (repeat' ((try (conv => whnf)); first | (with_reducible first | refine FCond.tA ?_ | refine FCond.fA ?_) | ((with_reducible refine FCond.i (fun hq => ?_) (fun hq => ?_)) <;> (try simp only [zA, zE, zD, zJ, zB, zI, Int.not_le, Int.not_lt] at hq)) | (with_reducible first | refine Fits.in64 (by omega) ?_ | refine FIdx.nat (by omega) ?_ | refine FIdx.int (by omega) ?_ | refine FTo.nat (by omega) ?_ | refine FTo.int (by omega) ?_) | ((with_reducible refine Need.mk ?_ ?_); focus exact needA) | (with_reducible refine FApp.grow ?_)))
      all_goals (try (conv => whnf))
      refine FLoop.of (ACalls.mono _) (X := Nat) (fun t => [(1, AI s), (4, .ptr 0 0), (9, .own 1 p.nT), (11, AI t)]) (fun _ => [.box 4 (cPool f p), rowZ p.nT (cntR l l.length)]) (fun t => t ≤ p.nT ∧ ∀ j, j < t → decide ((p.row s).getD j 0 ≤ (cntTo l j l.length : Nat)) = true) (fun t => p.nT - t) 0 ⟨⟨Nat.zero_le _, fun j hj => absurd hj (Nat.not_lt_zero j)⟩, [0, 1], Cut.A, allA⟩ ?_
      rintro t ⟨ht, hR⟩
      by_cases hlt2 : t < p.nT
      · (repeat' ((try (conv => whnf)); first | (with_reducible first | refine FCond.tA ?_ | refine FCond.fA ?_) | ((with_reducible refine FCond.i (fun hq => ?_) (fun hq => ?_)) <;> (try simp only [zA, zE, zD, zJ, zB, zI, Int.not_le, Int.not_lt] at hq)) | (with_reducible first | refine Fits.in64 (by omega) ?_ | refine FIdx.nat (by omega) ?_ | refine FIdx.int (by omega) ?_ | refine FTo.nat (by omega) ?_ | refine FTo.int (by omega) ?_) | ((with_reducible refine Need.mk ?_ ?_); focus exact needA) | (with_reducible refine FApp.grow ?_)))
        all_goals (try (conv => whnf))
        · (refine ⟨⟨_, [], [], Cut.nil _, Ln.sameB _ rfl, ?_, rfl⟩⟩)
          rw [rall_no hlt2 (decide_eq_false (fun h2 => by unfold Pool.row at h2; unfold cntR at hq; omega))]
        · (exact ⟨⟨(t + 1), ⟨hlt2, below_step hR (decide_eq_true (by unfold Pool.row; unfold cntR at hq; omega))⟩, by show _ < _; omega, [0, 1], Cut.A, allA⟩⟩)
      · obtain rfl : t = p.nT := by omega
        (repeat' ((try (conv => whnf)); first | (with_reducible first | refine FCond.tA ?_ | refine FCond.fA ?_) | ((with_reducible refine FCond.i (fun hq => ?_) (fun hq => ?_)) <;> (try simp only [zA, zE, zD, zJ, zB, zI, Int.not_le, Int.not_lt] at hq)) | (with_reducible first | refine Fits.in64 (by omega) ?_ | refine FIdx.nat (by omega) ?_ | refine FIdx.int (by omega) ?_ | refine FTo.nat (by omega) ?_ | refine FTo.int (by omega) ?_) | ((with_reducible refine Need.mk ?_ ?_); focus exact needA) | (with_reducible refine FApp.grow ?_)))
        all_goals (try (conv => whnf))
        (refine ⟨⟨_, [], [], Cut.nil _, Ln.sameB _ rfl, ?_, rfl⟩⟩)
        rw [rall_yes hR]
  · have hG : givenT p s g l = false := by unfold givenT; rw [decide_eq_false hl]; rfl
    rw [hG]
    (repeat' ((try (conv => whnf)); first | (with_reducible first | refine FCond.tA ?_ | refine FCond.fA ?_) | ((with_reducible refine FCond.i (fun hq => ?_) (fun hq => ?_)) <;> (try simp only [zA, zE, zD, zJ, zB, zI, Int.not_le, Int.not_lt] at hq)) | (with_reducible first | refine Fits.in64 (by omega) ?_ | refine FIdx.nat (by omega) ?_ | refine FIdx.int (by omega) ?_ | refine FTo.nat (by omega) ?_ | refine FTo.int (by omega) ?_) | ((with_reducible refine Need.mk ?_ ?_); focus exact needA) | (with_reducible refine FApp.grow ?_)))
    all_goals (try (conv => whnf))
    (refine ⟨⟨_, [], [], Cut.nil _, Ln.sameB _ rfl, ?_, rfl⟩⟩)
    rfl
end Go.Proofs.Ytbhjehpjjbbhbaa

namespace Go.Proofs.Ytbhjehpjjbbhbaa
open Go.RowKit

abbrev cGiven (s : Int) (z : Bool) (l : List Int) : Nat → AV := ofL [AI s, aInts z false l]
def withIll (p : Pool) (i : Int) : Pool := ⟨p.folk, p.needs, i, p.most⟩
theorem withIll_ok {p : Pool} (h : PoolOk p) {i : Int} (hi : 0 ≤ i ∧ i ≤ 3) : PoolOk (withIll p i) := ⟨h.n1, h.n8, h.s1, h.s6, h.t1, h.t5, hi, h.most, h.row, h.folk⟩
theorem need_ill {p : Pool} {s T : Nat} {i : Int} : ∀ k, needTo (withIll p i) s T k = needTo p s T k
  | 0 => rfl
  | k + 1 => by rw [needTo, needTo, need_ill k]; rfl
theorem who_ill {p : Pool} {g T : Nat} {i : Int} : ∀ k, whoTo (withIll p i) g T k = whoTo p g T k
  | 0 => rfl
  | k + 1 => by rw [whoTo, whoTo, who_ill k]; rfl
theorem miss_ill {p : Pool} {i : Int} : missT (withIll p i) = missT p := by
  funext s g T
  unfold missT needT whoT
  rw [need_ill, who_ill]; rfl
theorem withIll_cov {p : Pool} {s g : Nat} {i : Int} : coveredT (withIll p i) s g = standsT p s g i := by
  show standsT (withIll p i) s g i = _
  have : servesT (withIll p i) = servesT p := by
    funext s g
    unfold servesT
    rw [miss_ill]; rfl
  unfold standsT
  rw [this]
theorem stands_le {p : Pool} (h : PoolOk p) {s g : Nat} (hs : s < p.needs.length) (hg : g < 2 ^ p.folk.length) {k : Nat} (hk : k ≤ pop g) : standsT p s g k = decide ((k : Int) ≤ spareT p s g) := by
  have := stands_spare h hs hg (k := (k : Int)) (by omega)
  have hb := spare_b (p := p) s g
  rw [Bool.eq_iff_iff, decide_eq_true_eq]
  exact this.trans (by omega)
def lastT (p : Pool) : Nat → Int
  | 0 => p.ill
  | k + 1 => k
set_option maxHeartbeats 8000000
set_option maxRecDepth 100000
theorem cserved_any (f : PoF) (p : Pool) (z : Bool) (w : List Int) (sl : Int) (gz : Bool) (gl : List Int) (hw : ∀ s, s < w.length → in64 (w.getD s 0)) (hlw : w.length ≤ 9223372036854775807) (hlg : gl.length ≤ 9223372036854775807) : ACall Try.prog 4 [aPool f p, aInts z false w, .agg 2 (cGiven sl gz gl)] [] (fun v h => v = .bool true ∧ h = []) := by
  have hcv := valid_ok f p
  (refine fcall_of mixed Try.func4 rfl (by decide) (hs := { ord := [(12, [(0, []), (1, []), (2, []), (3, []), (4, []), (5, []), (6, []), (7, []), (9, []), (10, []), (11, []), (8, []), (12, [])])] }) ?k (ac := ?ac) ?c (rs := ?rs) ?r ?l ?H; (case k => kernel_rfl); (case c => (conv => (lhs; cbv))); (case r => (conv => (lhs; cbv))); (case l => exact Nat.le_of_ble_eq_true rfl))
  cases hv : validT p
  · rw [hv] at hcv
    (repeat' ((try (conv => whnf)); first | (with_reducible first | refine FCond.tA ?_ | refine FCond.fA ?_) | ((with_reducible refine FCond.i (fun hq => ?_) (fun hq => ?_)) <;> (try simp only [zA, zE, zD, zJ, zB, zI, Int.not_le, Int.not_lt] at hq)) | (with_reducible first | refine Fits.in64 (by omega) ?_ | refine FIdx.nat (by omega) ?_ | refine FIdx.int (by omega) ?_ | refine FTo.nat (by omega) ?_ | refine FTo.int (by omega) ?_) | ((with_reducible refine Need.mk ?_ ?_); focus exact needA) | (with_reducible refine FApp.grow ?_) | (refine FCall.pure (hcv) ⟨Ln.sameB _ rfl, True.intro⟩ rfl ?_) | (refine FCall.pure works_ok True.intro rfl ?_)))
    all_goals (try (conv => whnf))
    all_goals ((refine ⟨⟨_, [], [], Cut.nil _, Ln.sameB _ rfl, ?_, rfl⟩⟩); rfl)
  rw [hv] at hcv
  obtain ⟨hn, hk, h, hs⟩ := valid_d hv
  by_cases hl : w.length ≤ 20
  rotate_left
  · (repeat' ((try (conv => whnf)); first | (with_reducible first | refine FCond.tA ?_ | refine FCond.fA ?_) | ((with_reducible refine FCond.i (fun hq => ?_) (fun hq => ?_)) <;> (try simp only [zA, zE, zD, zJ, zB, zI, Int.not_le, Int.not_lt] at hq)) | (with_reducible first | refine Fits.in64 (by omega) ?_ | refine FIdx.nat (by omega) ?_ | refine FIdx.int (by omega) ?_ | refine FTo.nat (by omega) ?_ | refine FTo.int (by omega) ?_) | ((with_reducible refine Need.mk ?_ ?_); focus exact needA) | (with_reducible refine FApp.grow ?_) | (refine FCall.pure (hcv) ⟨Ln.sameB _ rfl, True.intro⟩ rfl ?_) | (refine FCall.pure works_ok True.intro rfl ?_)))
    all_goals (try (conv => whnf))
    all_goals ((refine ⟨⟨_, [], [], Cut.nil _, Ln.sameB _ rfl, ?_, rfl⟩⟩); rfl)
  by_cases hg : gl.length ≤ 20
  rotate_left
  · (repeat' ((try (conv => whnf)); first | (with_reducible first | refine FCond.tA ?_ | refine FCond.fA ?_) | ((with_reducible refine FCond.i (fun hq => ?_) (fun hq => ?_)) <;> (try simp only [zA, zE, zD, zJ, zB, zI, Int.not_le, Int.not_lt] at hq)) | (with_reducible first | refine Fits.in64 (by omega) ?_ | refine FIdx.nat (by omega) ?_ | refine FIdx.int (by omega) ?_ | refine FTo.nat (by omega) ?_ | refine FTo.int (by omega) ?_) | ((with_reducible refine Need.mk ?_ ?_); focus exact needA) | (with_reducible refine FApp.grow ?_) | (refine FCall.pure (hcv) ⟨Ln.sameB _ rfl, True.intro⟩ rfl ?_) | (refine FCall.pure works_ok True.intro rfl ?_)))
    all_goals (try (conv => whnf))
    all_goals ((refine ⟨⟨_, [], [], Cut.nil _, Ln.sameB _ rfl, ?_, rfl⟩⟩); rfl)
  have ciw := isWatch_ok f p z false w (by omega) h
  cases hq : isWatch p w
  · rw [hq] at ciw
    (repeat' ((try (conv => whnf)); first | (with_reducible first | refine FCond.tA ?_ | refine FCond.fA ?_) | ((with_reducible refine FCond.i (fun hq => ?_) (fun hq => ?_)) <;> (try simp only [zA, zE, zD, zJ, zB, zI, Int.not_le, Int.not_lt] at hq)) | (with_reducible first | refine Fits.in64 (by omega) ?_ | refine FIdx.nat (by omega) ?_ | refine FIdx.int (by omega) ?_ | refine FTo.nat (by omega) ?_ | refine FTo.int (by omega) ?_) | ((with_reducible refine Need.mk ?_ ?_); focus exact needA) | (with_reducible refine FApp.grow ?_) | (refine FCall.pure (hcv) ⟨Ln.sameB _ rfl, True.intro⟩ rfl ?_) | (refine FCall.pure (ciw) ⟨Ln.sameB _ rfl, Ln.sameB _ rfl, True.intro⟩ rfl ?_) | (refine FCall.pure works_ok True.intro rfl ?_)))
    all_goals (try (conv => whnf))
    all_goals ((refine ⟨⟨_, [], [], Cut.nil _, Ln.sameB _ rfl, ?_, rfl⟩⟩); rfl)
  rw [hq] at ciw
  have k := watch_d hq
  have hcw := checkW_0 hk hq
  have hlen := k.len
  have s6 := h.s6
  have hp8 := pow8 h.n8
  have cI := isSlot_ok f p sl (by omega)
  by_cases hsl : 0 ≤ sl ∧ sl ≤ p.needs.length - 1
  rotate_left
  · rw [show inB sl 0 (p.needs.length - 1) = false from decide_eq_false hsl] at cI
    (repeat' ((try (conv => whnf)); first | (with_reducible first | refine FCond.tA ?_ | refine FCond.fA ?_) | ((with_reducible refine FCond.i (fun hq => ?_) (fun hq => ?_)) <;> (try simp only [zA, zE, zD, zJ, zB, zI, Int.not_le, Int.not_lt] at hq)) | (with_reducible first | refine Fits.in64 (by omega) ?_ | refine FIdx.nat (by omega) ?_ | refine FIdx.int (by omega) ?_ | refine FTo.nat (by omega) ?_ | refine FTo.int (by omega) ?_) | ((with_reducible refine Need.mk ?_ ?_); focus exact needA) | (with_reducible refine FApp.grow ?_) | (refine FCall.pure (hcv) ⟨Ln.sameB _ rfl, True.intro⟩ rfl ?_) | (refine FCall.pure (ciw) ⟨Ln.sameB _ rfl, Ln.sameB _ rfl, True.intro⟩ rfl ?_) | (refine FCall.pure (cI) ⟨Ln.sameB _ rfl, Ln.sameB _ rfl, True.intro⟩ rfl ?_) | (refine FCall.pure works_ok True.intro rfl ?_)))
    all_goals (try (conv => whnf))
    all_goals ((refine ⟨⟨_, [], [], Cut.nil _, Ln.sameB _ rfl, ?_, rfl⟩⟩); rfl)
  rw [show inB sl 0 (p.needs.length - 1) = true from decide_eq_true hsl] at cI
  obtain ⟨s, rfl⟩ : ∃ s : Nat, sl = s := ⟨sl.toNat, by omega⟩
  obtain ⟨e1, e2, _⟩ := k.el s (by omega)
  obtain ⟨m, hm⟩ : ∃ m : Nat, w.getD s 0 = m := ⟨(w.getD s 0).toNat, by omega⟩
  have cR := pready_ok f p z false w s hn hw
  rw [show readyE p w s = (spareT p s m, 0) by unfold readyE; rw [if_pos hcw, if_pos (decide_eq_true (by omega)), Int.toNat_natCast, hm, Int.toNat_natCast]] at cR
  rw [hm, Int.toNat_natCast] at e2
  have cZ := size_ok m (by omega)
  have cG := given_ok f p s m gz false gl (by omega) h
  rw [← hm] at cZ cG
  have cC := copy_ok f p hn
  have hsb := spare_b (p := p) s m
  have hgv := given_spare h (s := s) (g := m) (l := gl) (by omega) e2
  (repeat' ((try (conv => whnf)); first | (with_reducible first | refine FCond.tA ?_ | refine FCond.fA ?_) | ((with_reducible refine FCond.i (fun hq => ?_) (fun hq => ?_)) <;> (try simp only [zA, zE, zD, zJ, zB, zI, Int.not_le, Int.not_lt] at hq)) | (with_reducible first | refine Fits.in64 (by omega) ?_ | refine FIdx.nat (by omega) ?_ | refine FIdx.int (by omega) ?_ | refine FTo.nat (by omega) ?_ | refine FTo.int (by omega) ?_) | ((with_reducible refine Need.mk ?_ ?_); focus exact needA) | (with_reducible refine FApp.grow ?_) | (refine FCall.pure (hcv) ⟨Ln.sameB _ rfl, True.intro⟩ rfl ?_) | (refine FCall.pure (ciw) ⟨Ln.sameB _ rfl, Ln.sameB _ rfl, True.intro⟩ rfl ?_) | (refine FCall.pure (cI) ⟨Ln.sameB _ rfl, Ln.sameB _ rfl, True.intro⟩ rfl ?_) | (refine FCall.pure (cR) ⟨Ln.sameB _ rfl, Ln.sameB _ rfl, Ln.sameB _ rfl, True.intro⟩ rfl ?_) | (refine FCall.pure (cZ) ⟨Ln.sameB _ rfl, True.intro⟩ rfl ?_) | (refine FCall.pure (cG) ⟨Ln.sameB _ rfl, Ln.sameB _ rfl, Ln.sameB _ rfl, Ln.sameB _ rfl, True.intro⟩ rfl ?_) | (refine FCall.pure (cC) ⟨Ln.sameB _ rfl, True.intro⟩ rfl ?_)))
  all_goals (try (conv => whnf))
  · exact absurd (hgv hq) (by omega)
  all_goals
    refine FLoop.of (ACalls.mono _) (X := Nat) (fun i => [(1, aInts z false w), (5, .ptr 0 0), (7, AI (spareT p s m)), (9, AI (pop m)), (10, .ptr 1 0), (11, AI i)]) (fun i => [.box 2 (cGiven s gz gl), .box 4 (cPool (flC p) (withIll p (lastT p i)))]) (fun i => i ≤ 4) (fun i => 4 - i) 0 ⟨Nat.zero_le _, [1, 2], Cut.A, allA⟩ ?_
    intro i hi
    by_cases hlt : i ≤ 3 ∧ i ≤ pop m
    · have cV := covered_ok (flC p) (withIll p i) s m (by show s < p.needs.length; omega) (by omega) (withIll_ok h (by omega))
      rw [withIll_cov, stands_le h (by omega) e2 hlt.2, ← hm] at cV
      by_cases hle : (i : Int) ≤ spareT p s m
      all_goals
        first | rw [decide_eq_true hle] at cV | rw [decide_eq_false hle] at cV
        (repeat' ((try (conv => whnf)); first | (with_reducible first | refine FCond.tA ?_ | refine FCond.fA ?_) | ((with_reducible refine FCond.i (fun hq => ?_) (fun hq => ?_)) <;> (try simp only [zA, zE, zD, zJ, zB, zI, Int.not_le, Int.not_lt] at hq)) | (with_reducible first | refine Fits.in64 (by omega) ?_ | refine FIdx.nat (by omega) ?_ | refine FIdx.int (by omega) ?_ | refine FTo.nat (by omega) ?_ | refine FTo.int (by omega) ?_) | ((with_reducible refine Need.mk ?_ ?_); focus exact needA) | (with_reducible refine FApp.grow ?_) | (refine FCall.pure (cV) ⟨Ln.sameB _ rfl, Ln.sameB _ rfl, Ln.sameB _ rfl, True.intro⟩ rfl ?_)))
        all_goals (try (conv => whnf))
        all_goals first
          | (exact ⟨⟨(i + 1), by show i + 1 ≤ 4; omega, by show _ < _; omega, [0, 1], Cut.A, allA⟩⟩)
          | (exfalso; revert hq; simp [hle]; done)
          | (exfalso; omega)
    · (repeat' ((try (conv => whnf)); first | (with_reducible first | refine FCond.tA ?_ | refine FCond.fA ?_) | ((with_reducible refine FCond.i (fun hq => ?_) (fun hq => ?_)) <;> (try simp only [zA, zE, zD, zJ, zB, zI, Int.not_le, Int.not_lt] at hq)) | (with_reducible first | refine Fits.in64 (by omega) ?_ | refine FIdx.nat (by omega) ?_ | refine FIdx.int (by omega) ?_ | refine FTo.nat (by omega) ?_ | refine FTo.int (by omega) ?_) | ((with_reducible refine Need.mk ?_ ?_); focus exact needA) | (with_reducible refine FApp.grow ?_) | (refine FCall.pure works_ok True.intro rfl ?_)))
      all_goals (try (conv => whnf))
      all_goals first
        | ((refine ⟨⟨_, [], [], Cut.nil _, Ln.sameB _ rfl, ?_, rfl⟩⟩); rfl)
        | (exfalso; omega)
end Go.Proofs.Ytbhjehpjjbbhbaa
