/- Relay: the reference's rows of least costs. / Relay: the reference's least. / Relay: the reference's Best, Plan and Most. / Relay: Plan, Most, Mute, Vital and Free of the reference. / Relay: the statement RelayFree. -/
import Derived.Test.YtnghcfmloljagaaBa12
set_option linter.unusedSimpArgs false
set_option linter.unusedVariables false
namespace Go.Proofs.Ytnghcfmloljagaa
open Go.RowKit

def toI (l : List Nat) : List Int := l.map fun (x : Nat) => (x : Int)
theorem toI_len (l : List Nat) : (toI l).length = l.length := List.length_map _
theorem toI_get (l : List Nat) (k : Nat) : (toI l).getD k 0 = ((l.getD k 0 : Nat) : Int) := by
  unfold toI
  simp only [List.getD, List.getElem?_map]
  cases l[k]? <;> rfl
theorem toI_snoc (l : List Nat) (m : Nat) : toI (l ++ [m]) = toI l ++ [(m : Int)] := by unfold toI; simp
def hI1 (a : AB) : List Int → List AB
  | [] => [a]
  | x :: xs => [a, .row (xs.length + 1) 1 (fun k _ => AI ((x :: xs).getD k 0))]
/-- The sets at one time, as the program's value. -/
abbrev aTog (s : Std) (t : Nat) : AV := .sl false false (togL s t).length 1 (fun k _ => AI ((togL s t).getD k 0 : Nat))
abbrev aRow (n : Nat) (g : Nat → Int) : AV := .sl false false n 1 (fun k _ => AI (g k))
abbrev rowI (n : Nat) (g : Nat → Int) : AB := .row n 1 (fun k _ => AI (g k))
theorem tog_ne (s : Std) (t : Nat) : togK s t (2 ^ s.C) ≠ [] := by
  intro h
  have : 0 ∈ togL s t := togL_mem.2 ⟨Nat.two_pow_pos _, _, isM_empty s _⟩
  unfold togL at this
  rw [h] at this
  cases this
set_option maxHeartbeats 8000000
set_option maxRecDepth 100000
theorem together_ok (f : StF) (s : Std) (hs : StdOk s) (t : Nat) (ht : t ≤ 1000) : ACall Try.prog 69 [aStd f s, AI t] [] (fun r h => r = aTog s t ∧ h = []) := by
  have c12 : s.rg.length ≤ 12 := hs.c12
  have n4 : s.sg.length ≤ 4 := hs.n4
  have hp := Nat.pow_le_pow_right (show 0 < 2 by decide) c12
  have hpos : 0 < 2 ^ s.rg.length := Nat.two_pow_pos _
  (refine fcall_of mixed Try.func69 rfl (by decide) (hs := {}) ?k (ac := ?ac) ?c (rs := ?rs) ?r ?l ?H; (case k => kernel_rfl); (case c => (conv => (lhs; cbv))); (case r => (conv => (lhs; cbv))); (case l => exact Nat.le_of_ble_eq_true rfl))
  (repeat' ((try (conv => whnf)); first | (with_reducible first | refine FCond.tA ?_ | refine FCond.fA ?_) | ((with_reducible refine FCond.i (fun hq => ?_) (fun hq => ?_)) <;> (try simp only [zA, zE, zD, zJ, zB, zI, Int.not_le, Int.not_lt] at hq)) | (with_reducible first | refine Fits.in64 (by omega) ?_ | refine FIdx.nat (by omega) ?_ | refine FIdx.int (by omega) ?_ | refine FTo.nat (by omega) ?_ | refine FTo.int (by omega) ?_) | ((with_reducible refine Need.mk ?_ ?_); focus exact needA) | (with_reducible first | refine FBit.hasT rfl (by assumption) ?_ | refine FBit.hasF rfl (by assumption) ?_ | refine FBit.shrN rfl (by omega) ?_ | refine FBit.half rfl ?_ | refine FBit.shl1 rfl (by omega) ?_ | refine Fits.inU (by omega) ?_ | refine FBit.shrNI rfl (by omega) ?_ | refine FBit.shrIN rfl (by omega) (by omega) ?_ | refine FBit.shrI rfl (by omega) (by omega) ?_ | refine FBit.shl1I rfl (by omega) ?_) | (with_reducible refine FBit.has rfl (fun hq => ?_) (fun hq => ?_)) | (with_reducible first | refine FBit.and1 rfl ?_ | refine FBit.andN rfl (by omega) (by omega) ?_ | refine FBit.orN rfl (by omega) (by omega) ?_ | refine FBit.andNotN rfl (by omega) (by omega) ?_) | (with_reducible refine FApp.grow ?_) | (with_reducible refine FOr.pub ?_)))
  all_goals (try (conv => whnf))
  refine FLoop.of (ACalls.mono _) (X := Nat × List Int) (fun x => [(1, AI t), (2, .ptr 0 0), (5, oI 1 x.2), (6, AI x.1)]) (fun x => hI1 (.box 3 (cStd f s)) x.2) (fun x => x.1 ≤ 2 ^ s.rg.length ∧ x.2 = toI (togK s t x.1)) (fun x => 2 ^ s.rg.length - x.1) (0, []) ⟨⟨Nat.zero_le _, rfl⟩, [0], Cut.A, allA⟩ ?_
  rintro ⟨m, l⟩ ⟨hm, hl⟩
  simp only at hm hl
  by_cases hlt : m < 2 ^ s.rg.length
  · have cS := seats_ok f s hs t ht s.n 0 (Nat.zero_add _) m hlt
    have hst := congrArg toI (togK_succ s t m)
    have hll := togK_len s t m
    rw [← toI_len, ← hl] at hll
    cases hb : seatK s t s.n m
    · rw [hb] at cS hst
      rw [if_neg (by decide), ← hl] at hst
      rcases l with _ | ⟨x, xs⟩
      · (repeat' ((try (conv => whnf)); first | (with_reducible first | refine FCond.tA ?_ | refine FCond.fA ?_) | ((with_reducible refine FCond.i (fun hq => ?_) (fun hq => ?_)) <;> (try simp only [zA, zE, zD, zJ, zB, zI, Int.not_le, Int.not_lt] at hq)) | (with_reducible first | refine Fits.in64 (by omega) ?_ | refine FIdx.nat (by omega) ?_ | refine FIdx.int (by omega) ?_ | refine FTo.nat (by omega) ?_ | refine FTo.int (by omega) ?_) | ((with_reducible refine Need.mk ?_ ?_); focus exact needA) | (with_reducible first | refine FBit.hasT rfl (by assumption) ?_ | refine FBit.hasF rfl (by assumption) ?_ | refine FBit.shrN rfl (by omega) ?_ | refine FBit.half rfl ?_ | refine FBit.shl1 rfl (by omega) ?_ | refine Fits.inU (by omega) ?_ | refine FBit.shrNI rfl (by omega) ?_ | refine FBit.shrIN rfl (by omega) (by omega) ?_ | refine FBit.shrI rfl (by omega) (by omega) ?_ | refine FBit.shl1I rfl (by omega) ?_) | (with_reducible refine FBit.has rfl (fun hq => ?_) (fun hq => ?_)) | (with_reducible first | refine FBit.and1 rfl ?_ | refine FBit.andN rfl (by omega) (by omega) ?_ | refine FBit.orN rfl (by omega) (by omega) ?_ | refine FBit.andNotN rfl (by omega) (by omega) ?_) | (with_reducible refine FApp.grow ?_) | (refine FCall.pure (cS) ⟨Ln.sameB _ rfl, Ln.sameB _ rfl, Ln.sameB _ rfl, Ln.sameB _ rfl, True.intro⟩ rfl ?_) | (with_reducible refine FOr.pub ?_)))
        all_goals (try (conv => whnf))
        exact ⟨⟨(m + 1, []), ⟨hlt, hst.symm⟩, by show _ < _; simp only; omega, [0], Cut.A, allA⟩⟩
      · (repeat' ((try (conv => whnf)); first | (with_reducible first | refine FCond.tA ?_ | refine FCond.fA ?_) | ((with_reducible refine FCond.i (fun hq => ?_) (fun hq => ?_)) <;> (try simp only [zA, zE, zD, zJ, zB, zI, Int.not_le, Int.not_lt] at hq)) | (with_reducible first | refine Fits.in64 (by omega) ?_ | refine FIdx.nat (by omega) ?_ | refine FIdx.int (by omega) ?_ | refine FTo.nat (by omega) ?_ | refine FTo.int (by omega) ?_) | ((with_reducible refine Need.mk ?_ ?_); focus exact needA) | (with_reducible first | refine FBit.hasT rfl (by assumption) ?_ | refine FBit.hasF rfl (by assumption) ?_ | refine FBit.shrN rfl (by omega) ?_ | refine FBit.half rfl ?_ | refine FBit.shl1 rfl (by omega) ?_ | refine Fits.inU (by omega) ?_ | refine FBit.shrNI rfl (by omega) ?_ | refine FBit.shrIN rfl (by omega) (by omega) ?_ | refine FBit.shrI rfl (by omega) (by omega) ?_ | refine FBit.shl1I rfl (by omega) ?_) | (with_reducible refine FBit.has rfl (fun hq => ?_) (fun hq => ?_)) | (with_reducible first | refine FBit.and1 rfl ?_ | refine FBit.andN rfl (by omega) (by omega) ?_ | refine FBit.orN rfl (by omega) (by omega) ?_ | refine FBit.andNotN rfl (by omega) (by omega) ?_) | (with_reducible refine FApp.grow ?_) | (refine FCall.pure (cS) ⟨Ln.sameB _ rfl, Ln.sameB _ rfl, Ln.sameB _ rfl, Ln.sameB _ rfl, True.intro⟩ rfl ?_) | (with_reducible refine FOr.pub ?_)))
        all_goals (try (conv => whnf))
        exact ⟨⟨(m + 1, x :: xs), ⟨hlt, hst.symm⟩, by show _ < _; simp only; omega, [0, 1], Cut.A, allA⟩⟩
    · rw [hb] at cS hst
      rw [if_pos rfl, toI_snoc, ← hl] at hst
      rcases l with _ | ⟨x, xs⟩
      · (repeat' ((try (conv => whnf)); first | (with_reducible first | refine FCond.tA ?_ | refine FCond.fA ?_) | ((with_reducible refine FCond.i (fun hq => ?_) (fun hq => ?_)) <;> (try simp only [zA, zE, zD, zJ, zB, zI, Int.not_le, Int.not_lt] at hq)) | (with_reducible first | refine Fits.in64 (by omega) ?_ | refine FIdx.nat (by omega) ?_ | refine FIdx.int (by omega) ?_ | refine FTo.nat (by omega) ?_ | refine FTo.int (by omega) ?_) | ((with_reducible refine Need.mk ?_ ?_); focus exact needA) | (with_reducible first | refine FBit.hasT rfl (by assumption) ?_ | refine FBit.hasF rfl (by assumption) ?_ | refine FBit.shrN rfl (by omega) ?_ | refine FBit.half rfl ?_ | refine FBit.shl1 rfl (by omega) ?_ | refine Fits.inU (by omega) ?_ | refine FBit.shrNI rfl (by omega) ?_ | refine FBit.shrIN rfl (by omega) (by omega) ?_ | refine FBit.shrI rfl (by omega) (by omega) ?_ | refine FBit.shl1I rfl (by omega) ?_) | (with_reducible refine FBit.has rfl (fun hq => ?_) (fun hq => ?_)) | (with_reducible first | refine FBit.and1 rfl ?_ | refine FBit.andN rfl (by omega) (by omega) ?_ | refine FBit.orN rfl (by omega) (by omega) ?_ | refine FBit.andNotN rfl (by omega) (by omega) ?_) | (with_reducible refine FApp.grow ?_) | (refine FCall.pure (cS) ⟨Ln.sameB _ rfl, Ln.sameB _ rfl, Ln.sameB _ rfl, Ln.sameB _ rfl, True.intro⟩ rfl ?_) | (with_reducible refine FOr.pub ?_)))
        all_goals (try (conv => whnf))
        exact ⟨⟨(m + 1, [(m : Int)]), ⟨hlt, hst.symm⟩, by show _ < _; simp only; omega, [0, 1], Cut.of (Nat.le_of_ble_eq_true rfl) rfl rfl (CutL.turned rfl LnB.A (CutL.turned rfl (LnB.app (fun k hk => absurd hk (Nat.not_lt_zero k)) (fun o ho => by obtain rfl : o = 0 := (by omega); rfl)) CutL.done)), ⟨Ln.A, Ln.A, Ln.A, Ln.A, True.intro⟩⟩⟩
      · simp only [List.length_cons] at hll
        (repeat' ((try (conv => whnf)); first | (with_reducible first | refine FCond.tA ?_ | refine FCond.fA ?_) | ((with_reducible refine FCond.i (fun hq => ?_) (fun hq => ?_)) <;> (try simp only [zA, zE, zD, zJ, zB, zI, Int.not_le, Int.not_lt] at hq)) | (with_reducible first | refine Fits.in64 (by omega) ?_ | refine FIdx.nat (by omega) ?_ | refine FIdx.int (by omega) ?_ | refine FTo.nat (by omega) ?_ | refine FTo.int (by omega) ?_) | ((with_reducible refine Need.mk ?_ ?_); focus exact needA) | (with_reducible first | refine FBit.hasT rfl (by assumption) ?_ | refine FBit.hasF rfl (by assumption) ?_ | refine FBit.shrN rfl (by omega) ?_ | refine FBit.half rfl ?_ | refine FBit.shl1 rfl (by omega) ?_ | refine Fits.inU (by omega) ?_ | refine FBit.shrNI rfl (by omega) ?_ | refine FBit.shrIN rfl (by omega) (by omega) ?_ | refine FBit.shrI rfl (by omega) (by omega) ?_ | refine FBit.shl1I rfl (by omega) ?_) | (with_reducible refine FBit.has rfl (fun hq => ?_) (fun hq => ?_)) | (with_reducible first | refine FBit.and1 rfl ?_ | refine FBit.andN rfl (by omega) (by omega) ?_ | refine FBit.orN rfl (by omega) (by omega) ?_ | refine FBit.andNotN rfl (by omega) (by omega) ?_) | (with_reducible refine FApp.grow ?_) | (refine FCall.pure (cS) ⟨Ln.sameB _ rfl, Ln.sameB _ rfl, Ln.sameB _ rfl, Ln.sameB _ rfl, True.intro⟩ rfl ?_) | (with_reducible refine FOr.pub ?_)))
        all_goals (try (conv => whnf))
        exact ⟨⟨(m + 1, x :: (xs ++ [(m : Int)])), ⟨hlt, hst.symm⟩, by show _ < _; simp only; omega, [0, 2], Cut.of (Nat.le_of_ble_eq_true rfl) rfl rfl (CutL.turned rfl LnB.A (CutL.turned rfl LnB.snocI CutL.done)), ⟨Ln.A, Ln.A, Ln.ownE rfl (by simp), Ln.A, True.intro⟩⟩⟩
  · obtain rfl : m = 2 ^ s.rg.length := by omega
    rcases l with _ | ⟨x, xs⟩
    · exact (tog_ne s t (List.map_eq_nil_iff.1 hl.symm)).elim
    · (repeat' ((try (conv => whnf)); first | (with_reducible first | refine FCond.tA ?_ | refine FCond.fA ?_) | ((with_reducible refine FCond.i (fun hq => ?_) (fun hq => ?_)) <;> (try simp only [zA, zE, zD, zJ, zB, zI, Int.not_le, Int.not_lt] at hq)) | (with_reducible first | refine Fits.in64 (by omega) ?_ | refine FIdx.nat (by omega) ?_ | refine FIdx.int (by omega) ?_ | refine FTo.nat (by omega) ?_ | refine FTo.int (by omega) ?_) | ((with_reducible refine Need.mk ?_ ?_); focus exact needA) | (with_reducible first | refine FBit.hasT rfl (by assumption) ?_ | refine FBit.hasF rfl (by assumption) ?_ | refine FBit.shrN rfl (by omega) ?_ | refine FBit.half rfl ?_ | refine FBit.shl1 rfl (by omega) ?_ | refine Fits.inU (by omega) ?_ | refine FBit.shrNI rfl (by omega) ?_ | refine FBit.shrIN rfl (by omega) (by omega) ?_ | refine FBit.shrI rfl (by omega) (by omega) ?_ | refine FBit.shl1I rfl (by omega) ?_) | (with_reducible refine FBit.has rfl (fun hq => ?_) (fun hq => ?_)) | (with_reducible first | refine FBit.and1 rfl ?_ | refine FBit.andN rfl (by omega) (by omega) ?_ | refine FBit.orN rfl (by omega) (by omega) ?_ | refine FBit.andNotN rfl (by omega) (by omega) ?_) | (with_reducible refine FApp.grow ?_) | (with_reducible refine FOr.pub ?_)))
      all_goals (try (conv => whnf))
      have hlen : xs.length + 1 = (togL s t).length := by rw [← toI_len]; exact congrArg List.length hl
      exact ⟨⟨aTog s t, [], [], Cut.nil _, Ln.pubE (goneB rfl) rfl (Nat.le_refl _) hlen (fun k hk o ho => by rw [← toI_get]; show AI ((toI (togK s t (2 ^ s.rg.length))).getD k 0) = _; rw [← hl]), rfl, rfl⟩⟩
end Go.Proofs.Ytnghcfmloljagaa

namespace Go.Proofs.Ytnghcfmloljagaa
open Go.RowKit

theorem setC_bd {s : Std} (hs : StdOk s) {t B : Nat} (ht : t ≤ 8) : ∀ c, c ≤ s.C → -8000 * (c : Int) ≤ setC s t B c ∧ setC s t B c ≤ 8000 * c
  | 0, _ => by simp [setC]
  | c + 1, hc => by
    have ih := setC_bd hs (B := B) ht c (by omega)
    have hr := hs.rg c hc
    have t8 := hs.t8
    have tt := hs.t
    simp only [setC]
    unfold costI
    split
    · split <;> omega
    · omega
/-- The rows before the first time, as they are filled. -/
def i0 (m k : Nat) : Int := if 0 < k ∧ k < m then 1000000 else 0
theorem i0_all {s : Std} {n k : Nat} (h : k < n) : i0 n k = lst s 0 k := by
  unfold i0
  simp only [lst]
  by_cases e : k = 0
  · rw [if_neg (by omega), if_pos e]
  · rw [if_pos (by omega), if_neg e]
theorem i0_step (m k : Nat) (hm : 0 < m) : i0 (m + 1) k = if k = m then 1000000 else i0 m k := by
  unfold i0
  by_cases e : k = m
  · rw [if_pos e, if_pos (by omega)]
  · rw [if_neg e]
    by_cases h : 0 < k ∧ k < m
    · rw [if_pos h, if_pos (by omega)]
    · rw [if_neg h, if_neg (by omega)]
theorem fK_bd {s : Std} (hs : StdOk s) {t : Nat} (ht : t ≤ 8) {N : Nat} {b : Nat → Int} (hN : N = 2 ^ s.C) (hb : ∀ k, k < N → 0 ≤ b k ∧ b k ≤ 1000000) {m : Nat} {f : Nat → Int} (hm : m < N) (hf : ∀ k, k < N → -2000000 ≤ f k ∧ f k ≤ 1000000) : ∀ K k, k < N → -2000000 ≤ fK s b t m f K k ∧ fK s b t m f K k ≤ 1000000
  | 0, k, hk => hf k hk
  | K + 1, k, hk => by
    have ih := fK_bd hs ht hN hb hm hf K
    simp only [fK]
    split
    · exact ih k hk
    · have h1 := ih k hk
      have h2 := hb m hm
      have h3 := setC_bd hs (B := (togL s t).getD K 0) ht s.C (Nat.le_refl _)
      have c12 := hs.c12
      unfold lowR
      split <;> omega
theorem gM_bd {s : Std} (hs : StdOk s) {t : Nat} (ht : t ≤ 8) {N : Nat} {b : Nat → Int} (hN : N = 2 ^ s.C) (hb : ∀ k, k < N → 0 ≤ b k ∧ b k ≤ 1000000) : ∀ M, M ≤ N → ∀ k, k < N → -2000000 ≤ gM s b t M k ∧ gM s b t M k ≤ 1000000
  | 0, _, k, hk => by have := hb k hk; simp only [gM]; omega
  | M + 1, hM, k, hk => fK_bd hs ht hN hb (by omega) (gM_bd hs ht hN hb M (by omega)) _ k hk
theorem untilT_nat (s : Std) (t : Nat) : untilT s (t : Int) = t := if_neg (by omega)
/-- The row that is made, with the first sets at a time. -/
abbrev nx (s : Std) (t m k : Nat) : Nat → Int := fK s (lst s t) t m (gM s (lst s t) t m) k
theorem nx_skip {s : Std} {t m k : Nat} (h : 1000000 ≤ lst s t m ∨ m &&& (togL s t).getD k 0 ≠ 0) (j : Nat) : nx s t m (k + 1) j = nx s t m k j := by
  simp only [nx, fK]; rw [if_pos h]
theorem nx_step {s : Std} {t m k : Nat} (h1 : ¬ 1000000 ≤ lst s t m) (h2 : m &&& (togL s t).getD k 0 = 0) (j : Nat) : nx s t m (k + 1) j = if j = m ||| (togL s t).getD k 0 then min (nx s t m k j) (lst s t m + setC s t ((togL s t).getD k 0) s.C) else nx s t m k j := by
  simp only [nx, fK]; rw [if_neg (fun h => h.elim h1 (fun h => h h2))]; rfl
set_option maxHeartbeats 8000000
set_option maxRecDepth 100000
theorem least_ok (f : StF) (s : Std) (hs : StdOk s) (u : Nat) (hu : u ≤ s.T) : ACall Try.prog 57 [aStd f s, AI u] [] (fun r h => r = aRow (2 ^ s.C) (lst s u) ∧ h = []) := by
  have c12 : s.rg.length ≤ 12 := hs.c12
  have t8 := hs.t8
  have tt := hs.t
  have hp := Nat.pow_le_pow_right (show 0 < 2 by decide) c12
  have hpos : 0 < 2 ^ s.rg.length := Nat.two_pow_pos _
  obtain ⟨N, hN⟩ : ∃ N, 2 ^ s.rg.length = N + 1 := ⟨2 ^ s.rg.length - 1, by omega⟩
  have hNC : N + 1 = 2 ^ s.C := hN.symm
  (refine fcall_of mixed Try.func57 rfl (by decide) (hs := { ord := [(23, [(0, []), (1, []), (2, []), (3, []), (4, []), (5, []), (6, [1]), (7, []), (8, []), (9, [])])] }) ?k (ac := ?ac) ?c (rs := ?rs) ?r ?l ?H; (case k => kernel_rfl); (case c => (conv => (lhs; cbv))); (case r => (conv => (lhs; cbv))); (case l => exact Nat.le_of_ble_eq_true rfl))
  (repeat' ((try (conv => whnf)); first | (with_reducible first | refine FCond.tA ?_ | refine FCond.fA ?_) | ((with_reducible refine FCond.i (fun hq => ?_) (fun hq => ?_)) <;> (try simp only [zA, zE, zD, zJ, zB, zI, Int.not_le, Int.not_lt] at hq)) | (with_reducible first | refine Fits.in64 (by omega) ?_ | refine FIdx.nat (by omega) ?_ | refine FIdx.int (by omega) ?_ | refine FTo.nat (by omega) ?_ | refine FTo.int (by omega) ?_) | ((with_reducible refine Need.mk ?_ ?_); focus exact needA) | (with_reducible first | refine FBit.hasT rfl (by assumption) ?_ | refine FBit.hasF rfl (by assumption) ?_ | refine FBit.shrN rfl (by omega) ?_ | refine FBit.half rfl ?_ | refine FBit.shl1 rfl (by omega) ?_ | refine Fits.inU (by omega) ?_ | refine FBit.shrNI rfl (by omega) ?_ | refine FBit.shrIN rfl (by omega) (by omega) ?_ | refine FBit.shrI rfl (by omega) (by omega) ?_ | refine FBit.shl1I rfl (by omega) ?_) | (with_reducible refine FBit.has rfl (fun hq => ?_) (fun hq => ?_)) | (with_reducible first | refine FBit.and1 rfl ?_ | refine FBit.andN rfl (by omega) (by omega) ?_ | refine FBit.orN rfl (by omega) (by omega) ?_ | refine FBit.andNotN rfl (by omega) (by omega) ?_) | (with_reducible refine FApp.grow ?_) | (with_reducible refine FOr.pub ?_)))
  all_goals (try (conv => whnf))
  refine FLoop.of (ACalls.mono _) (X := Nat) (fun m => [(1, AI u), (2, .ptr 0 0), (5, .own 1 ((N + 1))), (6, AI m)]) (fun m => [.box 3 (cStd f s), rowI ((N + 1)) (i0 m)]) (fun m => 1 ≤ m ∧ m ≤ (N + 1)) (fun m => (N + 1) - m) 1
    ⟨⟨Nat.le_refl _, by omega⟩, [0, 1], Cut.of (Nat.le_of_ble_eq_true rfl) rfl rfl (CutL.turned rfl LnB.A (CutL.turned rfl (LnB.rowE (by omega) fun k hk o ho => by unfold i0; rw [if_neg (by omega)]; obtain rfl : o = 0 := (by omega); rfl) CutL.done)), ⟨Ln.A, Ln.A, Ln.ownE rfl hN, Ln.A, True.intro⟩⟩ ?_
  rintro m ⟨hm1, hm⟩
  by_cases hlt : m < (N + 1)
  · (repeat' ((try (conv => whnf)); first | (with_reducible first | refine FCond.tA ?_ | refine FCond.fA ?_) | ((with_reducible refine FCond.i (fun hq => ?_) (fun hq => ?_)) <;> (try simp only [zA, zE, zD, zJ, zB, zI, Int.not_le, Int.not_lt] at hq)) | (with_reducible first | refine Fits.in64 (by omega) ?_ | refine FIdx.nat (by omega) ?_ | refine FIdx.int (by omega) ?_ | refine FTo.nat (by omega) ?_ | refine FTo.int (by omega) ?_) | ((with_reducible refine Need.mk ?_ ?_); focus exact needA) | (with_reducible first | refine FBit.hasT rfl (by assumption) ?_ | refine FBit.hasF rfl (by assumption) ?_ | refine FBit.shrN rfl (by omega) ?_ | refine FBit.half rfl ?_ | refine FBit.shl1 rfl (by omega) ?_ | refine Fits.inU (by omega) ?_ | refine FBit.shrNI rfl (by omega) ?_ | refine FBit.shrIN rfl (by omega) (by omega) ?_ | refine FBit.shrI rfl (by omega) (by omega) ?_ | refine FBit.shl1I rfl (by omega) ?_) | (with_reducible refine FBit.has rfl (fun hq => ?_) (fun hq => ?_)) | (with_reducible first | refine FBit.and1 rfl ?_ | refine FBit.andN rfl (by omega) (by omega) ?_ | refine FBit.orN rfl (by omega) (by omega) ?_ | refine FBit.andNotN rfl (by omega) (by omega) ?_) | (with_reducible refine FApp.grow ?_) | (with_reducible refine FOr.pub ?_)))
    all_goals (try (conv => whnf))
    exact ⟨⟨m + 1, ⟨by omega, hlt⟩, by omega, [0, 1], Cut.of (Nat.le_of_ble_eq_true rfl) rfl rfl (CutL.turned rfl LnB.A (CutL.turned rfl (LnB.rowE (Nat.le_refl _) fun k hk o ho => by
      rw [i0_step m k hm1]
      obtain rfl : o = 0 := by omega
      simp only [updRm]
      by_cases e : k = m
      · rw [if_pos e, if_pos e]; rfl
      · rw [if_neg e, if_neg e]) CutL.done)), allA⟩⟩
  obtain rfl : m = (N + 1) := by omega
  (repeat' ((try (conv => whnf)); first | (with_reducible first | refine FCond.tA ?_ | refine FCond.fA ?_) | ((with_reducible refine FCond.i (fun hq => ?_) (fun hq => ?_)) <;> (try simp only [zA, zE, zD, zJ, zB, zI, Int.not_le, Int.not_lt] at hq)) | (with_reducible first | refine Fits.in64 (by omega) ?_ | refine FIdx.nat (by omega) ?_ | refine FIdx.int (by omega) ?_ | refine FTo.nat (by omega) ?_ | refine FTo.int (by omega) ?_) | ((with_reducible refine Need.mk ?_ ?_); focus exact needA) | (with_reducible first | refine FBit.hasT rfl (by assumption) ?_ | refine FBit.hasF rfl (by assumption) ?_ | refine FBit.shrN rfl (by omega) ?_ | refine FBit.half rfl ?_ | refine FBit.shl1 rfl (by omega) ?_ | refine Fits.inU (by omega) ?_ | refine FBit.shrNI rfl (by omega) ?_ | refine FBit.shrIN rfl (by omega) (by omega) ?_ | refine FBit.shrI rfl (by omega) (by omega) ?_ | refine FBit.shl1I rfl (by omega) ?_) | (with_reducible refine FBit.has rfl (fun hq => ?_) (fun hq => ?_)) | (with_reducible first | refine FBit.and1 rfl ?_ | refine FBit.andN rfl (by omega) (by omega) ?_ | refine FBit.orN rfl (by omega) (by omega) ?_ | refine FBit.andNotN rfl (by omega) (by omega) ?_) | (with_reducible refine FApp.grow ?_) | (with_reducible refine FOr.pub ?_)))
  all_goals (try (conv => whnf))
  refine FLoop.of (ACalls.mono _) (X := Nat) (fun t => [(1, AI u), (2, .ptr 0 0), (5, .own 1 ((N + 1))), (7, AI t)]) (fun t => [.box 3 (cStd f s), rowI ((N + 1)) (lst s t)]) (fun t => t ≤ u) (fun t => u - t) 0
    ⟨Nat.zero_le _, [0, 1], Cut.of (Nat.le_of_ble_eq_true rfl) rfl rfl (CutL.turned rfl LnB.A (CutL.turned rfl (LnB.rowE (Nat.le_refl _) fun k hk o ho => by rw [i0_all (s := s) hk]) CutL.done)), allA⟩ ?_
  intro t ht
  by_cases hltt : t < u
  · have cT := together_ok f s hs t (by omega)
    have hLm := togK_len s t (2 ^ s.C)
    have hL : (togL s t).length ≤ N + 1 := by rw [hNC]; exact hLm
    have hb1 : ∀ k, k < N + 1 → 0 ≤ lst s t k ∧ lst s t k ≤ 1000000 := fun k hk => lst_bd hs t (by rw [← hNC]; exact hk)
    have hb2 := gM_bd hs (t := t) (by omega) hNC hb1
    (repeat' ((try (conv => whnf)); first | (with_reducible first | refine FCond.tA ?_ | refine FCond.fA ?_) | ((with_reducible refine FCond.i (fun hq => ?_) (fun hq => ?_)) <;> (try simp only [zA, zE, zD, zJ, zB, zI, Int.not_le, Int.not_lt] at hq)) | (with_reducible first | refine Fits.in64 (by omega) ?_ | refine FIdx.nat (by omega) ?_ | refine FIdx.int (by omega) ?_ | refine FTo.nat (by omega) ?_ | refine FTo.int (by omega) ?_) | ((with_reducible refine Need.mk ?_ ?_); focus exact needA) | (with_reducible first | refine FBit.hasT rfl (by assumption) ?_ | refine FBit.hasF rfl (by assumption) ?_ | refine FBit.shrN rfl (by omega) ?_ | refine FBit.half rfl ?_ | refine FBit.shl1 rfl (by omega) ?_ | refine Fits.inU (by omega) ?_ | refine FBit.shrNI rfl (by omega) ?_ | refine FBit.shrIN rfl (by omega) (by omega) ?_ | refine FBit.shrI rfl (by omega) (by omega) ?_ | refine FBit.shl1I rfl (by omega) ?_) | (with_reducible refine FBit.has rfl (fun hq => ?_) (fun hq => ?_)) | (with_reducible first | refine FBit.and1 rfl ?_ | refine FBit.andN rfl (by omega) (by omega) ?_ | refine FBit.orN rfl (by omega) (by omega) ?_ | refine FBit.andNotN rfl (by omega) (by omega) ?_) | (with_reducible refine FApp.grow ?_) | (refine FCall.pure (cT) ⟨Ln.sameB _ rfl, Ln.sameB _ rfl, True.intro⟩ rfl ?_) | (with_reducible refine FOr.pub ?_)))
    all_goals (try (conv => whnf))
    refine FLoop.of (ACalls.mono _) (X := Nat) (fun m => [(1, AI u), (2, .ptr 0 0), (5, .own 1 (N + 1)), (7, AI t), (8, aTog s t), (9, .own 2 (N + 1)), (10, AI m)]) (fun m => [.box 3 (cStd f s), rowI (N + 1) (lst s t), rowI (N + 1) (gM s (lst s t) t m)]) (fun m => m ≤ N + 1) (fun m => N + 1 - m) 0
      ⟨Nat.zero_le _, [0, 1, 2], Cut.of (Nat.le_of_ble_eq_true rfl) rfl rfl (CutL.turned rfl LnB.A (CutL.turned rfl LnB.A (CutL.turned rfl (LnB.rowE (by omega) fun k hk o ho => by simp [appc, gM]) CutL.done))), allA⟩ ?_
    intro m hm
    by_cases hltm : m < N + 1
    · have hb3 := fK_bd hs (t := t) (by omega) hNC hb1 hltm (hb2 m (by omega))
      have hbm := hb1 m hltm
      (repeat' ((try (conv => whnf)); first | (with_reducible first | refine FCond.tA ?_ | refine FCond.fA ?_) | ((with_reducible refine FCond.i (fun hq => ?_) (fun hq => ?_)) <;> (try simp only [zA, zE, zD, zJ, zB, zI, Int.not_le, Int.not_lt] at hq)) | (with_reducible first | refine Fits.in64 (by omega) ?_ | refine FIdx.nat (by omega) ?_ | refine FIdx.int (by omega) ?_ | refine FTo.nat (by omega) ?_ | refine FTo.int (by omega) ?_) | ((with_reducible refine Need.mk ?_ ?_); focus exact needA) | (with_reducible first | refine FBit.hasT rfl (by assumption) ?_ | refine FBit.hasF rfl (by assumption) ?_ | refine FBit.shrN rfl (by omega) ?_ | refine FBit.half rfl ?_ | refine FBit.shl1 rfl (by omega) ?_ | refine Fits.inU (by omega) ?_ | refine FBit.shrNI rfl (by omega) ?_ | refine FBit.shrIN rfl (by omega) (by omega) ?_ | refine FBit.shrI rfl (by omega) (by omega) ?_ | refine FBit.shl1I rfl (by omega) ?_) | (with_reducible refine FBit.has rfl (fun hq => ?_) (fun hq => ?_)) | (with_reducible first | refine FBit.and1 rfl ?_ | refine FBit.andN rfl (by omega) (by omega) ?_ | refine FBit.orN rfl (by omega) (by omega) ?_ | refine FBit.andNotN rfl (by omega) (by omega) ?_) | (with_reducible refine FApp.grow ?_) | (with_reducible refine FOr.pub ?_)))
      all_goals (try (conv => whnf))
      refine FLoop.of (ACalls.mono _) (X := Nat) (fun k => [(1, AI u), (2, .ptr 0 0), (5, .own 1 (N + 1)), (7, AI t), (8, aTog s t), (9, .own 2 (N + 1)), (10, AI m), (11, AI k)]) (fun k => [.box 3 (cStd f s), rowI (N + 1) (lst s t), rowI (N + 1) (nx s t m k)]) (fun k => k ≤ (togL s t).length) (fun k => (togL s t).length - k) 0
        ⟨Nat.zero_le _, [0, 1, 2], Cut.of (Nat.le_of_ble_eq_true rfl) rfl rfl (CutL.turned rfl LnB.A (CutL.turned rfl LnB.A (CutL.turned rfl (LnB.rowE (Nat.le_refl _) fun k hk o ho => rfl) CutL.done))), allA⟩ ?_
      intro k hk
      by_cases hltk : k < (togL s t).length
      · have hB : (togL s t).getD k 0 < 2 ^ s.C := togK_lt hltk
        rw [← hNC] at hB
        by_cases h1 : 1000000 ≤ lst s t m
        · (repeat' ((try (conv => whnf)); first | (with_reducible first | refine FCond.tA ?_ | refine FCond.fA ?_) | ((with_reducible refine FCond.i (fun hq => ?_) (fun hq => ?_)) <;> (try simp only [zA, zE, zD, zJ, zB, zI, Int.not_le, Int.not_lt] at hq)) | (with_reducible first | refine Fits.in64 (by omega) ?_ | refine FIdx.nat (by omega) ?_ | refine FIdx.int (by omega) ?_ | refine FTo.nat (by omega) ?_ | refine FTo.int (by omega) ?_) | ((with_reducible refine Need.mk ?_ ?_); focus exact needA) | (with_reducible first | refine FBit.hasT rfl (by assumption) ?_ | refine FBit.hasF rfl (by assumption) ?_ | refine FBit.shrN rfl (by omega) ?_ | refine FBit.half rfl ?_ | refine FBit.shl1 rfl (by omega) ?_ | refine Fits.inU (by omega) ?_ | refine FBit.shrNI rfl (by omega) ?_ | refine FBit.shrIN rfl (by omega) (by omega) ?_ | refine FBit.shrI rfl (by omega) (by omega) ?_ | refine FBit.shl1I rfl (by omega) ?_) | (with_reducible refine FBit.has rfl (fun hq => ?_) (fun hq => ?_)) | (with_reducible first | refine FBit.and1 rfl ?_ | refine FBit.andN rfl (by omega) (by omega) ?_ | refine FBit.orN rfl (by omega) (by omega) ?_ | refine FBit.andNotN rfl (by omega) (by omega) ?_) | (with_reducible refine FApp.grow ?_) | (with_reducible refine FOr.pub ?_)))
          all_goals (try (conv => whnf))
          exact ⟨⟨k + 1, hltk, by omega, [0, 1, 2], Cut.of (Nat.le_of_ble_eq_true rfl) rfl rfl (CutL.turned rfl LnB.A (CutL.turned rfl LnB.A (CutL.turned rfl (LnB.rowE (Nat.le_refl _) fun j hj o ho => by rw [nx_skip (.inl h1)]) CutL.done))), allA⟩⟩
        by_cases h2 : m &&& (togL s t).getD k 0 = 0
        · (repeat' ((try (conv => whnf)); first | (with_reducible first | refine FCond.tA ?_ | refine FCond.fA ?_) | ((with_reducible refine FCond.i (fun hq => ?_) (fun hq => ?_)) <;> (try simp only [zA, zE, zD, zJ, zB, zI, Int.not_le, Int.not_lt] at hq)) | (with_reducible first | refine Fits.in64 (by omega) ?_ | refine FIdx.nat (by omega) ?_ | refine FIdx.int (by omega) ?_ | refine FTo.nat (by omega) ?_ | refine FTo.int (by omega) ?_) | ((with_reducible refine Need.mk ?_ ?_); focus exact needA) | (with_reducible first | refine FBit.hasT rfl (by assumption) ?_ | refine FBit.hasF rfl (by assumption) ?_ | refine FBit.shrN rfl (by omega) ?_ | refine FBit.half rfl ?_ | refine FBit.shl1 rfl (by omega) ?_ | refine Fits.inU (by omega) ?_ | refine FBit.shrNI rfl (by omega) ?_ | refine FBit.shrIN rfl (by omega) (by omega) ?_ | refine FBit.shrI rfl (by omega) (by omega) ?_ | refine FBit.shl1I rfl (by omega) ?_) | (with_reducible refine FBit.has rfl (fun hq => ?_) (fun hq => ?_)) | (with_reducible first | refine FBit.and1 rfl ?_ | refine FBit.andN rfl (by omega) (by omega) ?_ | refine FBit.orN rfl (by omega) (by omega) ?_ | refine FBit.andNotN rfl (by omega) (by omega) ?_) | (with_reducible refine FApp.grow ?_) | (refine FBit.andN rfl (by omega) (by omega) ?_) | (with_reducible refine FOr.pub ?_)))
          all_goals (try (conv => whnf))
          refine FLoop.of (ACalls.mono _) (X := Nat) (fun c => [(1, AI u), (2, .ptr 0 0), (5, .own 1 (N + 1)), (7, AI t), (8, aTog s t), (9, .own 2 (N + 1)), (10, AI m), (11, AI k), (12, AI (lst s t m + setC s t ((togL s t).getD k 0) c)), (13, AI c)]) (fun c => [.box 3 (cStd f s), rowI (N + 1) (lst s t), rowI (N + 1) (nx s t m k)]) (fun c => c ≤ s.rg.length) (fun c => s.rg.length - c) 0
            ⟨Nat.zero_le _, [0, 1, 2], Cut.A, ⟨Ln.A, Ln.A, Ln.A, Ln.A, Ln.A, Ln.A, Ln.A, Ln.A, Ln.int (by simp only [setC]; omega), Ln.A, True.intro⟩⟩ ?_
          intro c hc
          by_cases hltc : c < s.rg.length
          · have cH := has_ok ((togL s t).getD k 0) c (by omega)
            have hS1 := setC_bd hs (t := t) (B := (togL s t).getD k 0) (by omega) c (by show c ≤ s.rg.length; omega)
            have hS2 := setC_bd hs (t := t) (B := (togL s t).getD k 0) (by omega) (c + 1) (by show c + 1 ≤ s.rg.length; omega)
            cases hb : ((togL s t).getD k 0).testBit c
            · rw [hb] at cH
              have hst : setC s t ((togL s t).getD k 0) (c + 1) = setC s t ((togL s t).getD k 0) c := by simp only [setC]; rw [if_neg (by rw [hb]; decide)]; omega
              (repeat' ((try (conv => whnf)); first | (with_reducible first | refine FCond.tA ?_ | refine FCond.fA ?_) | ((with_reducible refine FCond.i (fun hq => ?_) (fun hq => ?_)) <;> (try simp only [zA, zE, zD, zJ, zB, zI, Int.not_le, Int.not_lt] at hq)) | (with_reducible first | refine Fits.in64 (by omega) ?_ | refine FIdx.nat (by omega) ?_ | refine FIdx.int (by omega) ?_ | refine FTo.nat (by omega) ?_ | refine FTo.int (by omega) ?_) | ((with_reducible refine Need.mk ?_ ?_); focus exact needA) | (with_reducible first | refine FBit.hasT rfl (by assumption) ?_ | refine FBit.hasF rfl (by assumption) ?_ | refine FBit.shrN rfl (by omega) ?_ | refine FBit.half rfl ?_ | refine FBit.shl1 rfl (by omega) ?_ | refine Fits.inU (by omega) ?_ | refine FBit.shrNI rfl (by omega) ?_ | refine FBit.shrIN rfl (by omega) (by omega) ?_ | refine FBit.shrI rfl (by omega) (by omega) ?_ | refine FBit.shl1I rfl (by omega) ?_) | (with_reducible refine FBit.has rfl (fun hq => ?_) (fun hq => ?_)) | (with_reducible first | refine FBit.and1 rfl ?_ | refine FBit.andN rfl (by omega) (by omega) ?_ | refine FBit.orN rfl (by omega) (by omega) ?_ | refine FBit.andNotN rfl (by omega) (by omega) ?_) | (with_reducible refine FApp.grow ?_) | (refine FCall.pure (cH) ⟨Ln.sameB _ rfl, Ln.sameB _ rfl, True.intro⟩ rfl ?_) | (with_reducible refine FOr.pub ?_)))
              all_goals (try (conv => whnf))
              exact ⟨⟨c + 1, hltc, by omega, [0, 1, 2], Cut.A, ⟨Ln.A, Ln.A, Ln.A, Ln.A, Ln.A, Ln.A, Ln.A, Ln.A, Ln.int (by rw [hst]), Ln.A, True.intro⟩⟩⟩
            · rw [hb] at cH
              have hst : setC s t ((togL s t).getD k 0) (c + 1) = setC s t ((togL s t).getD k 0) c + costI s c ((t : Int) - (s.R c).at_) := by simp only [setC]; rw [if_pos hb]
              have hr := hs.rg c hltc
              have cW := wait_ok f s hs c (t : Int) (by omega) hltc
              rw [untilT_nat] at cW
              have cQ : ACall Try.prog 66 [aStd f s, AI c, AI ((t : Int) - (s.R c).at_)] [] (fun r h => r = AI (costI s c ((t : Int) - (s.R c).at_)) ∧ h = []) := cost_ok f s c _ (by omega) hltc
              (repeat' ((try (conv => whnf)); first | (with_reducible first | refine FCond.tA ?_ | refine FCond.fA ?_) | ((with_reducible refine FCond.i (fun hq => ?_) (fun hq => ?_)) <;> (try simp only [zA, zE, zD, zJ, zB, zI, Int.not_le, Int.not_lt] at hq)) | (with_reducible first | refine Fits.in64 (by omega) ?_ | refine FIdx.nat (by omega) ?_ | refine FIdx.int (by omega) ?_ | refine FTo.nat (by omega) ?_ | refine FTo.int (by omega) ?_) | ((with_reducible refine Need.mk ?_ ?_); focus exact needA) | (with_reducible first | refine FBit.hasT rfl (by assumption) ?_ | refine FBit.hasF rfl (by assumption) ?_ | refine FBit.shrN rfl (by omega) ?_ | refine FBit.half rfl ?_ | refine FBit.shl1 rfl (by omega) ?_ | refine Fits.inU (by omega) ?_ | refine FBit.shrNI rfl (by omega) ?_ | refine FBit.shrIN rfl (by omega) (by omega) ?_ | refine FBit.shrI rfl (by omega) (by omega) ?_ | refine FBit.shl1I rfl (by omega) ?_) | (with_reducible refine FBit.has rfl (fun hq => ?_) (fun hq => ?_)) | (with_reducible first | refine FBit.and1 rfl ?_ | refine FBit.andN rfl (by omega) (by omega) ?_ | refine FBit.orN rfl (by omega) (by omega) ?_ | refine FBit.andNotN rfl (by omega) (by omega) ?_) | (with_reducible refine FApp.grow ?_) | (refine FCall.pure (cH) ⟨Ln.sameB _ rfl, Ln.sameB _ rfl, True.intro⟩ rfl ?_) | (refine FCall.pure (cW) ⟨Ln.sameB _ rfl, Ln.sameB _ rfl, Ln.sameB _ rfl, True.intro⟩ rfl ?_) | (refine FCall.pure (cQ) ⟨Ln.sameB _ rfl, Ln.sameB _ rfl, Ln.sameB _ rfl, True.intro⟩ rfl ?_) | (with_reducible refine FOr.pub ?_)))
              all_goals (try (conv => whnf))
              exact ⟨⟨c + 1, hltc, by omega, [0, 1, 2], Cut.A, ⟨Ln.A, Ln.A, Ln.A, Ln.A, Ln.A, Ln.A, Ln.A, Ln.A, Ln.int (by rw [hst]; omega), Ln.A, True.intro⟩⟩⟩
          · obtain rfl : c = s.rg.length := by omega
            have hor : m ||| (togL s t).getD k 0 < N + 1 := by
              rw [hNC] at hB hltm ⊢
              exact Nat.or_lt_two_pow hltm hB
            (repeat' ((try (conv => whnf)); first | (with_reducible first | refine FCond.tA ?_ | refine FCond.fA ?_) | ((with_reducible refine FCond.i (fun hq => ?_) (fun hq => ?_)) <;> (try simp only [zA, zE, zD, zJ, zB, zI, Int.not_le, Int.not_lt] at hq)) | (with_reducible first | refine Fits.in64 (by omega) ?_ | refine FIdx.nat (by omega) ?_ | refine FIdx.int (by omega) ?_ | refine FTo.nat (by omega) ?_ | refine FTo.int (by omega) ?_) | ((with_reducible refine Need.mk ?_ ?_); focus exact needA) | (with_reducible first | refine FBit.hasT rfl (by assumption) ?_ | refine FBit.hasF rfl (by assumption) ?_ | refine FBit.shrN rfl (by omega) ?_ | refine FBit.half rfl ?_ | refine FBit.shl1 rfl (by omega) ?_ | refine Fits.inU (by omega) ?_ | refine FBit.shrNI rfl (by omega) ?_ | refine FBit.shrIN rfl (by omega) (by omega) ?_ | refine FBit.shrI rfl (by omega) (by omega) ?_ | refine FBit.shl1I rfl (by omega) ?_) | (with_reducible refine FBit.has rfl (fun hq => ?_) (fun hq => ?_)) | (with_reducible first | refine FBit.and1 rfl ?_ | refine FBit.andN rfl (by omega) (by omega) ?_ | refine FBit.orN rfl (by omega) (by omega) ?_ | refine FBit.andNotN rfl (by omega) (by omega) ?_) | (with_reducible refine FApp.grow ?_) | (refine FBit.orN rfl (by omega) (by omega) ?_) | (with_reducible refine FOr.pub ?_)))
            all_goals (try (conv => whnf))
            exact ⟨⟨k + 1, hltk, by omega, [0, 1, 2], Cut.of (Nat.le_of_ble_eq_true rfl) rfl rfl (CutL.turned rfl LnB.A (CutL.turned rfl LnB.A (CutL.turned rfl (LnB.rowE (Nat.le_refl _) fun j hj o ho => by rw [nx_step h1 h2]; obtain rfl : o = 0 := (by omega); simp only [updRm]; by_cases e : j = m ||| (togL s t).getD k 0 <;> simp only [e, if_true, if_false] <;> rfl) CutL.done))), allA⟩⟩
        · (repeat' ((try (conv => whnf)); first | (with_reducible first | refine FCond.tA ?_ | refine FCond.fA ?_) | ((with_reducible refine FCond.i (fun hq => ?_) (fun hq => ?_)) <;> (try simp only [zA, zE, zD, zJ, zB, zI, Int.not_le, Int.not_lt] at hq)) | (with_reducible first | refine Fits.in64 (by omega) ?_ | refine FIdx.nat (by omega) ?_ | refine FIdx.int (by omega) ?_ | refine FTo.nat (by omega) ?_ | refine FTo.int (by omega) ?_) | ((with_reducible refine Need.mk ?_ ?_); focus exact needA) | (with_reducible first | refine FBit.hasT rfl (by assumption) ?_ | refine FBit.hasF rfl (by assumption) ?_ | refine FBit.shrN rfl (by omega) ?_ | refine FBit.half rfl ?_ | refine FBit.shl1 rfl (by omega) ?_ | refine Fits.inU (by omega) ?_ | refine FBit.shrNI rfl (by omega) ?_ | refine FBit.shrIN rfl (by omega) (by omega) ?_ | refine FBit.shrI rfl (by omega) (by omega) ?_ | refine FBit.shl1I rfl (by omega) ?_) | (with_reducible refine FBit.has rfl (fun hq => ?_) (fun hq => ?_)) | (with_reducible first | refine FBit.and1 rfl ?_ | refine FBit.andN rfl (by omega) (by omega) ?_ | refine FBit.orN rfl (by omega) (by omega) ?_ | refine FBit.andNotN rfl (by omega) (by omega) ?_) | (with_reducible refine FApp.grow ?_) | (refine FBit.andN rfl (by omega) (by omega) ?_) | (with_reducible refine FOr.pub ?_)))
          all_goals (try (conv => whnf))
          exact ⟨⟨k + 1, hltk, by omega, [0, 1, 2], Cut.of (Nat.le_of_ble_eq_true rfl) rfl rfl (CutL.turned rfl LnB.A (CutL.turned rfl LnB.A (CutL.turned rfl (LnB.rowE (Nat.le_refl _) fun j hj o ho => by rw [nx_skip (.inr h2)]) CutL.done))), allA⟩⟩
      · obtain rfl : k = (togL s t).length := by omega
        (repeat' ((try (conv => whnf)); first | (with_reducible first | refine FCond.tA ?_ | refine FCond.fA ?_) | ((with_reducible refine FCond.i (fun hq => ?_) (fun hq => ?_)) <;> (try simp only [zA, zE, zD, zJ, zB, zI, Int.not_le, Int.not_lt] at hq)) | (with_reducible first | refine Fits.in64 (by omega) ?_ | refine FIdx.nat (by omega) ?_ | refine FIdx.int (by omega) ?_ | refine FTo.nat (by omega) ?_ | refine FTo.int (by omega) ?_) | ((with_reducible refine Need.mk ?_ ?_); focus exact needA) | (with_reducible first | refine FBit.hasT rfl (by assumption) ?_ | refine FBit.hasF rfl (by assumption) ?_ | refine FBit.shrN rfl (by omega) ?_ | refine FBit.half rfl ?_ | refine FBit.shl1 rfl (by omega) ?_ | refine Fits.inU (by omega) ?_ | refine FBit.shrNI rfl (by omega) ?_ | refine FBit.shrIN rfl (by omega) (by omega) ?_ | refine FBit.shrI rfl (by omega) (by omega) ?_ | refine FBit.shl1I rfl (by omega) ?_) | (with_reducible refine FBit.has rfl (fun hq => ?_) (fun hq => ?_)) | (with_reducible first | refine FBit.and1 rfl ?_ | refine FBit.andN rfl (by omega) (by omega) ?_ | refine FBit.orN rfl (by omega) (by omega) ?_ | refine FBit.andNotN rfl (by omega) (by omega) ?_) | (with_reducible refine FApp.grow ?_) | (with_reducible refine FOr.pub ?_)))
        all_goals (try (conv => whnf))
        exact ⟨⟨m + 1, hltm, by omega, [0, 1, 2], Cut.of (Nat.le_of_ble_eq_true rfl) rfl rfl (CutL.turned rfl LnB.A (CutL.turned rfl LnB.A (CutL.turned rfl (LnB.rowE (Nat.le_refl _) fun j hj o ho => rfl) CutL.done))), allA⟩⟩
    · obtain rfl : m = N + 1 := by omega
      (repeat' ((try (conv => whnf)); first | (with_reducible first | refine FCond.tA ?_ | refine FCond.fA ?_) | ((with_reducible refine FCond.i (fun hq => ?_) (fun hq => ?_)) <;> (try simp only [zA, zE, zD, zJ, zB, zI, Int.not_le, Int.not_lt] at hq)) | (with_reducible first | refine Fits.in64 (by omega) ?_ | refine FIdx.nat (by omega) ?_ | refine FIdx.int (by omega) ?_ | refine FTo.nat (by omega) ?_ | refine FTo.int (by omega) ?_) | ((with_reducible refine Need.mk ?_ ?_); focus exact needA) | (with_reducible first | refine FBit.hasT rfl (by assumption) ?_ | refine FBit.hasF rfl (by assumption) ?_ | refine FBit.shrN rfl (by omega) ?_ | refine FBit.half rfl ?_ | refine FBit.shl1 rfl (by omega) ?_ | refine Fits.inU (by omega) ?_ | refine FBit.shrNI rfl (by omega) ?_ | refine FBit.shrIN rfl (by omega) (by omega) ?_ | refine FBit.shrI rfl (by omega) (by omega) ?_ | refine FBit.shl1I rfl (by omega) ?_) | (with_reducible refine FBit.has rfl (fun hq => ?_) (fun hq => ?_)) | (with_reducible first | refine FBit.and1 rfl ?_ | refine FBit.andN rfl (by omega) (by omega) ?_ | refine FBit.orN rfl (by omega) (by omega) ?_ | refine FBit.andNotN rfl (by omega) (by omega) ?_) | (with_reducible refine FApp.grow ?_) | (with_reducible refine FOr.pub ?_)))
      all_goals (try (conv => whnf))
      exact ⟨⟨t + 1, hltt, by omega, [0, 2], Cut.of (Nat.le_of_ble_eq_true rfl) rfl rfl (CutL.turned rfl LnB.A (CutL.turned rfl (LnB.rowE (Nat.le_refl _) fun j hj o ho => by show AI (gM s (lst s t) t (2 ^ s.C) j) = _; rw [← hNC]) CutL.done)), allA⟩⟩
  · obtain rfl : t = u := by omega
    (repeat' ((try (conv => whnf)); first | (with_reducible first | refine FCond.tA ?_ | refine FCond.fA ?_) | ((with_reducible refine FCond.i (fun hq => ?_) (fun hq => ?_)) <;> (try simp only [zA, zE, zD, zJ, zB, zI, Int.not_le, Int.not_lt] at hq)) | (with_reducible first | refine Fits.in64 (by omega) ?_ | refine FIdx.nat (by omega) ?_ | refine FIdx.int (by omega) ?_ | refine FTo.nat (by omega) ?_ | refine FTo.int (by omega) ?_) | ((with_reducible refine Need.mk ?_ ?_); focus exact needA) | (with_reducible first | refine FBit.hasT rfl (by assumption) ?_ | refine FBit.hasF rfl (by assumption) ?_ | refine FBit.shrN rfl (by omega) ?_ | refine FBit.half rfl ?_ | refine FBit.shl1 rfl (by omega) ?_ | refine Fits.inU (by omega) ?_ | refine FBit.shrNI rfl (by omega) ?_ | refine FBit.shrIN rfl (by omega) (by omega) ?_ | refine FBit.shrI rfl (by omega) (by omega) ?_ | refine FBit.shl1I rfl (by omega) ?_) | (with_reducible refine FBit.has rfl (fun hq => ?_) (fun hq => ?_)) | (with_reducible first | refine FBit.and1 rfl ?_ | refine FBit.andN rfl (by omega) (by omega) ?_ | refine FBit.orN rfl (by omega) (by omega) ?_ | refine FBit.andNotN rfl (by omega) (by omega) ?_) | (with_reducible refine FApp.grow ?_) | (with_reducible refine FOr.pub ?_)))
    all_goals (try (conv => whnf))
    exact ⟨⟨aRow (2 ^ s.C) (lst s t), [], [], Cut.nil _, Ln.pubE (goneB rfl) rfl (Nat.le_refl _) hNC (fun k hk o ho => rfl), rfl, rfl⟩⟩
end Go.Proofs.Ytnghcfmloljagaa

namespace Go.Proofs.Ytnghcfmloljagaa
open Go.RowKit

theorem offC_bd {s : Std} (hs : StdOk s) {S : Nat} : ∀ c, c ≤ s.C → -8000 * (c : Int) ≤ offC s S c ∧ offC s S c ≤ 8000 * c
  | 0, _ => by simp [offC]
  | c + 1, hc => by
    have ih := offC_bd hs (S := S) c (by omega)
    have hr := hs.rg c hc
    have t8 := hs.t8
    have tt := hs.t
    simp only [offC]
    unfold costI
    split
    · omega
    · split <;> omega
theorem minK_bd {s : Std} (hs : StdOk s) : ∀ m, m ≤ 2 ^ s.C → -96000 ≤ minK s m ∧ minK s m ≤ 1000000
  | 0, _ => by simp [minK]
  | m + 1, hm => by
    have ih := minK_bd hs m (by omega)
    have h1 := lst_bd hs s.T (S := m) (by omega)
    have h2 := offC_bd hs (S := m) s.C (Nat.le_refl _)
    have c12 := hs.c12
    simp only [minK]
    omega
set_option maxHeartbeats 8000000
set_option maxRecDepth 100000
theorem refBest_ok (f : StF) (s : Std) (hs : StdOk s) : ACall Try.prog 47 [aStd f s] [] (fun r h => r = .tup 2 (ofL [AI (bestW s).u, AI (bestW s).o]) ∧ h = []) := by
  have c12 : s.rg.length ≤ 12 := hs.c12
  have t8 := hs.t8
  have hp := Nat.pow_le_pow_right (show 0 < 2 by decide) c12
  have cL := least_ok f s hs s.T (Nat.le_refl _)
  rw [hs.t] at cL
  obtain ⟨q1, q2⟩ := minK_div hs
  have hmb := minK_best hs
  have hbo := best_o hs
  have h0 : 0 ≤ minK s (2 ^ s.C) := by rw [hmb]; unfold cst; omega
  rw [← Int.tdiv_eq_ediv_of_nonneg h0] at q1
  rw [← Int.tmod_eq_emod_of_nonneg h0] at q2
  obtain ⟨N, hN⟩ : ∃ N, 2 ^ s.C = N := ⟨_, rfl⟩
  have hN' : N ≤ 4096 := by rw [← hN]; exact hp
  rw [hN] at cL q1 q2
  have tt := hs.t
  (refine fcall_of mixed Try.func47 rfl (by decide) (hs := { ord := [(11, [(0, []), (1, []), (2, []), (3, []), (4, []), (5, [1]), (6, []), (7, []), (8, [])])] }) ?k (ac := ?ac) ?c (rs := ?rs) ?r ?l ?H; (case k => kernel_rfl); (case c => (conv => (lhs; cbv))); (case r => (conv => (lhs; cbv))); (case l => exact Nat.le_of_ble_eq_true rfl))
  (repeat' ((try (conv => whnf)); first | (with_reducible first | refine FCond.tA ?_ | refine FCond.fA ?_) | ((with_reducible refine FCond.i (fun hq => ?_) (fun hq => ?_)) <;> (try simp only [zA, zE, zD, zJ, zB, zI, Int.not_le, Int.not_lt] at hq)) | (with_reducible first | refine Fits.in64 (by omega) ?_ | refine FIdx.nat (by omega) ?_ | refine FIdx.int (by omega) ?_ | refine FTo.nat (by omega) ?_ | refine FTo.int (by omega) ?_) | ((with_reducible refine Need.mk ?_ ?_); focus exact needA) | (with_reducible first | refine FBit.hasT rfl (by assumption) ?_ | refine FBit.hasF rfl (by assumption) ?_ | refine FBit.shrN rfl (by omega) ?_ | refine FBit.half rfl ?_ | refine FBit.shl1 rfl (by omega) ?_ | refine Fits.inU (by omega) ?_ | refine FBit.shrNI rfl (by omega) ?_ | refine FBit.shrIN rfl (by omega) (by omega) ?_ | refine FBit.shrI rfl (by omega) (by omega) ?_ | refine FBit.shl1I rfl (by omega) ?_) | (with_reducible refine FBit.has rfl (fun hq => ?_) (fun hq => ?_)) | (with_reducible first | refine FBit.and1 rfl ?_ | refine FBit.andN rfl (by omega) (by omega) ?_ | refine FBit.orN rfl (by omega) (by omega) ?_ | refine FBit.andNotN rfl (by omega) (by omega) ?_) | (with_reducible refine FApp.grow ?_) | (refine FCall.pure (cL) ⟨Ln.sameB _ rfl, Ln.sameB _ rfl, True.intro⟩ rfl ?_) | (with_reducible refine FOr.pub ?_)))
  all_goals (try (conv => whnf))
  refine FLoop.of (ACalls.mono _) (X := Nat) (fun m => [(1, .ptr 0 0), (4, aRow N (lst s s.T)), (5, AI (minK s m)), (6, AI m)]) (fun m => [.box 3 (cStd f s)]) (fun m => m ≤ N) (fun m => N - m) 0 ⟨Nat.zero_le _, [0], Cut.A, allA⟩ ?_
  intro m hm
  have hmk := minK_bd hs m (by omega)
  by_cases hlt : m < N
  · have hlb := lst_bd hs s.T (S := m) (by omega)
    (repeat' ((try (conv => whnf)); first | (with_reducible first | refine FCond.tA ?_ | refine FCond.fA ?_) | ((with_reducible refine FCond.i (fun hq => ?_) (fun hq => ?_)) <;> (try simp only [zA, zE, zD, zJ, zB, zI, Int.not_le, Int.not_lt] at hq)) | (with_reducible first | refine Fits.in64 (by omega) ?_ | refine FIdx.nat (by omega) ?_ | refine FIdx.int (by omega) ?_ | refine FTo.nat (by omega) ?_ | refine FTo.int (by omega) ?_) | ((with_reducible refine Need.mk ?_ ?_); focus exact needA) | (with_reducible first | refine FBit.hasT rfl (by assumption) ?_ | refine FBit.hasF rfl (by assumption) ?_ | refine FBit.shrN rfl (by omega) ?_ | refine FBit.half rfl ?_ | refine FBit.shl1 rfl (by omega) ?_ | refine Fits.inU (by omega) ?_ | refine FBit.shrNI rfl (by omega) ?_ | refine FBit.shrIN rfl (by omega) (by omega) ?_ | refine FBit.shrI rfl (by omega) (by omega) ?_ | refine FBit.shl1I rfl (by omega) ?_) | (with_reducible refine FBit.has rfl (fun hq => ?_) (fun hq => ?_)) | (with_reducible first | refine FBit.and1 rfl ?_ | refine FBit.andN rfl (by omega) (by omega) ?_ | refine FBit.orN rfl (by omega) (by omega) ?_ | refine FBit.andNotN rfl (by omega) (by omega) ?_) | (with_reducible refine FApp.grow ?_) | (with_reducible refine FOr.pub ?_)))
    all_goals (try (conv => whnf))
    refine FLoop.of (ACalls.mono _) (X := Nat) (fun c => [(1, .ptr 0 0), (4, aRow N (lst s s.T)), (5, AI (minK s m)), (6, AI m), (7, AI (lst s s.T m + offC s m c)), (8, AI c)]) (fun c => [.box 3 (cStd f s)]) (fun c => c ≤ s.rg.length) (fun c => s.rg.length - c) 0
      ⟨Nat.zero_le _, [0], Cut.A, ⟨Ln.A, Ln.A, Ln.A, Ln.A, Ln.int (by simp only [offC]; omega), Ln.A, True.intro⟩⟩ ?_
    intro c hc
    by_cases hltc : c < s.rg.length
    · have cH := has_ok m c (by omega)
      have hS1 := offC_bd hs (S := m) c (by show c ≤ s.rg.length; omega)
      have hS2 := offC_bd hs (S := m) (c + 1) (by show c + 1 ≤ s.rg.length; omega)
      cases hb : m.testBit c
      · rw [hb] at cH
        have hst : offC s m (c + 1) = offC s m c + costI s c (s.times - (s.R c).at_) := by simp only [offC]; rw [if_neg (by rw [hb]; decide)]
        have hr := hs.rg c hltc
        have cW := wait_ok f s hs c (-1) (by omega) hltc
        rw [show untilT s (-1) = s.times from if_pos (by omega)] at cW
        have cQ : ACall Try.prog 66 [aStd f s, AI c, AI (s.times - (s.R c).at_)] [] (fun r h => r = AI (costI s c (s.times - (s.R c).at_)) ∧ h = []) := cost_ok f s c _ (by omega) hltc
        (repeat' ((try (conv => whnf)); first | (with_reducible first | refine FCond.tA ?_ | refine FCond.fA ?_) | ((with_reducible refine FCond.i (fun hq => ?_) (fun hq => ?_)) <;> (try simp only [zA, zE, zD, zJ, zB, zI, Int.not_le, Int.not_lt] at hq)) | (with_reducible first | refine Fits.in64 (by omega) ?_ | refine FIdx.nat (by omega) ?_ | refine FIdx.int (by omega) ?_ | refine FTo.nat (by omega) ?_ | refine FTo.int (by omega) ?_) | ((with_reducible refine Need.mk ?_ ?_); focus exact needA) | (with_reducible first | refine FBit.hasT rfl (by assumption) ?_ | refine FBit.hasF rfl (by assumption) ?_ | refine FBit.shrN rfl (by omega) ?_ | refine FBit.half rfl ?_ | refine FBit.shl1 rfl (by omega) ?_ | refine Fits.inU (by omega) ?_ | refine FBit.shrNI rfl (by omega) ?_ | refine FBit.shrIN rfl (by omega) (by omega) ?_ | refine FBit.shrI rfl (by omega) (by omega) ?_ | refine FBit.shl1I rfl (by omega) ?_) | (with_reducible refine FBit.has rfl (fun hq => ?_) (fun hq => ?_)) | (with_reducible first | refine FBit.and1 rfl ?_ | refine FBit.andN rfl (by omega) (by omega) ?_ | refine FBit.orN rfl (by omega) (by omega) ?_ | refine FBit.andNotN rfl (by omega) (by omega) ?_) | (with_reducible refine FApp.grow ?_) | (refine FCall.pure (cH) ⟨Ln.sameB _ rfl, Ln.sameB _ rfl, True.intro⟩ rfl ?_) | (refine FCall.pure (cW) ⟨Ln.sameB _ rfl, Ln.sameB _ rfl, Ln.sameB _ rfl, True.intro⟩ rfl ?_) | (refine FCall.pure (cQ) ⟨Ln.sameB _ rfl, Ln.sameB _ rfl, Ln.sameB _ rfl, True.intro⟩ rfl ?_) | (with_reducible refine FOr.pub ?_)))
        all_goals (try (conv => whnf))
        exact ⟨⟨c + 1, hltc, by omega, [0], Cut.A, ⟨Ln.A, Ln.A, Ln.A, Ln.A, Ln.int (by rw [hst]; omega), Ln.A, True.intro⟩⟩⟩
      · rw [hb] at cH
        have hst : offC s m (c + 1) = offC s m c := by simp only [offC]; rw [if_pos hb]; omega
        (repeat' ((try (conv => whnf)); first | (with_reducible first | refine FCond.tA ?_ | refine FCond.fA ?_) | ((with_reducible refine FCond.i (fun hq => ?_) (fun hq => ?_)) <;> (try simp only [zA, zE, zD, zJ, zB, zI, Int.not_le, Int.not_lt] at hq)) | (with_reducible first | refine Fits.in64 (by omega) ?_ | refine FIdx.nat (by omega) ?_ | refine FIdx.int (by omega) ?_ | refine FTo.nat (by omega) ?_ | refine FTo.int (by omega) ?_) | ((with_reducible refine Need.mk ?_ ?_); focus exact needA) | (with_reducible first | refine FBit.hasT rfl (by assumption) ?_ | refine FBit.hasF rfl (by assumption) ?_ | refine FBit.shrN rfl (by omega) ?_ | refine FBit.half rfl ?_ | refine FBit.shl1 rfl (by omega) ?_ | refine Fits.inU (by omega) ?_ | refine FBit.shrNI rfl (by omega) ?_ | refine FBit.shrIN rfl (by omega) (by omega) ?_ | refine FBit.shrI rfl (by omega) (by omega) ?_ | refine FBit.shl1I rfl (by omega) ?_) | (with_reducible refine FBit.has rfl (fun hq => ?_) (fun hq => ?_)) | (with_reducible first | refine FBit.and1 rfl ?_ | refine FBit.andN rfl (by omega) (by omega) ?_ | refine FBit.orN rfl (by omega) (by omega) ?_ | refine FBit.andNotN rfl (by omega) (by omega) ?_) | (with_reducible refine FApp.grow ?_) | (refine FCall.pure (cH) ⟨Ln.sameB _ rfl, Ln.sameB _ rfl, True.intro⟩ rfl ?_) | (with_reducible refine FOr.pub ?_)))
        all_goals (try (conv => whnf))
        exact ⟨⟨c + 1, hltc, by omega, [0], Cut.A, ⟨Ln.A, Ln.A, Ln.A, Ln.A, Ln.int (by rw [hst]), Ln.A, True.intro⟩⟩⟩
    · obtain rfl : c = s.rg.length := by omega
      (repeat' ((try (conv => whnf)); first | (with_reducible first | refine FCond.tA ?_ | refine FCond.fA ?_) | ((with_reducible refine FCond.i (fun hq => ?_) (fun hq => ?_)) <;> (try simp only [zA, zE, zD, zJ, zB, zI, Int.not_le, Int.not_lt] at hq)) | (with_reducible first | refine Fits.in64 (by omega) ?_ | refine FIdx.nat (by omega) ?_ | refine FIdx.int (by omega) ?_ | refine FTo.nat (by omega) ?_ | refine FTo.int (by omega) ?_) | ((with_reducible refine Need.mk ?_ ?_); focus exact needA) | (with_reducible first | refine FBit.hasT rfl (by assumption) ?_ | refine FBit.hasF rfl (by assumption) ?_ | refine FBit.shrN rfl (by omega) ?_ | refine FBit.half rfl ?_ | refine FBit.shl1 rfl (by omega) ?_ | refine Fits.inU (by omega) ?_ | refine FBit.shrNI rfl (by omega) ?_ | refine FBit.shrIN rfl (by omega) (by omega) ?_ | refine FBit.shrI rfl (by omega) (by omega) ?_ | refine FBit.shl1I rfl (by omega) ?_) | (with_reducible refine FBit.has rfl (fun hq => ?_) (fun hq => ?_)) | (with_reducible first | refine FBit.and1 rfl ?_ | refine FBit.andN rfl (by omega) (by omega) ?_ | refine FBit.orN rfl (by omega) (by omega) ?_ | refine FBit.andNotN rfl (by omega) (by omega) ?_) | (with_reducible refine FApp.grow ?_) | (with_reducible refine FOr.pub ?_)))
      all_goals (try (conv => whnf))
      exact ⟨⟨m + 1, hlt, by omega, [0], Cut.A, allA⟩⟩
  · obtain rfl : m = N := by omega
    (repeat' ((try (conv => whnf)); first | (with_reducible first | refine FCond.tA ?_ | refine FCond.fA ?_) | ((with_reducible refine FCond.i (fun hq => ?_) (fun hq => ?_)) <;> (try simp only [zA, zE, zD, zJ, zB, zI, Int.not_le, Int.not_lt] at hq)) | (with_reducible first | refine Fits.in64 (by omega) ?_ | refine FIdx.nat (by omega) ?_ | refine FIdx.int (by omega) ?_ | refine FTo.nat (by omega) ?_ | refine FTo.int (by omega) ?_) | ((with_reducible refine Need.mk ?_ ?_); focus exact needA) | (with_reducible first | refine FBit.hasT rfl (by assumption) ?_ | refine FBit.hasF rfl (by assumption) ?_ | refine FBit.shrN rfl (by omega) ?_ | refine FBit.half rfl ?_ | refine FBit.shl1 rfl (by omega) ?_ | refine Fits.inU (by omega) ?_ | refine FBit.shrNI rfl (by omega) ?_ | refine FBit.shrIN rfl (by omega) (by omega) ?_ | refine FBit.shrI rfl (by omega) (by omega) ?_ | refine FBit.shl1I rfl (by omega) ?_) | (with_reducible refine FBit.has rfl (fun hq => ?_) (fun hq => ?_)) | (with_reducible first | refine FBit.and1 rfl ?_ | refine FBit.andN rfl (by omega) (by omega) ?_ | refine FBit.orN rfl (by omega) (by omega) ?_ | refine FBit.andNotN rfl (by omega) (by omega) ?_) | (with_reducible refine FApp.grow ?_) | (rw [q1]) | (rw [q2]) | (with_reducible refine FOr.pub ?_)))
    all_goals (try (conv => whnf))
    all_goals ((refine ⟨⟨_, [], [], Cut.nil _, Ln.sameB _ rfl, ?_, rfl⟩⟩); rfl)
end Go.Proofs.Ytnghcfmloljagaa

namespace Go.Proofs.Ytnghcfmloljagaa
open Go.RowKit

def refPlanE (s : Std) : Int × Int × Int := if s.ok then ((bestW s).u, (bestW s).o, 0) else (0, 0, 60)
theorem cntB_len (f : Nat → Bool) : ∀ c, cntB f c ≤ c
  | 0 => Nat.le_refl _
  | c + 1 => by
    have := cntB_len f c
    simp only [cntB]
    split <;> omega
theorem mostK_len (s : Std) (t : Nat) (u : Bool) : ∀ m, mostK s t u m ≤ s.C
  | 0 => Nat.zero_le _
  | m + 1 => by
    have ih := mostK_len s t u m
    have h : cntM s u m ≤ s.C := cntB_len _ _
    simp only [mostK]
    split <;> omega
theorem mute_rowI {s : Std} {i : Nat} {v : AV} (hi : i < s.sg.length) (hv : ∀ o, o < 3 → elemC v o = cSgn { s.S i with tongues := 0 } o) : ∀ k, k < s.sg.length → ∀ o, o < 3 → cSgn ((mute s i).sg.getD k sg0) o = updRm (fun k => cSgn (s.sg.getD k sg0)) i (elemC v) k o := fun k hk o ho => by
  unfold mute
  simp only [updRm]
  by_cases e : k = i
  · subst e
    rw [if_pos rfl, hv o ho]
    have : (s.sg.set k { s.S k with tongues := 0 }).getD k sg0 = { s.S k with tongues := 0 } := by simp [List.getD, hk]
    rw [this]
  · rw [if_neg e]
    have : (s.sg.set i { s.S i with tongues := 0 }).getD k sg0 = s.sg.getD k sg0 := by
      simp only [List.getD]
      rw [List.getElem?_set_ne (fun h => e h.symm)]
    rw [this]
set_option maxHeartbeats 8000000
set_option maxRecDepth 100000
theorem refPlan_ok (f : StF) (s : Std) (hn : NearS s) : ACall Try.prog 34 [aStd f s] [] (fun r h => r = .tup 3 (ofL [AI (refPlanE s).1, AI (refPlanE s).2.1, AI (refPlanE s).2.2]) ∧ h = []) := by
  have cC := refCheck_ok f s hn
  (refine fcall_of mixed Try.func34 rfl (by decide) (hs := {}) ?k (ac := ?ac) ?c (rs := ?rs) ?r ?l ?H; (case k => kernel_rfl); (case c => (conv => (lhs; cbv))); (case r => (conv => (lhs; cbv))); (case l => exact Nat.le_of_ble_eq_true rfl))
  cases hk : s.ok
  · rw [check_60 hk] at cC
    have e : refPlanE s = (0, 0, 60) := by unfold refPlanE; rw [hk]; rfl
    rw [e]
    (repeat' ((try (conv => whnf)); first | (with_reducible first | refine FCond.tA ?_ | refine FCond.fA ?_) | ((with_reducible refine FCond.i (fun hq => ?_) (fun hq => ?_)) <;> (try simp only [zA, zE, zD, zJ, zB, zI, Int.not_le, Int.not_lt] at hq)) | (with_reducible first | refine Fits.in64 (by omega) ?_ | refine FIdx.nat (by omega) ?_ | refine FIdx.int (by omega) ?_ | refine FTo.nat (by omega) ?_ | refine FTo.int (by omega) ?_) | ((with_reducible refine Need.mk ?_ ?_); focus exact needA) | (with_reducible refine FApp.grow ?_) | (refine FCall.pure (cC) ⟨Ln.sameB _ rfl, True.intro⟩ rfl ?_) | (with_reducible refine FOr.pub ?_)))
    all_goals (try (conv => whnf))
    all_goals ((refine ⟨⟨_, [], [], Cut.nil _, Ln.sameB _ rfl, ?_, rfl⟩⟩); rfl)
  · rw [check_ok' hk] at cC
    have e : refPlanE s = ((bestW s).u, (bestW s).o, 0) := by unfold refPlanE; rw [hk]; rfl
    rw [e]
    (repeat' ((try (conv => whnf)); first | (with_reducible first | refine FCond.tA ?_ | refine FCond.fA ?_) | ((with_reducible refine FCond.i (fun hq => ?_) (fun hq => ?_)) <;> (try simp only [zA, zE, zD, zJ, zB, zI, Int.not_le, Int.not_lt] at hq)) | (with_reducible first | refine Fits.in64 (by omega) ?_ | refine FIdx.nat (by omega) ?_ | refine FIdx.int (by omega) ?_ | refine FTo.nat (by omega) ?_ | refine FTo.int (by omega) ?_) | ((with_reducible refine Need.mk ?_ ?_); focus exact needA) | (with_reducible refine FApp.grow ?_) | (refine FCall.pure (cC) ⟨Ln.sameB _ rfl, True.intro⟩ rfl ?_) | (refine FCall.pure ((refBest_ok f s (std_d hk))) ⟨Ln.sameB _ rfl, True.intro⟩ rfl ?_) | (with_reducible refine FOr.pub ?_)))
    all_goals (try (conv => whnf))
    all_goals ((refine ⟨⟨_, [], [], Cut.nil _, Ln.sameB _ rfl, ?_, rfl⟩⟩); rfl)
theorem refMost_yes (f : StF) (s : Std) (hn : NearS s) (hk : s.ok = true) (t : Nat) (ht : t < s.T) (u : Bool) : ACall Try.prog 38 [aStd f s, AI t, .bool u] [] (fun r h => r = .tup 2 (ofL [AI (mostN s t u : Nat), AI 0]) ∧ h = []) := by
  have cT := checkTime_ok f s hn t
  have hs := std_d hk
  have tt := hs.t
  have c12 : s.rg.length ≤ 12 := hs.c12
  have hp := Nat.pow_le_pow_right (show 0 < 2 by decide) c12
  have t8 := hs.t8
  have cL := least_ok f s hs (t + 1) (by omega)
  rw [show checkT s (t : Int) = 0 from by unfold checkT; rw [if_pos hk, if_pos (by omega)]] at cT
  rw [← mostK_most hs t u]
  obtain ⟨N, hN⟩ : ∃ N, 2 ^ s.C = N := ⟨_, rfl⟩
  have hN' : N ≤ 4096 := by rw [← hN]; exact hp
  rw [hN] at cL ⊢
  (refine fcall_of mixed Try.func38 rfl (by decide) (hs := {}) ?k (ac := ?ac) ?c (rs := ?rs) ?r ?l ?H; (case k => kernel_rfl); (case c => (conv => (lhs; cbv))); (case r => (conv => (lhs; cbv))); (case l => exact Nat.le_of_ble_eq_true rfl))
  (repeat' ((try (conv => whnf)); first | (with_reducible first | refine FCond.tA ?_ | refine FCond.fA ?_) | ((with_reducible refine FCond.i (fun hq => ?_) (fun hq => ?_)) <;> (try simp only [zA, zE, zD, zJ, zB, zI, Int.not_le, Int.not_lt] at hq)) | (with_reducible first | refine Fits.in64 (by omega) ?_ | refine FIdx.nat (by omega) ?_ | refine FIdx.int (by omega) ?_ | refine FTo.nat (by omega) ?_ | refine FTo.int (by omega) ?_) | ((with_reducible refine Need.mk ?_ ?_); focus exact needA) | (with_reducible first | refine FBit.hasT rfl (by assumption) ?_ | refine FBit.hasF rfl (by assumption) ?_ | refine FBit.shrN rfl (by omega) ?_ | refine FBit.half rfl ?_ | refine FBit.shl1 rfl (by omega) ?_ | refine Fits.inU (by omega) ?_ | refine FBit.shrNI rfl (by omega) ?_ | refine FBit.shrIN rfl (by omega) (by omega) ?_ | refine FBit.shrI rfl (by omega) (by omega) ?_ | refine FBit.shl1I rfl (by omega) ?_) | (with_reducible refine FBit.has rfl (fun hq => ?_) (fun hq => ?_)) | (with_reducible first | refine FBit.and1 rfl ?_ | refine FBit.andN rfl (by omega) (by omega) ?_ | refine FBit.orN rfl (by omega) (by omega) ?_ | refine FBit.andNotN rfl (by omega) (by omega) ?_) | (with_reducible refine FApp.grow ?_) | (refine FCall.pure (cT) ⟨Ln.sameB _ rfl, Ln.sameB _ rfl, True.intro⟩ rfl ?_) | (refine FCall.pure (cL) ⟨Ln.sameB _ rfl, Ln.sameB _ rfl, True.intro⟩ rfl ?_) | (with_reducible refine FOr.pub ?_)))
  all_goals (try (conv => whnf))
  refine FLoop.of (ACalls.mono _) (X := Nat) (fun m => [(2, .bool u), (3, .ptr 0 0), (9, aRow N (lst s (t + 1))), (10, AI (mostK s t u m : Nat)), (11, AI m)]) (fun m => [.box 3 (cStd f s)]) (fun m => m ≤ N) (fun m => N - m) 0 ⟨Nat.zero_le _, [0], Cut.A, allA⟩ ?_
  intro m hm
  have hml := mostK_len s t u m
  have hcl : s.C = s.rg.length := rfl
  by_cases hlt : m < N
  · (repeat' ((try (conv => whnf)); first | (with_reducible first | refine FCond.tA ?_ | refine FCond.fA ?_) | ((with_reducible refine FCond.i (fun hq => ?_) (fun hq => ?_)) <;> (try simp only [zA, zE, zD, zJ, zB, zI, Int.not_le, Int.not_lt] at hq)) | (with_reducible first | refine Fits.in64 (by omega) ?_ | refine FIdx.nat (by omega) ?_ | refine FIdx.int (by omega) ?_ | refine FTo.nat (by omega) ?_ | refine FTo.int (by omega) ?_) | ((with_reducible refine Need.mk ?_ ?_); focus exact needA) | (with_reducible first | refine FBit.hasT rfl (by assumption) ?_ | refine FBit.hasF rfl (by assumption) ?_ | refine FBit.shrN rfl (by omega) ?_ | refine FBit.half rfl ?_ | refine FBit.shl1 rfl (by omega) ?_ | refine Fits.inU (by omega) ?_ | refine FBit.shrNI rfl (by omega) ?_ | refine FBit.shrIN rfl (by omega) (by omega) ?_ | refine FBit.shrI rfl (by omega) (by omega) ?_ | refine FBit.shl1I rfl (by omega) ?_) | (with_reducible refine FBit.has rfl (fun hq => ?_) (fun hq => ?_)) | (with_reducible first | refine FBit.and1 rfl ?_ | refine FBit.andN rfl (by omega) (by omega) ?_ | refine FBit.orN rfl (by omega) (by omega) ?_ | refine FBit.andNotN rfl (by omega) (by omega) ?_) | (with_reducible refine FApp.grow ?_) | (with_reducible refine FOr.pub ?_)))
    all_goals (try (conv => whnf))
    refine FLoop.of (ACalls.mono _) (X := Nat) (fun c => [(2, .bool u), (3, .ptr 0 0), (9, aRow N (lst s (t + 1))), (10, AI (mostK s t u m : Nat)), (11, AI m), (12, AI (cntB (fun c => m.testBit c && counts s u c) c : Nat)), (13, AI c)]) (fun c => [.box 3 (cStd f s)]) (fun c => c ≤ s.rg.length) (fun c => s.rg.length - c) 0 ⟨Nat.zero_le _, [0], Cut.A, allA⟩ ?_
    intro c hc
    have hcb := cntB_len (fun c => m.testBit c && counts s u c) c
    by_cases hltc : c < s.rg.length
    · have cH := has_ok m c (by omega)
      have cC := counts_ok f s u c hltc
      cases hb : m.testBit c
      · rw [hb] at cH
        have hst : cntB (fun c => m.testBit c && counts s u c) (c + 1) = cntB (fun c => m.testBit c && counts s u c) c := by
          simp [cntB, hb]
        (repeat' ((try (conv => whnf)); first | (with_reducible first | refine FCond.tA ?_ | refine FCond.fA ?_) | ((with_reducible refine FCond.i (fun hq => ?_) (fun hq => ?_)) <;> (try simp only [zA, zE, zD, zJ, zB, zI, Int.not_le, Int.not_lt] at hq)) | (with_reducible first | refine Fits.in64 (by omega) ?_ | refine FIdx.nat (by omega) ?_ | refine FIdx.int (by omega) ?_ | refine FTo.nat (by omega) ?_ | refine FTo.int (by omega) ?_) | ((with_reducible refine Need.mk ?_ ?_); focus exact needA) | (with_reducible first | refine FBit.hasT rfl (by assumption) ?_ | refine FBit.hasF rfl (by assumption) ?_ | refine FBit.shrN rfl (by omega) ?_ | refine FBit.half rfl ?_ | refine FBit.shl1 rfl (by omega) ?_ | refine Fits.inU (by omega) ?_ | refine FBit.shrNI rfl (by omega) ?_ | refine FBit.shrIN rfl (by omega) (by omega) ?_ | refine FBit.shrI rfl (by omega) (by omega) ?_ | refine FBit.shl1I rfl (by omega) ?_) | (with_reducible refine FBit.has rfl (fun hq => ?_) (fun hq => ?_)) | (with_reducible first | refine FBit.and1 rfl ?_ | refine FBit.andN rfl (by omega) (by omega) ?_ | refine FBit.orN rfl (by omega) (by omega) ?_ | refine FBit.andNotN rfl (by omega) (by omega) ?_) | (with_reducible refine FApp.grow ?_) | (refine FCall.pure (cH) ⟨Ln.sameB _ rfl, Ln.sameB _ rfl, True.intro⟩ rfl ?_) | (with_reducible refine FOr.pub ?_)))
        all_goals (try (conv => whnf))
        exact ⟨⟨c + 1, hltc, by omega, [0], Cut.A, ⟨Ln.A, Ln.A, Ln.A, Ln.A, Ln.A, Ln.int (by rw [hst]), Ln.A, True.intro⟩⟩⟩
      · rw [hb] at cH
        cases hq7 : counts s u c
        · rw [hq7] at cC
          have hst : cntB (fun c => m.testBit c && counts s u c) (c + 1) = cntB (fun c => m.testBit c && counts s u c) c := by
            simp [cntB, hq7]
          (repeat' ((try (conv => whnf)); first | (with_reducible first | refine FCond.tA ?_ | refine FCond.fA ?_) | ((with_reducible refine FCond.i (fun hq => ?_) (fun hq => ?_)) <;> (try simp only [zA, zE, zD, zJ, zB, zI, Int.not_le, Int.not_lt] at hq)) | (with_reducible first | refine Fits.in64 (by omega) ?_ | refine FIdx.nat (by omega) ?_ | refine FIdx.int (by omega) ?_ | refine FTo.nat (by omega) ?_ | refine FTo.int (by omega) ?_) | ((with_reducible refine Need.mk ?_ ?_); focus exact needA) | (with_reducible first | refine FBit.hasT rfl (by assumption) ?_ | refine FBit.hasF rfl (by assumption) ?_ | refine FBit.shrN rfl (by omega) ?_ | refine FBit.half rfl ?_ | refine FBit.shl1 rfl (by omega) ?_ | refine Fits.inU (by omega) ?_ | refine FBit.shrNI rfl (by omega) ?_ | refine FBit.shrIN rfl (by omega) (by omega) ?_ | refine FBit.shrI rfl (by omega) (by omega) ?_ | refine FBit.shl1I rfl (by omega) ?_) | (with_reducible refine FBit.has rfl (fun hq => ?_) (fun hq => ?_)) | (with_reducible first | refine FBit.and1 rfl ?_ | refine FBit.andN rfl (by omega) (by omega) ?_ | refine FBit.orN rfl (by omega) (by omega) ?_ | refine FBit.andNotN rfl (by omega) (by omega) ?_) | (with_reducible refine FApp.grow ?_) | (refine FCall.pure (cH) ⟨Ln.sameB _ rfl, Ln.sameB _ rfl, True.intro⟩ rfl ?_) | (refine FCall.pure (cC) ⟨Ln.sameB _ rfl, Ln.sameB _ rfl, Ln.sameB _ rfl, True.intro⟩ rfl ?_) | (with_reducible refine FOr.pub ?_)))
          all_goals (try (conv => whnf))
          exact ⟨⟨c + 1, hltc, by omega, [0], Cut.A, ⟨Ln.A, Ln.A, Ln.A, Ln.A, Ln.A, Ln.int (by rw [hst]), Ln.A, True.intro⟩⟩⟩
        · rw [hq7] at cC
          have hst : cntB (fun c => m.testBit c && counts s u c) (c + 1) = cntB (fun c => m.testBit c && counts s u c) c + 1 := by
            simp [cntB, hq7, hb]
          (repeat' ((try (conv => whnf)); first | (with_reducible first | refine FCond.tA ?_ | refine FCond.fA ?_) | ((with_reducible refine FCond.i (fun hq => ?_) (fun hq => ?_)) <;> (try simp only [zA, zE, zD, zJ, zB, zI, Int.not_le, Int.not_lt] at hq)) | (with_reducible first | refine Fits.in64 (by omega) ?_ | refine FIdx.nat (by omega) ?_ | refine FIdx.int (by omega) ?_ | refine FTo.nat (by omega) ?_ | refine FTo.int (by omega) ?_) | ((with_reducible refine Need.mk ?_ ?_); focus exact needA) | (with_reducible first | refine FBit.hasT rfl (by assumption) ?_ | refine FBit.hasF rfl (by assumption) ?_ | refine FBit.shrN rfl (by omega) ?_ | refine FBit.half rfl ?_ | refine FBit.shl1 rfl (by omega) ?_ | refine Fits.inU (by omega) ?_ | refine FBit.shrNI rfl (by omega) ?_ | refine FBit.shrIN rfl (by omega) (by omega) ?_ | refine FBit.shrI rfl (by omega) (by omega) ?_ | refine FBit.shl1I rfl (by omega) ?_) | (with_reducible refine FBit.has rfl (fun hq => ?_) (fun hq => ?_)) | (with_reducible first | refine FBit.and1 rfl ?_ | refine FBit.andN rfl (by omega) (by omega) ?_ | refine FBit.orN rfl (by omega) (by omega) ?_ | refine FBit.andNotN rfl (by omega) (by omega) ?_) | (with_reducible refine FApp.grow ?_) | (refine FCall.pure (cH) ⟨Ln.sameB _ rfl, Ln.sameB _ rfl, True.intro⟩ rfl ?_) | (refine FCall.pure (cC) ⟨Ln.sameB _ rfl, Ln.sameB _ rfl, Ln.sameB _ rfl, True.intro⟩ rfl ?_) | (with_reducible refine FOr.pub ?_)))
          all_goals (try (conv => whnf))
          exact ⟨⟨c + 1, hltc, by omega, [0], Cut.A, ⟨Ln.A, Ln.A, Ln.A, Ln.A, Ln.A, Ln.int (by rw [hst]; omega), Ln.A, True.intro⟩⟩⟩
    · obtain rfl : c = s.rg.length := by omega
      have e1 : cntB (fun c => m.testBit c && counts s u c) s.rg.length = cntM s u m := rfl
      by_cases hl : lst s (t + 1) m < 1000000
      · have hst : mostK s t u (m + 1) = max (mostK s t u m) (cntM s u m) := by simp only [mostK]; rw [if_pos hl]
        (repeat' ((try (conv => whnf)); first | (with_reducible first | refine FCond.tA ?_ | refine FCond.fA ?_) | ((with_reducible refine FCond.i (fun hq => ?_) (fun hq => ?_)) <;> (try simp only [zA, zE, zD, zJ, zB, zI, Int.not_le, Int.not_lt] at hq)) | (with_reducible first | refine Fits.in64 (by omega) ?_ | refine FIdx.nat (by omega) ?_ | refine FIdx.int (by omega) ?_ | refine FTo.nat (by omega) ?_ | refine FTo.int (by omega) ?_) | ((with_reducible refine Need.mk ?_ ?_); focus exact needA) | (with_reducible first | refine FBit.hasT rfl (by assumption) ?_ | refine FBit.hasF rfl (by assumption) ?_ | refine FBit.shrN rfl (by omega) ?_ | refine FBit.half rfl ?_ | refine FBit.shl1 rfl (by omega) ?_ | refine Fits.inU (by omega) ?_ | refine FBit.shrNI rfl (by omega) ?_ | refine FBit.shrIN rfl (by omega) (by omega) ?_ | refine FBit.shrI rfl (by omega) (by omega) ?_ | refine FBit.shl1I rfl (by omega) ?_) | (with_reducible refine FBit.has rfl (fun hq => ?_) (fun hq => ?_)) | (with_reducible first | refine FBit.and1 rfl ?_ | refine FBit.andN rfl (by omega) (by omega) ?_ | refine FBit.orN rfl (by omega) (by omega) ?_ | refine FBit.andNotN rfl (by omega) (by omega) ?_) | (with_reducible refine FApp.grow ?_) | (with_reducible refine FOr.pub ?_)))
        all_goals (try (conv => whnf))
        exact ⟨⟨m + 1, hlt, by omega, [0], Cut.A, ⟨Ln.A, Ln.A, Ln.A, Ln.int (by rw [hst]; rw [e1]; omega), Ln.A, True.intro⟩⟩⟩
      · have hst : mostK s t u (m + 1) = mostK s t u m := by simp only [mostK]; rw [if_neg hl]
        (repeat' ((try (conv => whnf)); first | (with_reducible first | refine FCond.tA ?_ | refine FCond.fA ?_) | ((with_reducible refine FCond.i (fun hq => ?_) (fun hq => ?_)) <;> (try simp only [zA, zE, zD, zJ, zB, zI, Int.not_le, Int.not_lt] at hq)) | (with_reducible first | refine Fits.in64 (by omega) ?_ | refine FIdx.nat (by omega) ?_ | refine FIdx.int (by omega) ?_ | refine FTo.nat (by omega) ?_ | refine FTo.int (by omega) ?_) | ((with_reducible refine Need.mk ?_ ?_); focus exact needA) | (with_reducible first | refine FBit.hasT rfl (by assumption) ?_ | refine FBit.hasF rfl (by assumption) ?_ | refine FBit.shrN rfl (by omega) ?_ | refine FBit.half rfl ?_ | refine FBit.shl1 rfl (by omega) ?_ | refine Fits.inU (by omega) ?_ | refine FBit.shrNI rfl (by omega) ?_ | refine FBit.shrIN rfl (by omega) (by omega) ?_ | refine FBit.shrI rfl (by omega) (by omega) ?_ | refine FBit.shl1I rfl (by omega) ?_) | (with_reducible refine FBit.has rfl (fun hq => ?_) (fun hq => ?_)) | (with_reducible first | refine FBit.and1 rfl ?_ | refine FBit.andN rfl (by omega) (by omega) ?_ | refine FBit.orN rfl (by omega) (by omega) ?_ | refine FBit.andNotN rfl (by omega) (by omega) ?_) | (with_reducible refine FApp.grow ?_) | (with_reducible refine FOr.pub ?_)))
        all_goals (try (conv => whnf))
        exact ⟨⟨m + 1, hlt, by omega, [0], Cut.A, ⟨Ln.A, Ln.A, Ln.A, Ln.int (by rw [hst]), Ln.A, True.intro⟩⟩⟩
  · obtain rfl : m = N := by omega
    (repeat' ((try (conv => whnf)); first | (with_reducible first | refine FCond.tA ?_ | refine FCond.fA ?_) | ((with_reducible refine FCond.i (fun hq => ?_) (fun hq => ?_)) <;> (try simp only [zA, zE, zD, zJ, zB, zI, Int.not_le, Int.not_lt] at hq)) | (with_reducible first | refine Fits.in64 (by omega) ?_ | refine FIdx.nat (by omega) ?_ | refine FIdx.int (by omega) ?_ | refine FTo.nat (by omega) ?_ | refine FTo.int (by omega) ?_) | ((with_reducible refine Need.mk ?_ ?_); focus exact needA) | (with_reducible first | refine FBit.hasT rfl (by assumption) ?_ | refine FBit.hasF rfl (by assumption) ?_ | refine FBit.shrN rfl (by omega) ?_ | refine FBit.half rfl ?_ | refine FBit.shl1 rfl (by omega) ?_ | refine Fits.inU (by omega) ?_ | refine FBit.shrNI rfl (by omega) ?_ | refine FBit.shrIN rfl (by omega) (by omega) ?_ | refine FBit.shrI rfl (by omega) (by omega) ?_ | refine FBit.shl1I rfl (by omega) ?_) | (with_reducible refine FBit.has rfl (fun hq => ?_) (fun hq => ?_)) | (with_reducible first | refine FBit.and1 rfl ?_ | refine FBit.andN rfl (by omega) (by omega) ?_ | refine FBit.orN rfl (by omega) (by omega) ?_ | refine FBit.andNotN rfl (by omega) (by omega) ?_) | (with_reducible refine FApp.grow ?_) | (with_reducible refine FOr.pub ?_)))
    all_goals (try (conv => whnf))
    all_goals ((refine ⟨⟨_, [], [], Cut.nil _, Ln.sameB _ rfl, ?_, rfl⟩⟩); rfl)
theorem refMost_no (f : StF) (s : Std) (hn : NearS s) (t : Int) (u : Bool) (h : checkT s t ≠ 0) : ACall Try.prog 38 [aStd f s, AI t, .bool u] [] (fun r h => r = .tup 2 (ofL [AI 0, AI (checkT s t)]) ∧ h = []) := by
  have cT := checkTime_ok f s hn t
  (refine fcall_of mixed Try.func38 rfl (by decide) (hs := {}) ?k (ac := ?ac) ?c (rs := ?rs) ?r ?l ?H; (case k => kernel_rfl); (case c => (conv => (lhs; cbv))); (case r => (conv => (lhs; cbv))); (case l => exact Nat.le_of_ble_eq_true rfl))
  (repeat' ((try (conv => whnf)); first | (with_reducible first | refine FCond.tA ?_ | refine FCond.fA ?_) | ((with_reducible refine FCond.i (fun hq => ?_) (fun hq => ?_)) <;> (try simp only [zA, zE, zD, zJ, zB, zI, Int.not_le, Int.not_lt] at hq)) | (with_reducible first | refine Fits.in64 (by omega) ?_ | refine FIdx.nat (by omega) ?_ | refine FIdx.int (by omega) ?_ | refine FTo.nat (by omega) ?_ | refine FTo.int (by omega) ?_) | ((with_reducible refine Need.mk ?_ ?_); focus exact needA) | (with_reducible first | refine FBit.hasT rfl (by assumption) ?_ | refine FBit.hasF rfl (by assumption) ?_ | refine FBit.shrN rfl (by omega) ?_ | refine FBit.half rfl ?_ | refine FBit.shl1 rfl (by omega) ?_ | refine Fits.inU (by omega) ?_ | refine FBit.shrNI rfl (by omega) ?_ | refine FBit.shrIN rfl (by omega) (by omega) ?_ | refine FBit.shrI rfl (by omega) (by omega) ?_ | refine FBit.shl1I rfl (by omega) ?_) | (with_reducible refine FBit.has rfl (fun hq => ?_) (fun hq => ?_)) | (with_reducible first | refine FBit.and1 rfl ?_ | refine FBit.andN rfl (by omega) (by omega) ?_ | refine FBit.orN rfl (by omega) (by omega) ?_ | refine FBit.andNotN rfl (by omega) (by omega) ?_) | (with_reducible refine FApp.grow ?_) | (refine FCall.pure (cT) ⟨Ln.sameB _ rfl, Ln.sameB _ rfl, True.intro⟩ rfl ?_) | (with_reducible refine FOr.pub ?_)))
  all_goals (try (conv => whnf))
  all_goals ((refine ⟨⟨_, [], [], Cut.nil _, Ln.sameB _ rfl, ?_, rfl⟩⟩); rfl)
theorem refMute_ok (f : StF) (s : Std) (hn : NearS s) (i : Nat) (hi : i < s.sg.length) : ACall Try.prog 48 [aStd f s, AI i] [] (fun v h => v = aStd ⟨false, false, false, decide (s.rg.length = 0)⟩ (mute s i) ∧ h = []) := by
  have cK := copyG_ok f s hn (by omega)
  (refine fcall_of mixed Try.func48 rfl (by decide) (hs := {}) ?k (ac := ?ac) ?c (rs := ?rs) ?r ?l ?H; (case k => kernel_rfl); (case c => (conv => (lhs; cbv))); (case r => (conv => (lhs; cbv))); (case l => exact Nat.le_of_ble_eq_true rfl))
  (repeat' ((try (conv => whnf)); first | (with_reducible first | refine FCond.tA ?_ | refine FCond.fA ?_) | ((with_reducible refine FCond.i (fun hq => ?_) (fun hq => ?_)) <;> (try simp only [zA, zE, zD, zJ, zB, zI, Int.not_le, Int.not_lt] at hq)) | (with_reducible first | refine Fits.in64 (by omega) ?_ | refine FIdx.nat (by omega) ?_ | refine FIdx.int (by omega) ?_ | refine FTo.nat (by omega) ?_ | refine FTo.int (by omega) ?_) | ((with_reducible refine Need.mk ?_ ?_); focus exact needA) | (with_reducible first | refine FBit.hasT rfl (by assumption) ?_ | refine FBit.hasF rfl (by assumption) ?_ | refine FBit.shrN rfl (by omega) ?_ | refine FBit.half rfl ?_ | refine FBit.shl1 rfl (by omega) ?_ | refine Fits.inU (by omega) ?_ | refine FBit.shrNI rfl (by omega) ?_ | refine FBit.shrIN rfl (by omega) (by omega) ?_ | refine FBit.shrI rfl (by omega) (by omega) ?_ | refine FBit.shl1I rfl (by omega) ?_) | (with_reducible refine FBit.has rfl (fun hq => ?_) (fun hq => ?_)) | (with_reducible first | refine FBit.and1 rfl ?_ | refine FBit.andN rfl (by omega) (by omega) ?_ | refine FBit.orN rfl (by omega) (by omega) ?_ | refine FBit.andNotN rfl (by omega) (by omega) ?_) | (with_reducible refine FApp.grow ?_) | ((refine FCall.give [] [] (cK) rfl rfl True.intro ⟨Ln.A, True.intro⟩ ?_); rintro _ _ ⟨rfl, rfl⟩; (refine ⟨by first | exact Nat.le_of_ble_eq_true rfl | omega, .inl rfl, ?_⟩)) | (with_reducible refine FOr.pub ?_)))
  all_goals (try (conv => whnf))
  exact ⟨⟨aStd ⟨false, false, false, decide (s.rg.length = 0)⟩ (mute s i), [], [], Cut.nil _, Ln.aggN ⟨⟨⟨True.intro, Ln.A⟩, Ln.pubE (goneB rfl) rfl (Nat.le_refl _) (by show _ = (s.sg.set _ _).length; rw [List.length_set]) (mute_rowI hi fun o ho => by rcases (show o = 0 ∨ o = 1 ∨ o = 2 by omega) with rfl | rfl | rfl <;> rfl)⟩, Ln.A⟩, rfl, rfl⟩⟩
theorem refMost_ok (f : StF) (s : Std) (hn : NearS s) (t : Int) (u : Bool) : ACall Try.prog 38 [aStd f s, AI t, .bool u] [] (fun r h => r = mostV s t u ∧ h = []) := by
  by_cases h : checkT s t = 0
  · unfold checkT at h
    by_cases hk : s.ok = true
    · rw [if_pos hk] at h
      by_cases ht : 0 ≤ t ∧ t < s.times
      · have hs := std_d hk
        have tt := hs.t
        have := refMost_yes f s hn hk t.toNat (by omega) u
        rw [Int.toNat_of_nonneg ht.1] at this
        unfold mostV mostE
        rw [if_pos hk, if_pos ht]
        exact this
      · rw [if_neg ht] at h; cases h
    · rw [if_neg hk] at h; cases h
  · have := refMost_no f s hn t u h
    have e : mostE s t u = (0, checkT s t) := by
      unfold mostE checkT at *
      by_cases hk : s.ok = true
      · rw [if_pos hk] at h ⊢
        by_cases ht : 0 ≤ t ∧ t < s.times
        · rw [if_pos ht] at h; exact (h rfl).elim
        · rw [if_neg ht, if_pos hk, if_neg ht]
      · rw [if_neg hk, if_neg hk]
    unfold mostV
    rw [e]
    exact this
theorem refVital_1 (f : StF) (s : Std) (hn : NearS s) (hk : s.ok = true) : ACall Try.prog 28 [aStd f s] [] (fun r h => r = .tup 2 (ofL [outI (vitK s s.n), AI 0]) ∧ h = []) := by
  have hs := std_d hk
  have cC := refCheck_ok f s hn
  rw [check_ok' hk] at cC
  have cB := refBest_ok f s hs
  have n4 : s.sg.length ≤ 4 := hs.n4
  have hb0 := best_o hs
  (refine fcall_of mixed Try.func28 rfl (by decide) (hs := {}) ?k (ac := ?ac) ?c (rs := ?rs) ?r ?l ?H; (case k => kernel_rfl); (case c => (conv => (lhs; cbv))); (case r => (conv => (lhs; cbv))); (case l => exact Nat.le_of_ble_eq_true rfl))
  (repeat' ((try (conv => whnf)); first | (with_reducible first | refine FCond.tA ?_ | refine FCond.fA ?_) | ((with_reducible refine FCond.i (fun hq => ?_) (fun hq => ?_)) <;> (try simp only [zA, zE, zD, zJ, zB, zI, Int.not_le, Int.not_lt] at hq)) | (with_reducible first | refine Fits.in64 (by omega) ?_ | refine FIdx.nat (by omega) ?_ | refine FIdx.int (by omega) ?_ | refine FTo.nat (by omega) ?_ | refine FTo.int (by omega) ?_) | ((with_reducible refine Need.mk ?_ ?_); focus exact needA) | (with_reducible refine FApp.grow ?_) | (refine FCall.pure (cC) ⟨Ln.sameB _ rfl, True.intro⟩ rfl ?_) | (refine FCall.pure (cB) ⟨Ln.sameB _ rfl, True.intro⟩ rfl ?_) | (with_reducible refine FOr.pub ?_)))
  all_goals (try (conv => whnf))
  refine FLoop.of (ACalls.mono _) (X := Nat × List Int) (fun x => [(1, .ptr 0 0), (4, AI (bestW s).u), (6, oI 1 x.2), (7, AI x.1)]) (fun x => hI1 (.box 3 (cStd f s)) x.2) (fun x => x.1 ≤ s.sg.length ∧ x.2 = vitK s (x.1)) (fun x => s.sg.length - x.1) (0, []) ⟨⟨Nat.zero_le _, rfl⟩, [0], Cut.A, allA⟩ ?_
  rintro ⟨t, l⟩ ⟨ht, hl⟩
  simp only at ht hl
  by_cases hlt : t < s.sg.length
  · have hst := vitK_succ s t
    rw [← hl] at hst
    have hll := vitK_len s t
    rw [← hl] at hll
    have hw := mute_ok hk hlt
    have cM := refMute_ok f s hn t hlt
    have cW := refBest_ok ⟨false, false, false, decide (s.rg.length = 0)⟩ (mute s t) (std_d hw)
    have hb1 := best_o (std_d hw)
    by_cases hcmp : (bestW s).u < (bestW (mute s t)).u
    · skip
      rw [if_pos hcmp] at hst
      rcases l with _ | ⟨x, xs⟩
      · (repeat' ((try (conv => whnf)); first | (with_reducible first | refine FCond.tA ?_ | refine FCond.fA ?_) | ((with_reducible refine FCond.i (fun hq => ?_) (fun hq => ?_)) <;> (try simp only [zA, zE, zD, zJ, zB, zI, Int.not_le, Int.not_lt] at hq)) | (with_reducible first | refine Fits.in64 (by omega) ?_ | refine FIdx.nat (by omega) ?_ | refine FIdx.int (by omega) ?_ | refine FTo.nat (by omega) ?_ | refine FTo.int (by omega) ?_) | ((with_reducible refine Need.mk ?_ ?_); focus exact needA) | (with_reducible refine FApp.grow ?_) | (refine FCall.pure (cM) ⟨Ln.sameB _ rfl, Ln.sameB _ rfl, True.intro⟩ rfl ?_) | (refine FCall.pure (cW) ⟨Ln.sameB _ rfl, True.intro⟩ rfl ?_) | (with_reducible refine FOr.pub ?_)))
        all_goals (try (conv => whnf))
        exact ⟨⟨(t + 1, [(t : Int)]), ⟨hlt, hst.symm⟩, by show _ < _; simp only; omega, [0, 1], Cut.of (Nat.le_of_ble_eq_true rfl) rfl rfl (CutL.turned rfl LnB.A (CutL.turned rfl (LnB.app (fun k hk => absurd hk (Nat.not_lt_zero k)) (fun o ho => by obtain rfl : o = 0 := (by omega); rfl)) CutL.done)), allA⟩⟩
      · simp only [List.length_cons] at hll
        (repeat' ((try (conv => whnf)); first | (with_reducible first | refine FCond.tA ?_ | refine FCond.fA ?_) | ((with_reducible refine FCond.i (fun hq => ?_) (fun hq => ?_)) <;> (try simp only [zA, zE, zD, zJ, zB, zI, Int.not_le, Int.not_lt] at hq)) | (with_reducible first | refine Fits.in64 (by omega) ?_ | refine FIdx.nat (by omega) ?_ | refine FIdx.int (by omega) ?_ | refine FTo.nat (by omega) ?_ | refine FTo.int (by omega) ?_) | ((with_reducible refine Need.mk ?_ ?_); focus exact needA) | (with_reducible refine FApp.grow ?_) | (refine FCall.pure (cM) ⟨Ln.sameB _ rfl, Ln.sameB _ rfl, True.intro⟩ rfl ?_) | (refine FCall.pure (cW) ⟨Ln.sameB _ rfl, True.intro⟩ rfl ?_) | (with_reducible refine FOr.pub ?_)))
        all_goals (try (conv => whnf))
        exact ⟨⟨(t + 1, x :: (xs ++ [(t : Int)])), ⟨hlt, hst.symm⟩, by show _ < _; simp only; omega, [0, 2], Cut.of (Nat.le_of_ble_eq_true rfl) rfl rfl (CutL.turned rfl LnB.A (CutL.turned rfl LnB.snocI CutL.done)), ⟨Ln.A, Ln.A, Ln.ownE rfl (by simp), Ln.A, True.intro⟩⟩⟩
    · rw [if_neg hcmp] at hst
      rcases l with _ | ⟨x, xs⟩
      · (repeat' ((try (conv => whnf)); first | (with_reducible first | refine FCond.tA ?_ | refine FCond.fA ?_) | ((with_reducible refine FCond.i (fun hq => ?_) (fun hq => ?_)) <;> (try simp only [zA, zE, zD, zJ, zB, zI, Int.not_le, Int.not_lt] at hq)) | (with_reducible first | refine Fits.in64 (by omega) ?_ | refine FIdx.nat (by omega) ?_ | refine FIdx.int (by omega) ?_ | refine FTo.nat (by omega) ?_ | refine FTo.int (by omega) ?_) | ((with_reducible refine Need.mk ?_ ?_); focus exact needA) | (with_reducible refine FApp.grow ?_) | (refine FCall.pure (cM) ⟨Ln.sameB _ rfl, Ln.sameB _ rfl, True.intro⟩ rfl ?_) | (refine FCall.pure (cW) ⟨Ln.sameB _ rfl, True.intro⟩ rfl ?_) | (with_reducible refine FOr.pub ?_)))
        all_goals (try (conv => whnf))
        exact ⟨⟨(t + 1, []), ⟨hlt, hst.symm⟩, by show _ < _; simp only; omega, [0], Cut.A, allA⟩⟩
      · (repeat' ((try (conv => whnf)); first | (with_reducible first | refine FCond.tA ?_ | refine FCond.fA ?_) | ((with_reducible refine FCond.i (fun hq => ?_) (fun hq => ?_)) <;> (try simp only [zA, zE, zD, zJ, zB, zI, Int.not_le, Int.not_lt] at hq)) | (with_reducible first | refine Fits.in64 (by omega) ?_ | refine FIdx.nat (by omega) ?_ | refine FIdx.int (by omega) ?_ | refine FTo.nat (by omega) ?_ | refine FTo.int (by omega) ?_) | ((with_reducible refine Need.mk ?_ ?_); focus exact needA) | (with_reducible refine FApp.grow ?_) | (refine FCall.pure (cM) ⟨Ln.sameB _ rfl, Ln.sameB _ rfl, True.intro⟩ rfl ?_) | (refine FCall.pure (cW) ⟨Ln.sameB _ rfl, True.intro⟩ rfl ?_) | (with_reducible refine FOr.pub ?_)))
        all_goals (try (conv => whnf))
        exact ⟨⟨(t + 1, x :: xs), ⟨hlt, hst.symm⟩, by show _ < _; simp only; omega, [0, 1], Cut.A, allA⟩⟩
  · obtain rfl : t = s.sg.length := by omega
    rcases l with _ | ⟨x, xs⟩
    · (repeat' ((try (conv => whnf)); first | (with_reducible first | refine FCond.tA ?_ | refine FCond.fA ?_) | ((with_reducible refine FCond.i (fun hq => ?_) (fun hq => ?_)) <;> (try simp only [zA, zE, zD, zJ, zB, zI, Int.not_le, Int.not_lt] at hq)) | (with_reducible first | refine Fits.in64 (by omega) ?_ | refine FIdx.nat (by omega) ?_ | refine FIdx.int (by omega) ?_ | refine FTo.nat (by omega) ?_ | refine FTo.int (by omega) ?_) | ((with_reducible refine Need.mk ?_ ?_); focus exact needA) | (with_reducible refine FApp.grow ?_) | (with_reducible refine FOr.pub ?_)))
      all_goals (try (conv => whnf))
      rw [show vitK s s.n = _ from hl.symm]
      exact ⟨⟨_, [], [], Cut.nil _, allA, rfl, rfl⟩⟩
    · (repeat' ((try (conv => whnf)); first | (with_reducible first | refine FCond.tA ?_ | refine FCond.fA ?_) | ((with_reducible refine FCond.i (fun hq => ?_) (fun hq => ?_)) <;> (try simp only [zA, zE, zD, zJ, zB, zI, Int.not_le, Int.not_lt] at hq)) | (with_reducible first | refine Fits.in64 (by omega) ?_ | refine FIdx.nat (by omega) ?_ | refine FIdx.int (by omega) ?_ | refine FTo.nat (by omega) ?_ | refine FTo.int (by omega) ?_) | ((with_reducible refine Need.mk ?_ ?_); focus exact needA) | (with_reducible refine FApp.grow ?_) | (with_reducible refine FOr.pub ?_)))
      all_goals (try (conv => whnf))
      rw [show vitK s s.n = _ from hl.symm]
      exact ⟨⟨.tup 2 (ofL [outI (x :: xs), AI 0]), [], [], Cut.nil _, Ln.tupN ⟨⟨True.intro, Ln.pubE (goneB rfl) rfl (Nat.le_refl _) rfl (fun _ _ _ _ => rfl)⟩, Ln.A⟩, rfl, rfl⟩⟩
theorem freeQ {s : Std} {g t : Int} (ht : t ≤ s.times) : (bestW (wr s g t)).u = (bestW s).u ↔ (bestW (wr s g t)).u ≤ (bestW s).u := by
  have := wr_le (s := s) (g := g) ht
  omega
theorem refFree_1 (f : StF) (s : Std) (hn : NearS s) (hk : s.ok = true) (hc : s.C ≤ 11) (g : Int) (hg : 0 ≤ g ∧ g ≤ 4) : ACall Try.prog 29 [aStd f s, AI g] [] (fun r h => r = .tup 2 (ofL [outI (freeK s g s.T), AI 0]) ∧ h = []) := by
  have hs := std_d hk
  have tt := hs.t
  have t8 := hs.t8
  have cC := refCheck_ok f s hn
  rw [check_ok' hk] at cC
  have cI := within_ok g 0 4
  rw [show inB g 0 4 = true from decide_eq_true hg] at cI
  have cB := refBest_ok f s hs
  have n1 : 0 < s.sg.length := hs.n1
  have hb0 := best_o hs
  (refine fcall_of mixed Try.func29 rfl (by decide) (hs := {}) ?k (ac := ?ac) ?c (rs := ?rs) ?r ?l ?H; (case k => kernel_rfl); (case c => (conv => (lhs; cbv))); (case r => (conv => (lhs; cbv))); (case l => exact Nat.le_of_ble_eq_true rfl))
  (repeat' ((try (conv => whnf)); first | (with_reducible first | refine FCond.tA ?_ | refine FCond.fA ?_) | ((with_reducible refine FCond.i (fun hq => ?_) (fun hq => ?_)) <;> (try simp only [zA, zE, zD, zJ, zB, zI, Int.not_le, Int.not_lt] at hq)) | (with_reducible first | refine Fits.in64 (by omega) ?_ | refine FIdx.nat (by omega) ?_ | refine FIdx.int (by omega) ?_ | refine FTo.nat (by omega) ?_ | refine FTo.int (by omega) ?_) | ((with_reducible refine Need.mk ?_ ?_); focus exact needA) | (with_reducible refine FApp.grow ?_) | (refine FCall.pure (cC) ⟨Ln.sameB _ rfl, True.intro⟩ rfl ?_) | (refine FCall.pure (cI) ⟨Ln.sameB _ rfl, Ln.sameB _ rfl, Ln.sameB _ rfl, True.intro⟩ rfl ?_) | (refine FCall.pure (cB) ⟨Ln.sameB _ rfl, True.intro⟩ rfl ?_) | (with_reducible refine FOr.pub ?_)))
  all_goals (try (conv => whnf))
  refine FLoop.of (ACalls.mono _) (X := Nat × List Int) (fun x => [(1, AI g), (2, .ptr 0 0), (6, AI (bestW s).u), (8, oI 1 x.2), (9, AI x.1)]) (fun x => hI1 (.box 3 (cStd f s)) x.2) (fun x => x.1 ≤ s.T ∧ x.2 = freeK s g (x.1)) (fun x => s.T - x.1) (0, []) ⟨⟨Nat.zero_le _, rfl⟩, [0], Cut.A, allA⟩ ?_
  rintro ⟨t, l⟩ ⟨ht, hl⟩
  simp only at ht hl
  by_cases hlt : t < s.T
  · have hst := freeK_succ s g t
    rw [← hl] at hst
    have hll := freeK_len s g t
    rw [← hl] at hll
    have hw := wr_ok hk hc hg (show 0 ≤ (t : Int) ∧ (t : Int) ≤ s.times - 1 by omega)
    have cM := with_ok f s hn n1 g t
    have cW := refBest_ok f000 (wr s g t) (std_d hw)
    have hb1 := best_o (std_d hw)
    have hle := wr_le (s := s) (g := g) (t := t) (by omega)
    by_cases hcmp : (bestW (wr s g t)).u ≤ (bestW s).u
    · skip
      rw [if_pos hcmp] at hst
      rcases l with _ | ⟨x, xs⟩
      · (repeat' ((try (conv => whnf)); first | (with_reducible first | refine FCond.tA ?_ | refine FCond.fA ?_) | ((with_reducible refine FCond.i (fun hq => ?_) (fun hq => ?_)) <;> (try simp only [zA, zE, zD, zJ, zB, zI, Int.not_le, Int.not_lt] at hq)) | (with_reducible first | refine Fits.in64 (by omega) ?_ | refine FIdx.nat (by omega) ?_ | refine FIdx.int (by omega) ?_ | refine FTo.nat (by omega) ?_ | refine FTo.int (by omega) ?_) | ((with_reducible refine Need.mk ?_ ?_); focus exact needA) | (with_reducible refine FApp.grow ?_) | (refine FCall.pure (cM) ⟨Ln.sameB _ rfl, Ln.sameB _ rfl, Ln.sameB _ rfl, True.intro⟩ rfl ?_) | (refine FCall.pure (cW) ⟨Ln.sameB _ rfl, True.intro⟩ rfl ?_) | (with_reducible refine FOr.pub ?_)))
        all_goals (try (conv => whnf))
        exact ⟨⟨(t + 1, [(t : Int)]), ⟨hlt, hst.symm⟩, by show _ < _; simp only; omega, [0, 1], Cut.of (Nat.le_of_ble_eq_true rfl) rfl rfl (CutL.turned rfl LnB.A (CutL.turned rfl (LnB.app (fun k hk => absurd hk (Nat.not_lt_zero k)) (fun o ho => by obtain rfl : o = 0 := (by omega); rfl)) CutL.done)), allA⟩⟩
      · simp only [List.length_cons] at hll
        (repeat' ((try (conv => whnf)); first | (with_reducible first | refine FCond.tA ?_ | refine FCond.fA ?_) | ((with_reducible refine FCond.i (fun hq => ?_) (fun hq => ?_)) <;> (try simp only [zA, zE, zD, zJ, zB, zI, Int.not_le, Int.not_lt] at hq)) | (with_reducible first | refine Fits.in64 (by omega) ?_ | refine FIdx.nat (by omega) ?_ | refine FIdx.int (by omega) ?_ | refine FTo.nat (by omega) ?_ | refine FTo.int (by omega) ?_) | ((with_reducible refine Need.mk ?_ ?_); focus exact needA) | (with_reducible refine FApp.grow ?_) | (refine FCall.pure (cM) ⟨Ln.sameB _ rfl, Ln.sameB _ rfl, Ln.sameB _ rfl, True.intro⟩ rfl ?_) | (refine FCall.pure (cW) ⟨Ln.sameB _ rfl, True.intro⟩ rfl ?_) | (with_reducible refine FOr.pub ?_)))
        all_goals (try (conv => whnf))
        exact ⟨⟨(t + 1, x :: (xs ++ [(t : Int)])), ⟨hlt, hst.symm⟩, by show _ < _; simp only; omega, [0, 2], Cut.of (Nat.le_of_ble_eq_true rfl) rfl rfl (CutL.turned rfl LnB.A (CutL.turned rfl LnB.snocI CutL.done)), ⟨Ln.A, Ln.A, Ln.A, Ln.ownE rfl (by simp), Ln.A, True.intro⟩⟩⟩
    · rw [if_neg hcmp] at hst
      rcases l with _ | ⟨x, xs⟩
      · (repeat' ((try (conv => whnf)); first | (with_reducible first | refine FCond.tA ?_ | refine FCond.fA ?_) | ((with_reducible refine FCond.i (fun hq => ?_) (fun hq => ?_)) <;> (try simp only [zA, zE, zD, zJ, zB, zI, Int.not_le, Int.not_lt] at hq)) | (with_reducible first | refine Fits.in64 (by omega) ?_ | refine FIdx.nat (by omega) ?_ | refine FIdx.int (by omega) ?_ | refine FTo.nat (by omega) ?_ | refine FTo.int (by omega) ?_) | ((with_reducible refine Need.mk ?_ ?_); focus exact needA) | (with_reducible refine FApp.grow ?_) | (refine FCall.pure (cM) ⟨Ln.sameB _ rfl, Ln.sameB _ rfl, Ln.sameB _ rfl, True.intro⟩ rfl ?_) | (refine FCall.pure (cW) ⟨Ln.sameB _ rfl, True.intro⟩ rfl ?_) | (with_reducible refine FOr.pub ?_)))
        all_goals (try (conv => whnf))
        exact ⟨⟨(t + 1, []), ⟨hlt, hst.symm⟩, by show _ < _; simp only; omega, [0], Cut.A, allA⟩⟩
      · (repeat' ((try (conv => whnf)); first | (with_reducible first | refine FCond.tA ?_ | refine FCond.fA ?_) | ((with_reducible refine FCond.i (fun hq => ?_) (fun hq => ?_)) <;> (try simp only [zA, zE, zD, zJ, zB, zI, Int.not_le, Int.not_lt] at hq)) | (with_reducible first | refine Fits.in64 (by omega) ?_ | refine FIdx.nat (by omega) ?_ | refine FIdx.int (by omega) ?_ | refine FTo.nat (by omega) ?_ | refine FTo.int (by omega) ?_) | ((with_reducible refine Need.mk ?_ ?_); focus exact needA) | (with_reducible refine FApp.grow ?_) | (refine FCall.pure (cM) ⟨Ln.sameB _ rfl, Ln.sameB _ rfl, Ln.sameB _ rfl, True.intro⟩ rfl ?_) | (refine FCall.pure (cW) ⟨Ln.sameB _ rfl, True.intro⟩ rfl ?_) | (with_reducible refine FOr.pub ?_)))
        all_goals (try (conv => whnf))
        exact ⟨⟨(t + 1, x :: xs), ⟨hlt, hst.symm⟩, by show _ < _; simp only; omega, [0, 1], Cut.A, allA⟩⟩
  · obtain rfl : t = s.T := by omega
    rcases l with _ | ⟨x, xs⟩
    · (repeat' ((try (conv => whnf)); first | (with_reducible first | refine FCond.tA ?_ | refine FCond.fA ?_) | ((with_reducible refine FCond.i (fun hq => ?_) (fun hq => ?_)) <;> (try simp only [zA, zE, zD, zJ, zB, zI, Int.not_le, Int.not_lt] at hq)) | (with_reducible first | refine Fits.in64 (by omega) ?_ | refine FIdx.nat (by omega) ?_ | refine FIdx.int (by omega) ?_ | refine FTo.nat (by omega) ?_ | refine FTo.int (by omega) ?_) | ((with_reducible refine Need.mk ?_ ?_); focus exact needA) | (with_reducible refine FApp.grow ?_) | (with_reducible refine FOr.pub ?_)))
      all_goals (try (conv => whnf))
      rw [show freeK s g s.T = _ from hl.symm]
      exact ⟨⟨_, [], [], Cut.nil _, allA, rfl, rfl⟩⟩
    · (repeat' ((try (conv => whnf)); first | (with_reducible first | refine FCond.tA ?_ | refine FCond.fA ?_) | ((with_reducible refine FCond.i (fun hq => ?_) (fun hq => ?_)) <;> (try simp only [zA, zE, zD, zJ, zB, zI, Int.not_le, Int.not_lt] at hq)) | (with_reducible first | refine Fits.in64 (by omega) ?_ | refine FIdx.nat (by omega) ?_ | refine FIdx.int (by omega) ?_ | refine FTo.nat (by omega) ?_ | refine FTo.int (by omega) ?_) | ((with_reducible refine Need.mk ?_ ?_); focus exact needA) | (with_reducible refine FApp.grow ?_) | (with_reducible refine FOr.pub ?_)))
      all_goals (try (conv => whnf))
      rw [show freeK s g s.T = _ from hl.symm]
      exact ⟨⟨.tup 2 (ofL [outI (x :: xs), AI 0]), [], [], Cut.nil _, Ln.tupN ⟨⟨True.intro, Ln.pubE (goneB rfl) rfl (Nat.le_refl _) rfl (fun _ _ _ _ => rfl)⟩, Ln.A⟩, rfl, rfl⟩⟩
theorem refVital_0 (f : StF) (s : Std) (hn : NearS s) (hk : s.ok = false) : ACall Try.prog 28 [aStd f s] [] (fun r h => r = .tup 2 (ofL [nilS, AI 60]) ∧ h = []) := by
  have cC := refCheck_ok f s hn
  rw [check_60 hk] at cC
  (refine fcall_of mixed Try.func28 rfl (by decide) (hs := {}) ?k (ac := ?ac) ?c (rs := ?rs) ?r ?l ?H; (case k => kernel_rfl); (case c => (conv => (lhs; cbv))); (case r => (conv => (lhs; cbv))); (case l => exact Nat.le_of_ble_eq_true rfl))
  (repeat' ((try (conv => whnf)); first | (with_reducible first | refine FCond.tA ?_ | refine FCond.fA ?_) | ((with_reducible refine FCond.i (fun hq => ?_) (fun hq => ?_)) <;> (try simp only [zA, zE, zD, zJ, zB, zI, Int.not_le, Int.not_lt] at hq)) | (with_reducible first | refine Fits.in64 (by omega) ?_ | refine FIdx.nat (by omega) ?_ | refine FIdx.int (by omega) ?_ | refine FTo.nat (by omega) ?_ | refine FTo.int (by omega) ?_) | ((with_reducible refine Need.mk ?_ ?_); focus exact needA) | (with_reducible refine FApp.grow ?_) | (refine FCall.pure (cC) ⟨Ln.sameB _ rfl, True.intro⟩ rfl ?_) | (with_reducible refine FOr.pub ?_)))
  all_goals (try (conv => whnf))
  all_goals ((refine ⟨⟨_, [], [], Cut.nil _, Ln.sameB _ rfl, ?_, rfl⟩⟩); rfl)
theorem refVital_ok (f : StF) (s : Std) (hn : NearS s) : ACall Try.prog 28 [aStd f s] [] (fun r h => r = .tup 2 (ofL [outI (vitalE s).1, AI (vitalE s).2]) ∧ h = []) := by
  cases hk : s.ok
  · rw [show vitalE s = ([], 60) from by unfold vitalE; rw [hk]; rfl]
    exact refVital_0 f s hn hk
  · rw [show vitalE s = (vitK s s.n, 0) from by unfold vitalE; rw [hk]; rfl]
    exact refVital_1 f s hn hk
theorem refFree_0 (f : StF) (s : Std) (hn : NearS s) (g : Int) (h : ¬ (s.ok = true ∧ 0 ≤ g ∧ g ≤ 4)) : ACall Try.prog 29 [aStd f s, AI g] [] (fun r h => r = .tup 2 (ofL [outI (freeE s g).1, AI (freeE s g).2]) ∧ h = []) := by
  have cC := refCheck_ok f s hn
  have cI := within_ok g 0 4
  (refine fcall_of mixed Try.func29 rfl (by decide) (hs := {}) ?k (ac := ?ac) ?c (rs := ?rs) ?r ?l ?H; (case k => kernel_rfl); (case c => (conv => (lhs; cbv))); (case r => (conv => (lhs; cbv))); (case l => exact Nat.le_of_ble_eq_true rfl))
  cases hk : s.ok
  · rw [check_60 hk] at cC
    rw [show freeE s g = ([], 60) from by unfold freeE; rw [hk]; rfl]
    (repeat' ((try (conv => whnf)); first | (with_reducible first | refine FCond.tA ?_ | refine FCond.fA ?_) | ((with_reducible refine FCond.i (fun hq => ?_) (fun hq => ?_)) <;> (try simp only [zA, zE, zD, zJ, zB, zI, Int.not_le, Int.not_lt] at hq)) | (with_reducible first | refine Fits.in64 (by omega) ?_ | refine FIdx.nat (by omega) ?_ | refine FIdx.int (by omega) ?_ | refine FTo.nat (by omega) ?_ | refine FTo.int (by omega) ?_) | ((with_reducible refine Need.mk ?_ ?_); focus exact needA) | (with_reducible refine FApp.grow ?_) | (refine FCall.pure (cC) ⟨Ln.sameB _ rfl, True.intro⟩ rfl ?_) | (with_reducible refine FOr.pub ?_)))
    all_goals (try (conv => whnf))
    all_goals ((refine ⟨⟨_, [], [], Cut.nil _, Ln.sameB _ rfl, ?_, rfl⟩⟩); rfl)
  · rw [check_ok' hk] at cC
    have hg : ¬ (0 ≤ g ∧ g ≤ 4) := fun hg => h ⟨hk, hg⟩
    rw [show freeE s g = ([], 1) from by unfold freeE; rw [if_pos hk, if_neg hg]]
    rw [show inB g 0 4 = false from decide_eq_false hg] at cI
    (repeat' ((try (conv => whnf)); first | (with_reducible first | refine FCond.tA ?_ | refine FCond.fA ?_) | ((with_reducible refine FCond.i (fun hq => ?_) (fun hq => ?_)) <;> (try simp only [zA, zE, zD, zJ, zB, zI, Int.not_le, Int.not_lt] at hq)) | (with_reducible first | refine Fits.in64 (by omega) ?_ | refine FIdx.nat (by omega) ?_ | refine FIdx.int (by omega) ?_ | refine FTo.nat (by omega) ?_ | refine FTo.int (by omega) ?_) | ((with_reducible refine Need.mk ?_ ?_); focus exact needA) | (with_reducible refine FApp.grow ?_) | (refine FCall.pure (cC) ⟨Ln.sameB _ rfl, True.intro⟩ rfl ?_) | (refine FCall.pure (cI) ⟨Ln.sameB _ rfl, Ln.sameB _ rfl, Ln.sameB _ rfl, True.intro⟩ rfl ?_) | (with_reducible refine FOr.pub ?_)))
    all_goals (try (conv => whnf))
    all_goals ((refine ⟨⟨_, [], [], Cut.nil _, Ln.sameB _ rfl, ?_, rfl⟩⟩); rfl)
theorem refFree_ok (f : StF) (s : Std) (hn : NearS s) (hc : s.ok = true → s.C ≤ 11) (g : Int) : ACall Try.prog 29 [aStd f s, AI g] [] (fun r h => r = .tup 2 (ofL [outI (freeE s g).1, AI (freeE s g).2]) ∧ h = []) := by
  by_cases h : s.ok = true ∧ 0 ≤ g ∧ g ≤ 4
  · rw [show freeE s g = (freeK s g s.T, 0) from by unfold freeE; rw [if_pos h.1, if_pos h.2]]
    exact refFree_1 f s hn h.1 (hc h.1) g h.2
  · exact refFree_0 f s hn g h
end Go.Proofs.Ytnghcfmloljagaa

namespace Go.Proofs.Ytnghcfmloljagaa
open Go.RowKit

set_option maxHeartbeats 8000000
set_option maxRecDepth 100000
theorem outPair {F : FuncId} {xs : List AV} {l : List Int} {e : Int} (h : ACall Try.prog F xs [] (fun r h => r = .tup 2 (ofL [outI l, AI e]) ∧ h = [])) : ACall Try.prog F xs [] (fun r h => r = .tup 2 (ofL [aInts l.isEmpty l.isEmpty l, AI e]) ∧ h = []) := by
  refine ACall.wk (ACall.mono' _ ?_ h)
  rintro _ _ ⟨rfl, rfl⟩
  exact ⟨_, [], [], Cut.nil _, Ln.tupN ⟨⟨True.intro, Ln.out _⟩, Ln.A⟩, rfl, rfl⟩
theorem free_any (f : StF) (s : Std) (hM : Mach s) (g : Int) : ACall Try.prog 8 [aStd f s, AI g] [] (fun v h => v = .bool true ∧ h = []) := by
  have cF := far_ok f s hM.n hM.c
  (refine fcall_of mixed Try.func8 rfl (by decide) (hs := {}) ?k (ac := ?ac) ?c (rs := ?rs) ?r ?l ?H; (case k => kernel_rfl); (case c => (conv => (lhs; cbv))); (case r => (conv => (lhs; cbv))); (case l => exact Nat.le_of_ble_eq_true rfl))
  cases hf : farS s
  · rw [hf] at cF
    have hn := near_of hf
    have cC := refCheck_ok f s hn
    by_cases h5 : 5 < s.rg.length ∧ s.ok = true
    · rw [check_ok' h5.2] at cC
      have h5' := h5.1
      (repeat' ((try (conv => whnf)); first | (with_reducible first | refine FCond.tA ?_ | refine FCond.fA ?_) | ((with_reducible refine FCond.i (fun hq => ?_) (fun hq => ?_)) <;> (try simp only [zA, zE, zD, zJ, zB, zI, Int.not_le, Int.not_lt] at hq)) | (with_reducible first | refine Fits.in64 (by omega) ?_ | refine FIdx.nat (by omega) ?_ | refine FIdx.int (by omega) ?_ | refine FTo.nat (by omega) ?_ | refine FTo.int (by omega) ?_) | ((with_reducible refine Need.mk ?_ ?_); focus exact needA) | (with_reducible refine FApp.grow ?_) | (refine FCall.pure (cF) ⟨Ln.sameB _ rfl, True.intro⟩ rfl ?_) | (refine FCall.pure (cC) ⟨Ln.sameB _ rfl, True.intro⟩ rfl ?_) | (refine FCall.pure works_ok True.intro rfl ?_) | (with_reducible refine FOr.pub ?_)))
      all_goals (try (conv => whnf))
      all_goals ((refine ⟨⟨_, [], [], Cut.nil _, Ln.sameB _ rfl, ?_, rfl⟩⟩); rfl)
    · have hc : s.ok = true → s.C ≤ 11 := fun h => by
        have : ¬ 5 < s.rg.length := fun h' => h5 ⟨h', h⟩
        show s.rg.length ≤ 11
        omega
      have cK := copy_ok f s hn
      have v1 := outPair (vital_ok (flC s) s hn)
      have v2 := outPair (refVital_ok f s hn)
      have f1 := outPair (free_ok (flC s) s hn hc g)
      have f2 := outPair (refFree_ok f s hn hc g)
      have l1 : (vitalE s).1.length ≤ 1000000 := by
        unfold vitalE
        split
        · have := vitK_len s s.n
          have := hn.n
          have : s.n = s.sg.length := rfl
          simp only; omega
        · exact Nat.zero_le _
      have l2 : (freeE s g).1.length ≤ 1000000 := by
        unfold freeE
        split
        · rename_i hk
          split
          · have := freeK_len s g s.T
            have := (std_d hk).t8
            simp only; omega
          · exact Nat.zero_le _
        · exact Nat.zero_le _
      have s1 := fun z e z2 e2 => sameInts_ok z e z2 e2 (vitalE s).1 (vitalE s).1 l1
      have s2 := fun z e z2 e2 => sameInts_ok z e z2 e2 (freeE s g).1 (freeE s g).1 l2
      simp only [decide_true] at s1 s2
      by_cases h6 : 5 < s.rg.length
      · have hk : s.ok = false := by
          cases hk : s.ok
          · rfl
          · exact (h5 ⟨h6, hk⟩).elim
        rw [check_60 hk] at cC
        (repeat' ((try (conv => whnf)); first | (with_reducible first | refine FCond.tA ?_ | refine FCond.fA ?_) | ((with_reducible refine FCond.i (fun hq => ?_) (fun hq => ?_)) <;> (try simp only [zA, zE, zD, zJ, zB, zI, Int.not_le, Int.not_lt] at hq)) | (with_reducible first | refine Fits.in64 (by omega) ?_ | refine FIdx.nat (by omega) ?_ | refine FIdx.int (by omega) ?_ | refine FTo.nat (by omega) ?_ | refine FTo.int (by omega) ?_) | ((with_reducible refine Need.mk ?_ ?_); focus exact needA) | (with_reducible refine FApp.grow ?_) | (refine FCall.pure (cF) ⟨Ln.sameB _ rfl, True.intro⟩ rfl ?_) | (refine FCall.pure (cC) ⟨Ln.sameB _ rfl, True.intro⟩ rfl ?_) | (refine FCall.pure (cK) ⟨Ln.sameB _ rfl, True.intro⟩ rfl ?_) | (refine FCall.pure (v1) ⟨Ln.sameB _ rfl, True.intro⟩ rfl ?_) | (refine FCall.pure (v2) ⟨Ln.sameB _ rfl, True.intro⟩ rfl ?_) | (refine FCall.pure (f1) ⟨Ln.sameB _ rfl, Ln.sameB _ rfl, True.intro⟩ rfl ?_) | (refine FCall.pure (f2) ⟨Ln.sameB _ rfl, Ln.sameB _ rfl, True.intro⟩ rfl ?_) | (refine FCall.pure ((s1 _ _ _ _)) ⟨Ln.sameB _ rfl, Ln.sameB _ rfl, True.intro⟩ rfl ?_) | (refine FCall.pure ((s2 _ _ _ _)) ⟨Ln.sameB _ rfl, Ln.sameB _ rfl, True.intro⟩ rfl ?_) | (refine FCall.pure works_ok True.intro rfl ?_) | (with_reducible refine FOr.pub ?_)))
        all_goals (try (conv => whnf))
        all_goals ((refine ⟨⟨_, [], [], Cut.nil _, Ln.sameB _ rfl, ?_, rfl⟩⟩); rfl)
      · (repeat' ((try (conv => whnf)); first | (with_reducible first | refine FCond.tA ?_ | refine FCond.fA ?_) | ((with_reducible refine FCond.i (fun hq => ?_) (fun hq => ?_)) <;> (try simp only [zA, zE, zD, zJ, zB, zI, Int.not_le, Int.not_lt] at hq)) | (with_reducible first | refine Fits.in64 (by omega) ?_ | refine FIdx.nat (by omega) ?_ | refine FIdx.int (by omega) ?_ | refine FTo.nat (by omega) ?_ | refine FTo.int (by omega) ?_) | ((with_reducible refine Need.mk ?_ ?_); focus exact needA) | (with_reducible refine FApp.grow ?_) | (refine FCall.pure (cF) ⟨Ln.sameB _ rfl, True.intro⟩ rfl ?_) | (refine FCall.pure (cC) ⟨Ln.sameB _ rfl, True.intro⟩ rfl ?_) | (refine FCall.pure (cK) ⟨Ln.sameB _ rfl, True.intro⟩ rfl ?_) | (refine FCall.pure (v1) ⟨Ln.sameB _ rfl, True.intro⟩ rfl ?_) | (refine FCall.pure (v2) ⟨Ln.sameB _ rfl, True.intro⟩ rfl ?_) | (refine FCall.pure (f1) ⟨Ln.sameB _ rfl, Ln.sameB _ rfl, True.intro⟩ rfl ?_) | (refine FCall.pure (f2) ⟨Ln.sameB _ rfl, Ln.sameB _ rfl, True.intro⟩ rfl ?_) | (refine FCall.pure ((s1 _ _ _ _)) ⟨Ln.sameB _ rfl, Ln.sameB _ rfl, True.intro⟩ rfl ?_) | (refine FCall.pure ((s2 _ _ _ _)) ⟨Ln.sameB _ rfl, Ln.sameB _ rfl, True.intro⟩ rfl ?_) | (refine FCall.pure works_ok True.intro rfl ?_) | (with_reducible refine FOr.pub ?_)))
        all_goals (try (conv => whnf))
        all_goals ((refine ⟨⟨_, [], [], Cut.nil _, Ln.sameB _ rfl, ?_, rfl⟩⟩); rfl)
  · rw [hf] at cF
    (repeat' ((try (conv => whnf)); first | (with_reducible first | refine FCond.tA ?_ | refine FCond.fA ?_) | ((with_reducible refine FCond.i (fun hq => ?_) (fun hq => ?_)) <;> (try simp only [zA, zE, zD, zJ, zB, zI, Int.not_le, Int.not_lt] at hq)) | (with_reducible first | refine Fits.in64 (by omega) ?_ | refine FIdx.nat (by omega) ?_ | refine FIdx.int (by omega) ?_ | refine FTo.nat (by omega) ?_ | refine FTo.int (by omega) ?_) | ((with_reducible refine Need.mk ?_ ?_); focus exact needA) | (with_reducible refine FApp.grow ?_) | (refine FCall.pure (cF) ⟨Ln.sameB _ rfl, True.intro⟩ rfl ?_) | (refine FCall.pure works_ok True.intro rfl ?_) | (with_reducible refine FOr.pub ?_)))
    all_goals (try (conv => whnf))
    all_goals ((refine ⟨⟨_, [], [], Cut.nil _, Ln.sameB _ rfl, ?_, rfl⟩⟩); rfl)
end Go.Proofs.Ytnghcfmloljagaa
