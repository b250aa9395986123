/- Secrets: the reference's Agrees. / Secrets: CopyRows, as what is only read. / Secrets: Copy, as what is only read. / Secrets: amounts that agree, cuts, ways / Secrets: ways along which an amount is shifted / Secrets: the search for a way / Secrets: words for queues and ways in memory. / Secrets: words for rows of own rows and for the steps of a way. / Secrets: what Range, Safe and Other give. -/
import Derived.Test.YtlffjnmbpoemnaaBk7
set_option linter.unusedSimpArgs false
set_option linter.unusedVariables false
namespace Go.Proofs.Ytlffjnmbpoemnaa
open Go.RowKit

def cellB (s : Sheet) (m : List Int) (l : List (List Int)) (r c : Nat) : Bool := inB (at2 l r c) 0 40000 && (outS m r c || decide (at2 l r c = s.A r c))
def lineB (s : Sheet) (m : List Int) (l : List (List Int)) (r : Nat) : Bool := decide ((l.getD r []).length = s.C) && (List.range s.C).all (cellB s m l r)
/-- Amounts agree with a sheet and a mask. -/
def agreeB (s : Sheet) (m : List Int) (l : List (List Int)) : Bool := decide (l.length = s.R) && (List.range s.R).all (lineB s m l) && eqTo (rowSum s.amounts s.C) (rowSum l s.C) s.R && eqTo (fun c => colTo s.amounts s.R c) (fun c => colTo l s.R c) s.C
theorem shape_s {s : Sheet} (hs : SheetOk s) : Shape s.amounts s.R s.C :=
  ⟨rfl, ⟨hs.r1, by have := hs.r4; omega⟩, ⟨hs.c1, by have := hs.c4; omega⟩, hs.row, fun r c hr hc => by have := hs.amt r c hr hc; unfold Sheet.A at this; unfold at2; omega⟩
theorem rall_no {p : Nat → Bool} {n i : Nat} (h : i < n) (hp : p i = false) : (List.range n).all p = false := by
  rw [List.all_eq_false]; exact ⟨i, List.mem_range.2 h, by rw [hp]; decide⟩
theorem rall_yes {p : Nat → Bool} {n : Nat} (h : ∀ i, i < n → p i = true) : (List.range n).all p = true := by
  rw [List.all_eq_true]; exact fun i hi => h i (List.mem_range.1 hi)
theorem shape_l {s : Sheet} {m : List Int} {l : List (List Int)} (hs : SheetOk s) (hl : l.length = s.R) (h : ∀ r, r < s.R → lineB s m l r = true) : Shape l s.R s.C := by
  refine ⟨hl, ⟨hs.r1, by have := hs.r4; omega⟩, ⟨hs.c1, by have := hs.c4; omega⟩, fun r hr => ?_, fun r c hr hc => ?_⟩
  · have := h r hr
    unfold lineB at this
    simp only [Bool.and_eq_true, decide_eq_true_eq] at this
    exact this.1
  · have := h r hr
    unfold lineB at this
    simp only [Bool.and_eq_true, decide_eq_true_eq] at this
    have := List.all_eq_true.1 this.2 c (List.mem_range.2 hc)
    unfold cellB at this
    simp only [Bool.and_eq_true, inB, decide_eq_true_eq] at this
    omega
set_option maxHeartbeats 8000000
set_option maxRecDepth 100000
theorem agrees_ok (f : ShF) (s : Sheet) (hs : SheetOk s) (z e : Bool) (m : List Int) (hm : MaskOk s m) (z2 e2 : Bool) (rz re : Nat → Bool) (l : List (List Int)) : ACall Try.prog 27 [aSh f s, aInts z e m, aRows z2 e2 rz re l] [] (fun v h => v = .bool (agreeB s m l) ∧ h = []) := by
  have r4 := hs.r4
  have c4 := hs.c4
  have hR : s.R = s.amounts.length := rfl
  have hml := hm.len
  have cC := columns_ok f s (by have := hs.r1; omega)
  (refine fcall_of mixed Try.func27 rfl (by decide) (hs := { ord := [(6, [(0, []), (1, []), (2, []), (3, []), (4, []), (5, []), (6, [3]), (7, [])])] }) ?k (ac := ?ac) ?c (rs := ?rs) ?r ?l ?H; (case k => kernel_rfl); (case c => (conv => (lhs; cbv))); (case r => (conv => (lhs; cbv))); (case l => exact Nat.le_of_ble_eq_true rfl))
  by_cases hl : l.length = s.R
  · (repeat' ((try (conv => whnf)); first | (with_reducible first | refine FCond.tA ?_ | refine FCond.fA ?_) | ((with_reducible refine FCond.i (fun hq => ?_) (fun hq => ?_)) <;> (try simp only [zA, zE, zD, zJ, zB, zI, Int.not_le, Int.not_lt] at hq)) | (with_reducible first | refine Fits.in64 (by omega) ?_ | refine FIdx.nat (by omega) ?_ | refine FIdx.int (by omega) ?_ | refine FTo.nat (by omega) ?_ | refine FTo.int (by omega) ?_) | ((with_reducible refine Need.mk ?_ ?_); focus exact needA) | (with_reducible refine FApp.grow ?_) | (with_reducible refine FOr.pub ?_)))
    all_goals (try (conv => whnf))
    refine FLoop.of (ACalls.mono _) (X := Nat) (fun r => [(1, aInts z e m), (2, aRows z2 e2 rz re l), (3, .ptr 0 0), (7, AI r)]) (fun r => [.box 3 (cSh f s)]) (fun r => r ≤ s.R ∧ ∀ k, k < r → lineB s m l k = true) (fun r => s.R - r) 0 ⟨⟨Nat.zero_le _, fun k hk => absurd hk (Nat.not_lt_zero k)⟩, [0], Cut.A, allA⟩ ?_
    rintro r ⟨hr, hup⟩
    by_cases hlt : r < s.R
    · have no : lineB s m l r = false → agreeB s m l = false := fun hx => by
        unfold agreeB; rw [rall_no hlt hx]; simp
      have hs2 := hs.row r hlt
      have hmr := hm.bd r hlt
      by_cases hlen : (l.getD r []).length = s.C
      · (repeat' ((try (conv => whnf)); first | (with_reducible first | refine FCond.tA ?_ | refine FCond.fA ?_) | ((with_reducible refine FCond.i (fun hq => ?_) (fun hq => ?_)) <;> (try simp only [zA, zE, zD, zJ, zB, zI, Int.not_le, Int.not_lt] at hq)) | (with_reducible first | refine Fits.in64 (by omega) ?_ | refine FIdx.nat (by omega) ?_ | refine FIdx.int (by omega) ?_ | refine FTo.nat (by omega) ?_ | refine FTo.int (by omega) ?_) | ((with_reducible refine Need.mk ?_ ?_); focus exact needA) | (with_reducible refine FApp.grow ?_) | (refine FCall.pure (cC) ⟨Ln.sameB _ rfl, True.intro⟩ rfl ?_) | (with_reducible refine FOr.pub ?_)))
        all_goals (try (conv => whnf))
        refine FLoop.of (ACalls.mono _) (X := Nat) (fun c => [(1, aInts z e m), (2, aRows z2 e2 rz re l), (3, .ptr 0 0), (7, AI r), (8, AI c)]) (fun c => [.box 3 (cSh f s)]) (fun c => c ≤ s.C ∧ ∀ k, k < c → cellB s m l r k = true) (fun c => s.C - c) 0 ⟨⟨Nat.zero_le _, fun k hk => absurd hk (Nat.not_lt_zero k)⟩, [0], Cut.A, allA⟩ ?_
        rintro c ⟨hc, hupc⟩
        by_cases hltc : c < s.C
        · have noc : cellB s m l r c = false → agreeB s m l = false := fun hx => no (by unfold lineB; rw [rall_no hltc hx, Bool.and_false])
          have cW := within_ok ((l.getD r []).getD c 0) 0 40000
          have cH := has_ok (m.getD r 0).toNat c (by omega)
          rw [Int.toNat_of_nonneg hmr.1] at cH
          cases w : inB ((l.getD r []).getD c 0) 0 40000
          · rw [w] at cW
            rw [noc (by unfold cellB; rw [show inB (at2 l r c) 0 40000 = false from w, Bool.false_and])]
            (repeat' ((try (conv => whnf)); first | (with_reducible first | refine FCond.tA ?_ | refine FCond.fA ?_) | ((with_reducible refine FCond.i (fun hq => ?_) (fun hq => ?_)) <;> (try simp only [zA, zE, zD, zJ, zB, zI, Int.not_le, Int.not_lt] at hq)) | (with_reducible first | refine Fits.in64 (by omega) ?_ | refine FIdx.nat (by omega) ?_ | refine FIdx.int (by omega) ?_ | refine FTo.nat (by omega) ?_ | refine FTo.int (by omega) ?_) | ((with_reducible refine Need.mk ?_ ?_); focus exact needA) | (with_reducible refine FApp.grow ?_) | (refine FCall.pure (cW) ⟨Ln.sameB _ rfl, Ln.sameB _ rfl, Ln.sameB _ rfl, True.intro⟩ rfl ?_) | (with_reducible refine FOr.pub ?_)))
            all_goals (try (conv => whnf))
            all_goals ((refine ⟨⟨_, [], [], Cut.nil _, Ln.sameB _ rfl, ?_, rfl⟩⟩); rfl)
          · rw [w] at cW
            cases o : (m.getD r 0).toNat.testBit c
            · rw [o] at cH
              by_cases he : (l.getD r []).getD c 0 = (s.amounts.getD r []).getD c 0
              · (repeat' ((try (conv => whnf)); first | (with_reducible first | refine FCond.tA ?_ | refine FCond.fA ?_) | ((with_reducible refine FCond.i (fun hq => ?_) (fun hq => ?_)) <;> (try simp only [zA, zE, zD, zJ, zB, zI, Int.not_le, Int.not_lt] at hq)) | (with_reducible first | refine Fits.in64 (by omega) ?_ | refine FIdx.nat (by omega) ?_ | refine FIdx.int (by omega) ?_ | refine FTo.nat (by omega) ?_ | refine FTo.int (by omega) ?_) | ((with_reducible refine Need.mk ?_ ?_); focus exact needA) | (with_reducible refine FApp.grow ?_) | (refine FCall.pure (cW) ⟨Ln.sameB _ rfl, Ln.sameB _ rfl, Ln.sameB _ rfl, True.intro⟩ rfl ?_) | (refine FCall.pure (cH) ⟨Ln.sameB _ rfl, Ln.sameB _ rfl, True.intro⟩ rfl ?_) | (with_reducible refine FOr.pub ?_)))
                all_goals (try (conv => whnf))
                all_goals exact ⟨⟨c + 1, ⟨hltc, below_step hupc (by unfold cellB; rw [show inB (at2 l r c) 0 40000 = true from w, show decide (at2 l r c = s.A r c) = true from decide_eq_true he, Bool.or_true]; rfl)⟩, by omega, [0], Cut.A, allA⟩⟩
              · rw [noc (by unfold cellB outS; rw [o, show decide (at2 l r c = s.A r c) = false from decide_eq_false he, Bool.false_or, Bool.and_false])]
                (repeat' ((try (conv => whnf)); first | (with_reducible first | refine FCond.tA ?_ | refine FCond.fA ?_) | ((with_reducible refine FCond.i (fun hq => ?_) (fun hq => ?_)) <;> (try simp only [zA, zE, zD, zJ, zB, zI, Int.not_le, Int.not_lt] at hq)) | (with_reducible first | refine Fits.in64 (by omega) ?_ | refine FIdx.nat (by omega) ?_ | refine FIdx.int (by omega) ?_ | refine FTo.nat (by omega) ?_ | refine FTo.int (by omega) ?_) | ((with_reducible refine Need.mk ?_ ?_); focus exact needA) | (with_reducible refine FApp.grow ?_) | (refine FCall.pure (cW) ⟨Ln.sameB _ rfl, Ln.sameB _ rfl, Ln.sameB _ rfl, True.intro⟩ rfl ?_) | (refine FCall.pure (cH) ⟨Ln.sameB _ rfl, Ln.sameB _ rfl, True.intro⟩ rfl ?_) | (with_reducible refine FOr.pub ?_)))
                all_goals (try (conv => whnf))
                all_goals ((refine ⟨⟨_, [], [], Cut.nil _, Ln.sameB _ rfl, ?_, rfl⟩⟩); rfl)
            · rw [o] at cH
              (repeat' ((try (conv => whnf)); first | (with_reducible first | refine FCond.tA ?_ | refine FCond.fA ?_) | ((with_reducible refine FCond.i (fun hq => ?_) (fun hq => ?_)) <;> (try simp only [zA, zE, zD, zJ, zB, zI, Int.not_le, Int.not_lt] at hq)) | (with_reducible first | refine Fits.in64 (by omega) ?_ | refine FIdx.nat (by omega) ?_ | refine FIdx.int (by omega) ?_ | refine FTo.nat (by omega) ?_ | refine FTo.int (by omega) ?_) | ((with_reducible refine Need.mk ?_ ?_); focus exact needA) | (with_reducible refine FApp.grow ?_) | (refine FCall.pure (cW) ⟨Ln.sameB _ rfl, Ln.sameB _ rfl, Ln.sameB _ rfl, True.intro⟩ rfl ?_) | (refine FCall.pure (cH) ⟨Ln.sameB _ rfl, Ln.sameB _ rfl, True.intro⟩ rfl ?_) | (with_reducible refine FOr.pub ?_)))
              all_goals (try (conv => whnf))
              all_goals exact ⟨⟨c + 1, ⟨hltc, below_step hupc (by unfold cellB outS; rw [show inB (at2 l r c) 0 40000 = true from w, o, Bool.true_or]; rfl)⟩, by omega, [0], Cut.A, allA⟩⟩
        · obtain rfl : c = s.C := by omega
          (repeat' ((try (conv => whnf)); first | (with_reducible first | refine FCond.tA ?_ | refine FCond.fA ?_) | ((with_reducible refine FCond.i (fun hq => ?_) (fun hq => ?_)) <;> (try simp only [zA, zE, zD, zJ, zB, zI, Int.not_le, Int.not_lt] at hq)) | (with_reducible first | refine Fits.in64 (by omega) ?_ | refine FIdx.nat (by omega) ?_ | refine FIdx.int (by omega) ?_ | refine FTo.nat (by omega) ?_ | refine FTo.int (by omega) ?_) | ((with_reducible refine Need.mk ?_ ?_); focus exact needA) | (with_reducible refine FApp.grow ?_) | (with_reducible refine FOr.pub ?_)))
          all_goals (try (conv => whnf))
          all_goals exact ⟨⟨r + 1, ⟨hlt, below_step hup (by unfold lineB; rw [decide_eq_true hlen, rall_yes hupc]; rfl)⟩, by omega, [0], Cut.A, allA⟩⟩
      · rw [no (by unfold lineB; rw [decide_eq_false hlen, Bool.false_and])]
        (repeat' ((try (conv => whnf)); first | (with_reducible first | refine FCond.tA ?_ | refine FCond.fA ?_) | ((with_reducible refine FCond.i (fun hq => ?_) (fun hq => ?_)) <;> (try simp only [zA, zE, zD, zJ, zB, zI, Int.not_le, Int.not_lt] at hq)) | (with_reducible first | refine Fits.in64 (by omega) ?_ | refine FIdx.nat (by omega) ?_ | refine FIdx.int (by omega) ?_ | refine FTo.nat (by omega) ?_ | refine FTo.int (by omega) ?_) | ((with_reducible refine Need.mk ?_ ?_); focus exact needA) | (with_reducible refine FApp.grow ?_) | (refine FCall.pure (cC) ⟨Ln.sameB _ rfl, True.intro⟩ rfl ?_) | (with_reducible refine FOr.pub ?_)))
        all_goals (try (conv => whnf))
        all_goals ((refine ⟨⟨_, [], [], Cut.nil _, Ln.sameB _ rfl, ?_, rfl⟩⟩); rfl)
    · obtain rfl : r = s.R := by omega
      have S1 := sums_ok f.za f.ea f.rz f.re s.amounts s.R s.C (shape_s hs)
      have S2 := sums_ok z2 e2 rz re l s.R s.C (shape_l hs hl hup)
      have e1 := same_ok s.R (rowSum s.amounts s.C) (rowSum l s.C) (by omega)
      have e2' := same_ok s.C (fun c => colTo s.amounts s.R c) (fun c => colTo l s.R c) (by omega)
      have hv : agreeB s m l = (eqTo (rowSum s.amounts s.C) (rowSum l s.C) s.R && eqTo (fun c => colTo s.amounts s.R c) (fun c => colTo l s.R c) s.C) := by
        unfold agreeB; rw [decide_eq_true hl, rall_yes hup]; rfl
      rw [hv]
      cases q1 : eqTo (rowSum s.amounts s.C) (rowSum l s.C) s.R
      · rw [q1] at e1
        (repeat' ((try (conv => whnf)); first | (with_reducible first | refine FCond.tA ?_ | refine FCond.fA ?_) | ((with_reducible refine FCond.i (fun hq => ?_) (fun hq => ?_)) <;> (try simp only [zA, zE, zD, zJ, zB, zI, Int.not_le, Int.not_lt] at hq)) | (with_reducible first | refine Fits.in64 (by omega) ?_ | refine FIdx.nat (by omega) ?_ | refine FIdx.int (by omega) ?_ | refine FTo.nat (by omega) ?_ | refine FTo.int (by omega) ?_) | ((with_reducible refine Need.mk ?_ ?_); focus exact needA) | (with_reducible refine FApp.grow ?_) | (refine FCall.pure (S1) ⟨Ln.sameB _ rfl, True.intro⟩ rfl ?_) | (refine FCall.pure (S2) ⟨Ln.sameB _ rfl, True.intro⟩ rfl ?_) | (refine FCall.pure (e1) ⟨Ln.sameB _ rfl, Ln.sameB _ rfl, True.intro⟩ rfl ?_) | (with_reducible refine FOr.pub ?_)))
        all_goals (try (conv => whnf))
        all_goals ((refine ⟨⟨_, [], [], Cut.nil _, Ln.sameB _ rfl, ?_, rfl⟩⟩); rfl)
      · rw [q1] at e1
        (repeat' ((try (conv => whnf)); first | (with_reducible first | refine FCond.tA ?_ | refine FCond.fA ?_) | ((with_reducible refine FCond.i (fun hq => ?_) (fun hq => ?_)) <;> (try simp only [zA, zE, zD, zJ, zB, zI, Int.not_le, Int.not_lt] at hq)) | (with_reducible first | refine Fits.in64 (by omega) ?_ | refine FIdx.nat (by omega) ?_ | refine FIdx.int (by omega) ?_ | refine FTo.nat (by omega) ?_ | refine FTo.int (by omega) ?_) | ((with_reducible refine Need.mk ?_ ?_); focus exact needA) | (with_reducible refine FApp.grow ?_) | (refine FCall.pure (S1) ⟨Ln.sameB _ rfl, True.intro⟩ rfl ?_) | (refine FCall.pure (S2) ⟨Ln.sameB _ rfl, True.intro⟩ rfl ?_) | (refine FCall.pure (e1) ⟨Ln.sameB _ rfl, Ln.sameB _ rfl, True.intro⟩ rfl ?_) | (refine FCall.pure (e2') ⟨Ln.sameB _ rfl, Ln.sameB _ rfl, True.intro⟩ rfl ?_) | (with_reducible refine FOr.pub ?_)))
        all_goals (try (conv => whnf))
        all_goals ((refine ⟨⟨_, [], [], Cut.nil _, Ln.sameB _ rfl, ?_, rfl⟩⟩); rfl)
  · rw [show agreeB s m l = false from by unfold agreeB; rw [decide_eq_false hl]; rfl]
    (repeat' ((try (conv => whnf)); first | (with_reducible first | refine FCond.tA ?_ | refine FCond.fA ?_) | ((with_reducible refine FCond.i (fun hq => ?_) (fun hq => ?_)) <;> (try simp only [zA, zE, zD, zJ, zB, zI, Int.not_le, Int.not_lt] at hq)) | (with_reducible first | refine Fits.in64 (by omega) ?_ | refine FIdx.nat (by omega) ?_ | refine FIdx.int (by omega) ?_ | refine FTo.nat (by omega) ?_ | refine FTo.int (by omega) ?_) | ((with_reducible refine Need.mk ?_ ?_); focus exact needA) | (with_reducible refine FApp.grow ?_) | (with_reducible refine FOr.pub ?_)))
    all_goals (try (conv => whnf))
    all_goals ((refine ⟨⟨_, [], [], Cut.nil _, Ln.sameB _ rfl, ?_, rfl⟩⟩); rfl)
end Go.Proofs.Ytlffjnmbpoemnaa

namespace Go.Proofs.Ytlffjnmbpoemnaa
open Go.RowKit

abbrev cpRow (l : List Int) : AV := aInts false (decide (l.length = 0)) l
abbrev eRow (l : List (List Int)) (k : Nat) : Bool := decide ((l.getD k []).length = 0)
abbrev rowL (l : List (List Int)) (n : Nat) : AB := .row n 1 (fun k _ => cpRow (l.getD k []))
def oC : Nat → AV
  | 0 => nilS
  | i + 1 => .own 0 (i + 1)
def hC (l : List (List Int)) : Nat → List AB
  | 0 => []
  | i + 1 => [rowL l (i + 1)]
set_option maxHeartbeats 8000000
set_option maxRecDepth 100000
end Go.Proofs.Ytlffjnmbpoemnaa

namespace Go.Proofs.Ytlffjnmbpoemnaa
open Go.RowKit

set_option maxHeartbeats 8000000
set_option maxRecDepth 100000
abbrev aRowsC (l : List (List Int)) : AV := aRows (decide (l.length = 0)) (decide (l.length = 0)) (fun _ => false) (eRow l) l
def flS (s : Sheet) : ShF := ⟨decide (s.amounts.length = 0), decide (s.amounts.length = 0), fun _ => false, eRow s.amounts, false, decide (s.secret.length = 0)⟩
end Go.Proofs.Ytlffjnmbpoemnaa

namespace Go.Proofs.Ytlffjnmbpoemnaa

theorem sumTo_add (f g : Nat → Int) : ∀ k, sumTo (fun i => f i + g i) k = sumTo f k + sumTo g k
  | 0 => rfl
  | k + 1 => by simp only [sumTo]; rw [sumTo_add f g k]; omega
theorem sumTo_zero : ∀ k, sumTo (fun _ => 0) k = 0
  | 0 => rfl
  | k + 1 => by simp only [sumTo]; rw [sumTo_zero k]; rfl
theorem sumTo_mul (a : Int) (f : Nat → Int) : ∀ k, sumTo (fun i => a * f i) k = a * sumTo f k
  | 0 => by simp [sumTo]
  | k + 1 => by simp only [sumTo]; rw [sumTo_mul a f k, Int.mul_add]
theorem sumTo_nn {f : Nat → Int} : ∀ {k : Nat}, (∀ i, i < k → 0 ≤ f i) → 0 ≤ sumTo f k
  | 0, _ => Int.le_refl 0
  | k + 1, h => by
    have := sumTo_nn (k := k) fun i hi => h i (by omega)
    have := h k (by omega)
    simp only [sumTo]; omega
theorem sumTo_one {f : Nat → Int} {j : Nat} : ∀ {k : Nat}, j < k → (∀ i, i < k → i ≠ j → 0 ≤ f i) → f j ≤ sumTo f k
  | 0, h, _ => absurd h (Nat.not_lt_zero _)
  | k + 1, h, hf => by
    simp only [sumTo]
    by_cases e : j = k
    · subst e
      have := sumTo_nn (f := f) (k := j) fun i hi => hf i (by omega) (by omega)
      omega
    · have := sumTo_one (f := f) (j := j) (k := k) (by omega) fun i hi hn => hf i (by omega) hn
      have := hf k (by omega) (fun h => e h.symm)
      omega
theorem sumTo_hit {f : Nat → Int} {j : Nat} : ∀ {k : Nat}, j < k → (∀ i, i < k → i ≠ j → f i = 0) → sumTo f k = f j
  | 0, h, _ => absurd h (Nat.not_lt_zero _)
  | k + 1, h, hf => by
    simp only [sumTo]
    by_cases e : j = k
    · subst e
      rw [sumTo_congr (g := fun _ => 0) fun i hi => hf i (by omega) (by omega), sumTo_zero]; omega
    · rw [sumTo_hit (f := f) (j := j) (k := k) (by omega) fun i hi hn => hf i (by omega) hn, hf k (by omega) (fun h => e h.symm)]; omega
theorem sumTo_swap (f : Nat → Nat → Int) (C : Nat) : ∀ R, sumTo (fun r => sumTo (f r) C) R = sumTo (fun c => sumTo (fun r => f r c) R) C
  | 0 => by simp only [sumTo]; exact (sumTo_zero C).symm
  | R + 1 => by
    simp only [sumTo]
    rw [sumTo_swap f C R, ← sumTo_add]
/-- The sum over a grid. -/
def S2 (R C : Nat) (f : Nat → Nat → Int) : Int := sumTo (fun r => sumTo (f r) C) R
theorem S2_add (R C : Nat) (f g : Nat → Nat → Int) : S2 R C (fun r c => f r c + g r c) = S2 R C f + S2 R C g := by
  unfold S2; rw [← sumTo_add]; exact sumTo_congr fun r _ => sumTo_add _ _ _
theorem S2_congr {R C : Nat} {f g : Nat → Nat → Int} (h : ∀ r c, r < R → c < C → f r c = g r c) : S2 R C f = S2 R C g := sumTo_congr fun r hr => sumTo_congr fun c hc => h r c hr hc
theorem S2_nn {R C : Nat} {f : Nat → Nat → Int} (h : ∀ r c, r < R → c < C → 0 ≤ f r c) : 0 ≤ S2 R C f := sumTo_nn fun r hr => sumTo_nn fun c hc => h r c hr hc
theorem S2_one {R C r0 c0 : Nat} {f : Nat → Nat → Int} (hr : r0 < R) (hc : c0 < C) (h : ∀ r c, r < R → c < C → ¬ (r = r0 ∧ c = c0) → 0 ≤ f r c) : f r0 c0 ≤ S2 R C f := by
  have h1 : f r0 c0 ≤ sumTo (f r0) C := sumTo_one hc fun c hc hn => h r0 c hr hc (fun e => hn e.2)
  have h2 : sumTo (f r0) C ≤ S2 R C f := sumTo_one (f := fun r => sumTo (f r) C) hr fun r hr hn => sumTo_nn fun c hc => h r c hr hc (fun e => hn e.1)
  omega
theorem S2_hit {R C r0 c0 : Nat} {f : Nat → Nat → Int} (hr : r0 < R) (hc : c0 < C) (h : ∀ r c, r < R → c < C → ¬ (r = r0 ∧ c = c0) → f r c = 0) : S2 R C f = f r0 c0 := by
  unfold S2
  rw [sumTo_hit hr fun r hr hn => by rw [sumTo_congr (g := fun _ => 0) fun c hc => h r c hr hc (fun e => hn e.1)]; exact sumTo_zero C]
  exact sumTo_hit hc fun c hc hn => h r0 c hr hc (fun e => hn e.2)
theorem S2_zero {R C : Nat} {f : Nat → Nat → Int} (h : ∀ r c, r < R → c < C → f r c = 0) : S2 R C f = 0 := by
  rw [S2_congr h]; unfold S2; rw [sumTo_congr (g := fun _ => 0) fun r _ => sumTo_zero C]; exact sumTo_zero R
/-- What crosses a cut one way is what crosses it the other way. -/
theorem cut_eq {R C : Nat} {d : Nat → Nat → Int} (hr : ∀ r, r < R → sumTo (d r) C = 0) (hc : ∀ c, c < C → sumTo (fun r => d r c) R = 0) (p q : Nat → Bool) :
    S2 R C (fun r c => if p r = true ∧ q c = false then d r c else 0) = S2 R C (fun r c => if p r = false ∧ q c = true then d r c else 0) := by
  have a : S2 R C (fun r c => if p r = true ∧ q c = false then d r c else 0) + S2 R C (fun r c => if p r = true ∧ q c = true then d r c else 0) = 0 := by
    rw [← S2_add]
    unfold S2
    rw [sumTo_congr (g := fun _ => 0), sumTo_zero]
    intro r hr'
    cases hp : p r
    · rw [sumTo_congr (g := fun _ => 0) fun c _ => by simp [hp]]; exact sumTo_zero C
    · rw [sumTo_congr (g := d r) fun c _ => by cases h : q c <;> simp [hp, h]]; exact hr r hr'
  have b : S2 R C (fun r c => if p r = false ∧ q c = true then d r c else 0) + S2 R C (fun r c => if p r = true ∧ q c = true then d r c else 0) = 0 := by
    rw [← S2_add]
    unfold S2
    rw [sumTo_swap, sumTo_congr (g := fun _ => 0), sumTo_zero]
    intro c hc'
    cases hq : q c
    · rw [sumTo_congr (g := fun _ => 0) fun r _ => by simp [hq]]; exact sumTo_zero R
    · rw [sumTo_congr (g := fun r => d r c) fun r _ => by cases h : p r <;> simp [hq, h]]; exact hc c hc'
  omega
/-- Amounts that agree with a sheet and a mask. -/
structure Ag (s : Sheet) (m : List Int) (x : Nat → Nat → Int) : Prop where
  nn : ∀ r c, r < s.R → c < s.C → 0 ≤ x r c
  un : ∀ r c, r < s.R → c < s.C → outS m r c = false → x r c = s.A r c
  row : ∀ r, r < s.R → sumTo (x r) s.C = sumTo (s.A r) s.C
  col : ∀ c, c < s.C → sumTo (fun r => x r c) s.R = sumTo (fun r => s.A r c) s.R
theorem Ag.self {s : Sheet} (hs : SheetOk s) (m : List Int) : Ag s m s.A := ⟨fun r c hr hc => (hs.amt r c hr hc).1, fun _ _ _ _ _ => rfl, fun _ _ => rfl, fun _ _ => rfl⟩
theorem Ag.le {s : Sheet} (hs : SheetOk s) {m : List Int} {x : Nat → Nat → Int} (h : Ag s m x) {r c : Nat} (hr : r < s.R) (hc : c < s.C) : x r c ≤ 40000 := by
  have h1 := sumTo_one (f := x r) hc fun i hi _ => h.nn r i hr hi
  rw [h.row r hr] at h1
  have h2 := sumTo_bd (f := s.A r) (B := 10000) (by decide) (k := s.C) fun i hi => by have := hs.amt r i hr hi; omega
  have := hs.c4
  omega
theorem Ag.dr {s : Sheet} {m : List Int} {x y : Nat → Nat → Int} (hx : Ag s m x) (hy : Ag s m y) : ∀ r, r < s.R → sumTo (fun c => y r c + -1 * x r c) s.C = 0 := fun r hr => by
  rw [sumTo_add, sumTo_mul, hx.row r hr, hy.row r hr]; omega
theorem Ag.dc {s : Sheet} {m : List Int} {x y : Nat → Nat → Int} (hx : Ag s m x) (hy : Ag s m y) : ∀ c, c < s.C → sumTo (fun r => y r c + -1 * x r c) s.R = 0 := fun c hc => by
  rw [sumTo_add (fun r => y r c) (fun r => -1 * x r c), sumTo_mul, hx.col c hc, hy.col c hc]; omega
/-- The same from the rows into outside of the columns. -/
theorem cut_hi2 {s : Sheet} {m : List Int} {x : Nat → Nat → Int} {r0 c0 : Nat} (hr0 : r0 < s.R) (hc0 : c0 < s.C) (p q : Nat → Bool) (hp : p r0 = true) (hq : q c0 = false)
    (h1 : ∀ r c, r < s.R → c < s.C → p r = true → q c = false → ¬ (r = r0 ∧ c = c0) → outS m r c = false ∨ x r c = 0) (h2 : ∀ r c, r < s.R → c < s.C → p r = false → q c = true → outS m r c = false)
    (hx : Ag s m x) {y : Nat → Nat → Int} (hy : Ag s m y) : y r0 c0 ≤ x r0 c0 := by
  have e := cut_eq (hx.dr hy) (hx.dc hy) p q
  rw [S2_zero (f := fun r c => if p r = false ∧ q c = true then _ else _) (fun r c hr hc => by
    split
    · rename_i h; have h3 := h2 r c hr hc h.1 h.2; rw [hx.un r c hr hc h3, hy.un r c hr hc h3]; omega
    · rfl)] at e
  have k := S2_one (R := s.R) (C := s.C) (f := fun r c => if p r = true ∧ q c = false then y r c + -1 * x r c else 0) hr0 hc0 (fun r c hr hc hn => by
    split
    · rename_i h
      rcases h1 r c hr hc h.1 h.2 hn with h3 | h3
      · rw [hx.un r c hr hc h3, hy.un r c hr hc h3]; omega
      · have := hy.nn r c hr hc; omega
    · omega)
  simp only [hp, hq, and_self, if_true] at k
  omega
/-- A cut that shows that an amount can be no less. -/
theorem cut_lo {s : Sheet} {m : List Int} {x : Nat → Nat → Int} {r0 c0 : Nat} (hr0 : r0 < s.R) (hc0 : c0 < s.C) (p q : Nat → Bool) (hp : p r0 = true) (hq : q c0 = false)
    (h1 : ∀ r c, r < s.R → c < s.C → p r = true → q c = false → ¬ (r = r0 ∧ c = c0) → outS m r c = false) (h2 : ∀ r c, r < s.R → c < s.C → p r = false → q c = true → outS m r c = false ∨ x r c = 0)
    (hx : Ag s m x) {y : Nat → Nat → Int} (hy : Ag s m y) : x r0 c0 ≤ y r0 c0 := by
  have e := cut_eq (hx.dr hy) (hx.dc hy) p q
  rw [S2_hit (f := fun r c => if p r = true ∧ q c = false then _ else _) hr0 hc0 (fun r c hr hc hn => by
    split
    · rename_i h; have h3 := h1 r c hr hc h.1 h.2 hn; rw [hx.un r c hr hc h3, hy.un r c hr hc h3]; omega
    · rfl)] at e
  have k := S2_nn (R := s.R) (C := s.C) (f := fun r c => if p r = false ∧ q c = true then y r c + -1 * x r c else 0) (fun r c hr hc => by
    split
    · rename_i h
      rcases h2 r c hr hc h.1 h.2 with h3 | h3
      · rw [hx.un r c hr hc h3, hy.un r c hr hc h3]; omega
      · have := hy.nn r c hr hc; omega
    · omega)
  simp only [hp, hq, and_self, if_true] at e
  omega
/-- The least and the greatest number that an amount can be. -/
def IsLo (s : Sheet) (m : List Int) (r c : Nat) (v : Int) : Prop := (∃ x, Ag s m x ∧ x r c = v) ∧ ∀ x, Ag s m x → v ≤ x r c
def IsHi (s : Sheet) (m : List Int) (r c : Nat) (v : Int) : Prop := (∃ x, Ag s m x ∧ x r c = v) ∧ ∀ x, Ag s m x → x r c ≤ v
theorem lo_ex {s : Sheet} (hs : SheetOk s) (m : List Int) {r c : Nat} (hr : r < s.R) (hc : c < s.C) : ∃ v, IsLo s m r c v := by
  have key : ∀ (n : Nat) (x : Nat → Nat → Int), Ag s m x → x r c ≤ n → ∃ v, IsLo s m r c v := by
    intro n
    induction n with
    | zero => exact fun x hx hn => ⟨x r c, ⟨x, hx, rfl⟩, fun y hy => by have := hy.nn r c hr hc; omega⟩
    | succ n ih =>
      intro x hx hn
      by_cases h : ∃ y, Ag s m y ∧ y r c ≤ n
      · obtain ⟨y, hy, hyn⟩ := h; exact ih y hy hyn
      · refine ⟨x r c, ⟨x, hx, rfl⟩, fun y hy => ?_⟩
        have : ¬ y r c ≤ n := fun e => h ⟨y, hy, e⟩
        omega
  have h0 := Ag.self hs m
  exact key (s.A r c).toNat s.A h0 (by have := h0.nn r c hr hc; omega)
theorem hi_ex {s : Sheet} (hs : SheetOk s) (m : List Int) {r c : Nat} (hr : r < s.R) (hc : c < s.C) : ∃ v, IsHi s m r c v := by
  have key : ∀ (n : Nat) (x : Nat → Nat → Int), Ag s m x → 40000 - x r c ≤ n → ∃ v, IsHi s m r c v := by
    intro n
    induction n with
    | zero => exact fun x hx hn => ⟨x r c, ⟨x, hx, rfl⟩, fun y hy => by have := hy.le hs hr hc; omega⟩
    | succ n ih =>
      intro x hx hn
      by_cases h : ∃ y, Ag s m y ∧ 40000 - y r c ≤ n
      · obtain ⟨y, hy, hyn⟩ := h; exact ih y hy hyn
      · refine ⟨x r c, ⟨x, hx, rfl⟩, fun y hy => ?_⟩
        have : ¬ 40000 - y r c ≤ n := fun e => h ⟨y, hy, e⟩
        omega
  have h0 := Ag.self hs m
  exact key 40000 s.A h0 (by have := h0.nn r c hr hc; omega)
open Classical in
noncomputable def loV (s : Sheet) (m : List Int) (r c : Nat) : Int := if h : ∃ v, IsLo s m r c v then Classical.choose h else 0
open Classical in
noncomputable def hiV (s : Sheet) (m : List Int) (r c : Nat) : Int := if h : ∃ v, IsHi s m r c v then Classical.choose h else 0
theorem IsLo.eq {s : Sheet} {m : List Int} {r c : Nat} {v : Int} (h : IsLo s m r c v) : loV s m r c = v := by
  have e : ∃ v, IsLo s m r c v := ⟨v, h⟩
  unfold loV
  rw [dif_pos e]
  obtain ⟨⟨x, hx, hxv⟩, h1⟩ := h
  obtain ⟨⟨y, hy, hyv⟩, h2⟩ := Classical.choose_spec e
  have a := h1 y hy
  have b := h2 x hx
  omega
theorem IsHi.eq {s : Sheet} {m : List Int} {r c : Nat} {v : Int} (h : IsHi s m r c v) : hiV s m r c = v := by
  have e : ∃ v, IsHi s m r c v := ⟨v, h⟩
  unfold hiV
  rw [dif_pos e]
  obtain ⟨⟨x, hx, hxv⟩, h1⟩ := h
  obtain ⟨⟨y, hy, hyv⟩, h2⟩ := Classical.choose_spec e
  have a := h1 y hy
  have b := h2 x hx
  omega
theorem lo_is {s : Sheet} (hs : SheetOk s) (m : List Int) {r c : Nat} (hr : r < s.R) (hc : c < s.C) : IsLo s m r c (loV s m r c) := by
  obtain ⟨v, hv⟩ := lo_ex hs m hr hc
  rw [hv.eq]; exact hv
theorem hi_is {s : Sheet} (hs : SheetOk s) (m : List Int) {r c : Nat} (hr : r < s.R) (hc : c < s.C) : IsHi s m r c (hiV s m r c) := by
  obtain ⟨v, hv⟩ := hi_ex hs m hr hc
  rw [hv.eq]; exact hv
theorem lo_le {s : Sheet} (hs : SheetOk s) (m : List Int) {r c : Nat} (hr : r < s.R) (hc : c < s.C) : 0 ≤ loV s m r c ∧ loV s m r c ≤ s.A r c ∧ s.A r c ≤ hiV s m r c ∧ hiV s m r c ≤ 40000 := by
  obtain ⟨⟨x, hx, hxv⟩, h1⟩ := lo_is hs m hr hc
  obtain ⟨⟨y, hy, hyv⟩, h2⟩ := hi_is hs m hr hc
  have a := h1 _ (Ag.self hs m)
  have b := h2 _ (Ag.self hs m)
  have c1 := hx.nn r c hr hc
  have d := hy.le hs hr hc
  omega
theorem shown_lo {s : Sheet} (hs : SheetOk s) (m : List Int) {r c : Nat} (hr : r < s.R) (hc : c < s.C) (h : outS m r c = false) : loV s m r c = s.A r c ∧ hiV s m r c = s.A r c :=
  ⟨IsLo.eq ⟨⟨s.A, Ag.self hs m, rfl⟩, fun x hx => by rw [hx.un r c hr hc h]; exact Int.le_refl _⟩, IsHi.eq ⟨⟨s.A, Ag.self hs m, rfl⟩, fun x hx => by rw [hx.un r c hr hc h]; exact Int.le_refl _⟩⟩
end Go.Proofs.Ytlffjnmbpoemnaa

namespace Go.Proofs.Ytlffjnmbpoemnaa

/-- A row (true) or a column. -/
abbrev Nd := Bool × Nat
/-- What a step from a node to the next one does to an amount. -/
def stepE (u v : Nd) (r c : Nat) : Int := if u.1 then (if r = u.2 ∧ c = v.2 then 1 else 0) else (if r = v.2 ∧ c = u.2 then -1 else 0)
/-- The steps of a way, whose last node stands first. -/
def stepsB : List Nd → List (Nd × Nd)
  | v :: u :: t => (u, v) :: stepsB (u :: t)
  | _ => []
def sumE : List (Nd × Nd) → Nat → Nat → Int
  | [], _, _ => 0
  | e :: t, r, c => stepE e.1 e.2 r c + sumE t r c
/-- Rows and columns in turn, all of them in the sheet, none of them twice. -/
structure Way (R C : Nat) (p : List Nd) : Prop where
  nod : p.Nodup
  ok : ∀ u, u ∈ p → if u.1 then u.2 < R else u.2 < C
  alt : ∀ e, e ∈ stepsB p → e.1.1 = !e.2.1
theorem stepsB_cons (v u : Nd) (t : List Nd) : stepsB (v :: u :: t) = (u, v) :: stepsB (u :: t) := rfl
theorem Way.tail {R C : Nat} {v u : Nd} {t : List Nd} (h : Way R C (v :: u :: t)) : Way R C (u :: t) :=
  ⟨(List.nodup_cons.1 h.nod).2, fun x hx => h.ok x (List.mem_cons_of_mem _ hx), fun e he => h.alt e (by rw [stepsB_cons]; exact List.mem_cons_of_mem _ he)⟩
def psi (u : Nd) (r : Nat) : Int := if u.1 = true ∧ u.2 = r then 1 else 0
def phi (u : Nd) (c : Nat) : Int := if u.1 = false ∧ u.2 = c then 1 else 0
theorem row_step {R C : Nat} {u v : Nd} (ha : u.1 = !v.1) (hu : if u.1 then u.2 < R else u.2 < C) (hv : if v.1 then v.2 < R else v.2 < C) (r : Nat) : sumTo (stepE u v r) C = psi u r - psi v r := by
  obtain ⟨a, x⟩ := u
  obtain ⟨b, y⟩ := v
  simp only at ha
  subst ha
  cases b
  · simp only [Bool.not_false, if_true, Bool.false_eq_true, if_false] at hu hv
    have e : stepE (true, x) (false, y) r = fun c => if r = x ∧ c = y then 1 else 0 := by funext c; simp [stepE]
    have p1 : psi (true, x) r = if x = r then 1 else 0 := by simp [psi]
    have p2 : psi (false, y) r = 0 := by simp [psi]
    rw [show (true, x) = (!false, x) from rfl] at e p1
    rw [e, p1, p2]
    by_cases h : r = x
    · subst h
      rw [sumTo_hit hv fun i _ hn => by rw [if_neg (fun h => hn h.2)]]; simp
    · rw [sumTo_congr (g := fun _ => 0) fun i _ => by rw [if_neg (fun hh => h hh.1)], sumTo_zero, if_neg (fun hh => h hh.symm)]; rfl
  · simp only [Bool.not_true, if_true, Bool.false_eq_true, if_false] at hu hv
    have e : stepE (false, x) (true, y) r = fun c => if r = y ∧ c = x then -1 else 0 := by funext c; simp [stepE]
    have p1 : psi (false, x) r = 0 := by simp [psi]
    have p2 : psi (true, y) r = if y = r then 1 else 0 := by simp [psi]
    rw [show (false, x) = (!true, x) from rfl] at e p1
    rw [e, p1, p2]
    by_cases h : r = y
    · subst h
      rw [sumTo_hit hu fun i _ hn => by rw [if_neg (fun h => hn h.2)]]; simp
    · rw [sumTo_congr (g := fun _ => 0) fun i _ => by rw [if_neg (fun hh => h hh.1)], sumTo_zero, if_neg (fun hh => h hh.symm)]; rfl
theorem col_step {R C : Nat} {u v : Nd} (ha : u.1 = !v.1) (hu : if u.1 then u.2 < R else u.2 < C) (hv : if v.1 then v.2 < R else v.2 < C) (c : Nat) : sumTo (fun r => stepE u v r c) R = phi v c - phi u c := by
  obtain ⟨a, x⟩ := u
  obtain ⟨b, y⟩ := v
  simp only at ha
  subst ha
  cases b
  · simp only [Bool.not_false, if_true, Bool.false_eq_true, if_false] at hu hv
    have e : (fun r => stepE (!false, x) (false, y) r c) = fun r => if r = x ∧ c = y then 1 else 0 := by funext r; simp [stepE]
    have p1 : phi (!false, x) c = 0 := by simp [phi]
    have p2 : phi (false, y) c = if y = c then 1 else 0 := by simp [phi]
    rw [e, p1, p2]
    by_cases h : c = y
    · subst h
      rw [sumTo_hit hu fun i _ hn => by rw [if_neg (fun h => hn h.1)]]; simp
    · rw [sumTo_congr (g := fun _ => 0) fun i _ => by rw [if_neg (fun hh => h hh.2)], sumTo_zero, if_neg (fun hh => h hh.symm)]; rfl
  · simp only [Bool.not_true, if_true, Bool.false_eq_true, if_false] at hu hv
    have e : (fun r => stepE (!true, x) (true, y) r c) = fun r => if r = y ∧ c = x then -1 else 0 := by funext r; simp [stepE]
    have p1 : phi (!true, x) c = if x = c then 1 else 0 := by simp [phi]
    have p2 : phi (true, y) c = 0 := by simp [phi]
    rw [e, p1, p2]
    by_cases h : c = x
    · subst h
      rw [sumTo_hit hv fun i _ hn => by rw [if_neg (fun h => hn h.1)]]; simp
    · rw [sumTo_congr (g := fun _ => 0) fun i _ => by rw [if_neg (fun hh => h hh.2)], sumTo_zero, if_neg (fun hh => h hh.symm)]; rfl
theorem row_way {R C : Nat} (r : Nat) : ∀ {p : List Nd} (v : Nd), Way R C (v :: p) → sumTo (sumE (stepsB (v :: p)) r) C = psi ((v :: p).getLast (by simp)) r - psi v r
  | [], v, _ => by show sumTo (fun _ => 0) C = _; rw [sumTo_zero]; simp
  | u :: t, v, h => by
    have ih := row_way r u h.tail
    have e : sumE (stepsB (v :: u :: t)) r = fun c => stepE u v r c + sumE (stepsB (u :: t)) r c := rfl
    rw [e, sumTo_add, row_step (R := R) (h.alt (u, v) List.mem_cons_self) (h.ok u (List.mem_cons_of_mem _ List.mem_cons_self)) (h.ok v List.mem_cons_self), ih, List.getLast_cons (List.cons_ne_nil u t)]
    show _ - _ + _ = _
    dsimp only
    omega
theorem col_way {R C : Nat} (c : Nat) : ∀ {p : List Nd} (v : Nd), Way R C (v :: p) → sumTo (fun r => sumE (stepsB (v :: p)) r c) R = phi v c - phi ((v :: p).getLast (by simp)) c
  | [], v, _ => by show sumTo (fun _ => 0) R = _; rw [sumTo_zero]; simp
  | u :: t, v, h => by
    have ih := col_way c u h.tail
    have e : (fun r => sumE (stepsB (v :: u :: t)) r c) = fun r => stepE u v r c + sumE (stepsB (u :: t)) r c := rfl
    rw [e, sumTo_add (fun r => stepE u v r c), col_step (C := C) (h.alt (u, v) List.mem_cons_self) (h.ok u (List.mem_cons_of_mem _ List.mem_cons_self)) (h.ok v List.mem_cons_self), ih, List.getLast_cons (List.cons_ne_nil u t)]
    show _ - _ + _ = _
    dsimp only
    omega
/-- No step touches an amount whose row or column is not on the way. -/
theorem sumE_off {r c : Nat} : ∀ {p : List Nd}, (∀ e, e ∈ stepsB p → e.1.1 = !e.2.1) → ((true, r) ∉ p ∨ (false, c) ∉ p) → sumE (stepsB p) r c = 0
  | [], _, _ => rfl
  | [v], _, _ => rfl
  | v :: u :: t, ha, h => by
    have h2 : ((true, r) ∉ u :: t ∨ (false, c) ∉ u :: t) := h.imp (fun h h' => h (List.mem_cons_of_mem _ h')) (fun h h' => h (List.mem_cons_of_mem _ h'))
    show stepE u v r c + sumE (stepsB (u :: t)) r c = 0
    rw [sumE_off (fun e he => ha e (by rw [stepsB_cons]; exact List.mem_cons_of_mem _ he)) h2]
    have hal := ha (u, v) List.mem_cons_self
    obtain ⟨a, x⟩ := u
    obtain ⟨b, y⟩ := v
    simp only at hal
    subst hal
    cases b
    · simp only [stepE, Bool.not_false, if_true]
      rw [if_neg]
      · rfl
      · rintro ⟨rfl, rfl⟩
        rcases h with h | h
        · exact h (List.mem_cons_of_mem _ List.mem_cons_self)
        · exact h List.mem_cons_self
    · simp only [stepE, Bool.not_true, Bool.false_eq_true, if_false]
      rw [if_neg]
      · rfl
      · rintro ⟨rfl, rfl⟩
        rcases h with h | h
        · exact h List.mem_cons_self
        · exact h (List.mem_cons_of_mem _ List.mem_cons_self)
/-- A way touches an amount once at most. -/
theorem sumE_cases {R C r c : Nat} : ∀ {p : List Nd}, Way R C p → sumE (stepsB p) r c = 0 ∨ (sumE (stepsB p) r c = 1 ∧ ((true, r), (false, c)) ∈ stepsB p) ∨ (sumE (stepsB p) r c = -1 ∧ ((false, c), (true, r)) ∈ stepsB p)
  | [], _ => .inl rfl
  | [v], _ => .inl rfl
  | v :: u :: t, h => by
    have hal := h.alt (u, v) List.mem_cons_self
    have hnv : v ∉ u :: t := (List.nodup_cons.1 h.nod).1
    have ih := sumE_cases (r := r) (c := c) h.tail
    have off := sumE_off (r := r) (c := c) h.tail.alt
    have e : sumE (stepsB (v :: u :: t)) r c = stepE u v r c + sumE (stepsB (u :: t)) r c := rfl
    rw [e]
    have mem : ∀ e, e ∈ stepsB (u :: t) → e ∈ stepsB (v :: u :: t) := fun e he => by rw [stepsB_cons]; exact List.mem_cons_of_mem _ he
    have hd : (u, v) ∈ stepsB (v :: u :: t) := List.mem_cons_self
    obtain ⟨a, x⟩ := u
    obtain ⟨b, y⟩ := v
    simp only at hal
    subst hal
    cases b
    · by_cases hh : r = x ∧ c = y
      · obtain ⟨rfl, rfl⟩ := hh
        rw [off (.inr hnv)]
        refine .inr (.inl ⟨by simp [stepE], hd⟩)
      · rw [show stepE (!false, x) (false, y) r c = 0 from by simp [stepE, hh]]
        rcases ih with h1 | ⟨h1, h2⟩ | ⟨h1, h2⟩
        · exact .inl (by omega)
        · exact .inr (.inl ⟨by omega, mem _ h2⟩)
        · exact .inr (.inr ⟨by omega, mem _ h2⟩)
    · by_cases hh : r = y ∧ c = x
      · obtain ⟨rfl, rfl⟩ := hh
        rw [off (.inl hnv)]
        refine .inr (.inr ⟨by simp [stepE], hd⟩)
      · rw [show stepE (!true, x) (true, y) r c = 0 from by simp [stepE, hh]]
        rcases ih with h1 | ⟨h1, h2⟩ | ⟨h1, h2⟩
        · exact .inl (by omega)
        · exact .inr (.inl ⟨by omega, mem _ h2⟩)
        · exact .inr (.inr ⟨by omega, mem _ h2⟩)
/-- The place itself. -/
def hit (r0 c0 r c : Nat) : Int := if r = r0 ∧ c = c0 then 1 else 0
theorem hit_row {C c0 : Nat} (hc : c0 < C) (r0 r : Nat) : sumTo (hit r0 c0 r) C = if r0 = r then 1 else 0 := by
  by_cases h : r = r0
  · subst h
    rw [if_pos rfl, sumTo_hit hc fun i _ hn => by unfold hit; rw [if_neg (fun h => hn h.2)]]
    unfold hit; simp
  · rw [if_neg (fun e => h e.symm), sumTo_congr (g := fun _ => 0) fun i _ => by unfold hit; rw [if_neg (fun hh => h hh.1)], sumTo_zero]
theorem hit_col {R r0 : Nat} (hr : r0 < R) (c0 c : Nat) : sumTo (fun r => hit r0 c0 r c) R = if c0 = c then 1 else 0 := by
  by_cases h : c = c0
  · subst h
    rw [if_pos rfl, sumTo_hit hr fun i _ hn => by unfold hit; rw [if_neg (fun h => hn h.1)]]
    unfold hit; simp
  · rw [if_neg (fun e => h e.symm), sumTo_congr (g := fun _ => 0) fun i _ => by unfold hit; rw [if_neg (fun hh => h hh.2)], sumTo_zero]
/-- A way from the row of a place to its column, or back: g is what is shifted along its steps. sg: 1 if it begins with the row. -/
structure WayFor (s : Sheet) (m : List Int) (r0 c0 : Nat) (down : Bool) (p : List Nd) : Prop where
  way : Way s.R s.C p
  ne : p ≠ []
  first : p.getLast ne = if down then (true, r0) else (false, c0)
  last : p.head ne = if down then (false, c0) else (true, r0)
  out : ∀ r c, ((true, r), (false, c)) ∈ stepsB p ∨ ((false, c), (true, r)) ∈ stepsB p → outS m r c = true ∧ ¬ (r = r0 ∧ c = c0)
/-- What a way and the place itself do to an amount. -/
def wayD (down : Bool) (p : List Nd) (r0 c0 : Nat) (g : Int) (r c : Nat) : Int := g * (sumE (stepsB p) r c + (if down then -1 else 1) * hit r0 c0 r c)
theorem wayD_row {s : Sheet} {m : List Int} {r0 c0 : Nat} {down : Bool} {p : List Nd} (h : WayFor s m r0 c0 down p) (hc : c0 < s.C) (g : Int) (r : Nat) : sumTo (wayD down p r0 c0 g r) s.C = 0 := by
  have e : wayD down p r0 c0 g r = fun c => g * (sumE (stepsB p) r c + (if down then -1 else 1) * hit r0 c0 r c) := rfl
  rw [e, sumTo_mul, sumTo_add, sumTo_mul, hit_row hc]
  obtain ⟨v, t, rfl⟩ : ∃ v t, p = v :: t := List.exists_cons_of_ne_nil h.ne
  rw [row_way r v h.way, h.first, show v = _ from h.last]
  cases down
  · simp only [Bool.false_eq_true, if_false, psi, false_and, true_and]
    split <;> simp
  · simp only [if_true, psi, true_and, Bool.false_eq_true, false_and, if_false]
    split <;> simp
theorem wayD_col {s : Sheet} {m : List Int} {r0 c0 : Nat} {down : Bool} {p : List Nd} (h : WayFor s m r0 c0 down p) (hr : r0 < s.R) (g : Int) (c : Nat) : sumTo (fun r => wayD down p r0 c0 g r c) s.R = 0 := by
  have e : (fun r => wayD down p r0 c0 g r c) = fun r => g * (sumE (stepsB p) r c + (if down then -1 else 1) * hit r0 c0 r c) := rfl
  rw [e, sumTo_mul, sumTo_add (fun r => sumE (stepsB p) r c), sumTo_mul, hit_col hr]
  obtain ⟨v, t, rfl⟩ : ∃ v t, p = v :: t := List.exists_cons_of_ne_nil h.ne
  rw [col_way c v h.way, h.first, show v = _ from h.last]
  cases down
  · simp only [Bool.false_eq_true, if_false, phi, false_and, true_and, Bool.true_eq_false]
    split <;> simp
  · simp only [if_true, phi, true_and, Bool.false_eq_true, false_and, if_false, Bool.true_eq_false]
    split <;> simp
/-- After a shift the amounts still agree. g may be less than 0: then it is the steps from rows to columns that take away. -/
theorem Ag.shift {s : Sheet} {m : List Int} {r0 c0 : Nat} {down : Bool} {p : List Nd} {x : Nat → Nat → Int} {g : Int} (hx : Ag s m x) (h : WayFor s m r0 c0 down p) (hr : r0 < s.R) (hc : c0 < s.C) (ho : outS m r0 c0 = true)
    (h1 : 0 ≤ g → ∀ r c, ((false, c), (true, r)) ∈ stepsB p → g ≤ x r c) (h2 : g ≤ 0 → ∀ r c, ((true, r), (false, c)) ∈ stepsB p → -g ≤ x r c)
    (h3 : 0 ≤ x r0 c0 + g * (if down then -1 else 1)) : Ag s m (fun r c => x r c + wayD down p r0 c0 g r c) := by
  have off : sumE (stepsB p) r0 c0 = 0 := by
    rcases sumE_cases (r := r0) (c := c0) h.way with k | ⟨_, k⟩ | ⟨_, k⟩
    · exact k
    · exact ((h.out _ _ (.inl k)).2 ⟨rfl, rfl⟩).elim
    · exact ((h.out _ _ (.inr k)).2 ⟨rfl, rfl⟩).elim
  refine ⟨fun r c hr' hc' => ?_, fun r c hr' hc' hno => ?_, fun r hr' => ?_, fun c hc' => ?_⟩
  · have h0 := hx.nn r c hr' hc'
    by_cases hh : r = r0 ∧ c = c0
    · obtain ⟨rfl, rfl⟩ := hh
      unfold wayD hit
      rw [off, show (if r = r ∧ c = c then (1 : Int) else 0) = 1 from if_pos ⟨rfl, rfl⟩, Int.zero_add, Int.mul_one]
      exact h3
    · unfold wayD hit
      rw [if_neg hh, Int.mul_zero, Int.add_zero]
      rcases sumE_cases (r := r) (c := c) h.way with k | ⟨k, k2⟩ | ⟨k, k2⟩
      · rw [k]; omega
      · rw [k]
        rcases Int.le_total 0 g with hg | hg
        · omega
        · have := h2 hg r c k2; omega
      · rw [k]
        rcases Int.le_total 0 g with hg | hg
        · have := h1 hg r c k2; omega
        · omega
  · have hh : ¬ (r = r0 ∧ c = c0) := by rintro ⟨rfl, rfl⟩; rw [ho] at hno; cases hno
    unfold wayD hit
    rw [if_neg hh]
    rcases sumE_cases (r := r) (c := c) h.way with k | ⟨_, k⟩ | ⟨_, k⟩
    · rw [k, hx.un r c hr' hc' hno]; simp
    · rw [(h.out _ _ (.inl k)).1] at hno; cases hno
    · rw [(h.out _ _ (.inr k)).1] at hno; cases hno
  · rw [sumTo_add, wayD_row h hc, hx.row r hr']; omega
  · rw [sumTo_add (fun r => x r c), wayD_col h hr, hx.col c hc']; omega
theorem shift_at {s : Sheet} {m : List Int} {r0 c0 : Nat} {down : Bool} {p : List Nd} (h : WayFor s m r0 c0 down p) (g : Int) : wayD down p r0 c0 g r0 c0 = g * (if down then -1 else 1) := by
  have off : sumE (stepsB p) r0 c0 = 0 := by
    rcases sumE_cases (r := r0) (c := c0) h.way with k | ⟨_, k⟩ | ⟨_, k⟩
    · exact k
    · exact ((h.out _ _ (.inl k)).2 ⟨rfl, rfl⟩).elim
    · exact ((h.out _ _ (.inr k)).2 ⟨rfl, rfl⟩).elim
  unfold wayD hit
  rw [off, show (if r0 = r0 ∧ c0 = c0 then (1 : Int) else 0) = 1 from if_pos ⟨rfl, rfl⟩, Int.zero_add, Int.mul_one]
end Go.Proofs.Ytlffjnmbpoemnaa

namespace Go.Proofs.Ytlffjnmbpoemnaa

/-- Rows have their numbers, columns follow. -/
def nd (R k : Nat) : Nd := if k < R then (true, k) else (false, k - R)
/-- The amount of a step. -/
def cellOf (R a b : Nat) : Nat × Nat := if a < R then (a, b - R) else (b, a - R)
/-- The graph of a search: x: the amounts; dr: the steps from rows take away, else those from columns. -/
structure Gr where
  R : Nat
  C : Nat
  m : List Int
  r0 : Nat
  c0 : Nat
  x : Nat → Nat → Int
  dr : Bool
def Gr.N (g : Gr) : Nat := g.R + g.C
def Gr.al (g : Gr) (a b : Nat) : Bool := decide ((a < g.R ∧ g.R ≤ b) ∨ (g.R ≤ a ∧ b < g.R)) && outS g.m (cellOf g.R a b).1 (cellOf g.R a b).2 && !decide ((cellOf g.R a b).1 = g.r0 ∧ (cellOf g.R a b).2 = g.c0)
def Gr.cap (g : Gr) (a b : Nat) : Int := if decide (a < g.R) = g.dr then g.x (cellOf g.R a b).1 (cellOf g.R a b).2 else 1099511627776
def Gr.adj (g : Gr) (a b : Nat) : Bool := g.al a b && decide (0 < g.cap a b)
abbrev Pth := Nat → List (Nat × Int)
def Pth.set (P : Pth) (j : Nat) (l : List (Nat × Int)) : Pth := fun k => if k = j then l else P k
theorem Pth.set_at (P : Pth) (j : Nat) (l : List (Nat × Int)) : P.set j l j = l := if_pos rfl
theorem Pth.set_ne {P : Pth} {j k : Nat} {l : List (Nat × Int)} (h : k ≠ j) : P.set j l k = P k := if_neg h
/-- How a node was come to: P k is the way to k, the last node first, with how much can be shifted up to there. -/
structure Tree (g : Gr) (f : Nat) (P : Pth) : Prop where
  fr : ∃ v, P f = [(f, v)]
  tr : ∀ k, P k ≠ [] → k < g.N ∧ ((P k).map (·.1)).Nodup ∧ ∃ v t, P k = (k, v) :: t ∧ 1 ≤ v ∧ v ≤ 1099511627776 ∧ (k = f ∧ t = [] ∨ ∃ b w u, b < g.N ∧ t = P b ∧ P b = (b, w) :: u ∧ g.adj b k = true ∧ v ≤ w ∧ v ≤ g.cap b k)
theorem Tree.mem {g : Gr} {f : Nat} {P : Pth} (h : Tree g f P) : ∀ (n k : Nat), (P k).length ≤ n → ∀ i v, (i, v) ∈ P k → P i ≠ []
  | 0, k, hn, i, v, hi => by
    rw [List.eq_nil_of_length_eq_zero (show (P k).length = 0 by omega)] at hi; cases hi
  | n + 1, k, hn, i, v, hi => by
    have hne : P k ≠ [] := fun e => by rw [e] at hi; cases hi
    obtain ⟨_, _, v', t, e, _, _, ht⟩ := h.tr k hne
    rw [e] at hi hn
    rcases List.mem_cons.1 hi with hi | hi
    · injection hi with a b; rw [a]; exact hne
    · rcases ht with ⟨_, rfl⟩ | ⟨b, w, u, _, rfl, _⟩
      · cases hi
      · exact h.mem n b (by simp at hn; omega) i v hi
/-- The search: l is the queue. -/
structure Bfs (g : Gr) (f : Nat) (P : Pth) (l : List Nat) : Prop extends Tree g f P where
  qs : ∀ k, k ∈ l → P k ≠ []
  dn : ∀ k, P k ≠ [] → k ∉ l → ∀ j, j < g.N → g.adj k j = true → P j ≠ []
theorem Bfs.begin {g : Gr} {f : Nat} (hf : f < g.N) {v : Int} (hv : 1 ≤ v) (hv2 : v ≤ 1099511627776) : Bfs g f (Pth.set (fun _ => []) f [(f, v)]) [f] := by
  refine ⟨⟨⟨v, Pth.set_at _ _ _⟩, fun k hk => ?_⟩, fun k hk => ?_, fun k hk hn => ?_⟩
  · by_cases e : k = f
    · subst e
      rw [Pth.set_at]
      exact ⟨hf, by simp, v, [], rfl, hv, hv2, .inl ⟨rfl, rfl⟩⟩
    · rw [Pth.set_ne e] at hk; exact (hk rfl).elim
  · rw [List.mem_singleton.1 hk, Pth.set_at]; simp
  · by_cases e : k = f
    · exact (hn (by rw [e]; exact List.mem_cons_self)).elim
    · rw [Pth.set_ne e] at hk; exact (hk rfl).elim
theorem Bfs.push {g : Gr} {f h j : Nat} {P : Pth} {l : List Nat} {v w : Int} {u : List (Nat × Int)} (B : Bfs g f P (h :: l)) (hj : j < g.N) (hn : P j = []) (he : P h = (h, w) :: u) (ha : g.adj h j = true) (h1 : 1 ≤ v) (h2 : v ≤ w) (h3 : v ≤ g.cap h j) :
    Bfs g f (P.set j ((j, v) :: P h)) (h :: (l ++ [j])) := by
  have hjh : h ≠ j := fun e => by rw [← e, he] at hn; cases hn
  have keep : ∀ k, P k ≠ [] → P.set j ((j, v) :: P h) k = P k := fun k hk => Pth.set_ne fun e => hk (by rw [e]; exact hn)
  have up : ∀ k, P k ≠ [] → P.set j ((j, v) :: P h) k ≠ [] := fun k hk => by rw [keep k hk]; exact hk
  have hhne : P h ≠ [] := by rw [he]; simp
  have hw := B.tr h hhne
  refine ⟨⟨?_, fun k hk => ?_⟩, fun k hk => ?_, fun k hk hl i hi hadj => ?_⟩
  · obtain ⟨v0, h0⟩ := B.fr
    exact ⟨v0, by rw [keep f (by rw [h0]; simp)]; exact h0⟩
  · by_cases e : k = j
    · subst e
      rw [Pth.set_at]
      refine ⟨hj, ?_, v, P h, rfl, h1, ?_, .inr ⟨h, w, u, hw.1, (keep h hhne).symm, by rw [keep h hhne]; exact he, ha, h2, h3⟩⟩
      · rw [List.map_cons, List.nodup_cons]
        refine ⟨fun hm => ?_, hw.2.1⟩
        obtain ⟨⟨i, z⟩, hi, hz⟩ := List.mem_map.1 hm
        simp only at hz
        subst hz
        exact B.mem _ h (Nat.le_refl _) i z hi hn
      · obtain ⟨v', t, e', _, hv', _⟩ := hw.2.2
        rw [he] at e'
        injection e' with e' _
        injection e' with _ e'
        omega
    · rw [Pth.set_ne e] at hk ⊢
      obtain ⟨a, b, v', t, e1, e2, e2', e3⟩ := B.tr k hk
      refine ⟨a, b, v', t, e1, e2, e2', e3.imp id fun ⟨b, w', u', hb, f1, f2, f3⟩ => ⟨b, w', u', hb, ?_, ?_, f3⟩⟩
      · rw [keep b (by rw [f2]; simp)]; exact f1
      · rw [keep b (by rw [f2]; simp)]; exact f2
  · rcases List.mem_cons.1 hk with rfl | hk
    · exact up _ hhne
    · rcases List.mem_append.1 hk with hk | hk
      · exact up k (B.qs k (List.mem_cons_of_mem _ hk))
      · rw [List.mem_singleton.1 hk, Pth.set_at]; simp
  · by_cases e : k = j
    · subst e; exact (hl (by simp)).elim
    · rw [Pth.set_ne e] at hk
      exact up i (B.dn k hk (fun hm => hl (by rcases List.mem_cons.1 hm with h | h <;> simp [h])) i hi hadj)
theorem Bfs.pop {g : Gr} {f h : Nat} {P : Pth} {l : List Nat} (B : Bfs g f P (h :: l)) (hd : ∀ j, j < g.N → g.adj h j = true → P j ≠ []) : Bfs g f P l := by
  refine ⟨B.toTree, fun k hk => B.qs k (List.mem_cons_of_mem _ hk), fun k hk hl j hj ha => ?_⟩
  by_cases e : k = h
  · subst e; exact hd j hj ha
  · exact B.dn k hk (fun hm => (List.mem_cons.1 hm).elim (fun h => e h) hl) j hj ha
/-- How many nodes were not come to. -/
def unv (P : Pth) : Nat → Nat
  | 0 => 0
  | k + 1 => unv P k + if P k = [] then 1 else 0
theorem unv_le (P : Pth) : ∀ n, unv P n ≤ n
  | 0 => Nat.le_refl _
  | k + 1 => by
    have := unv_le P k
    simp only [unv]
    split <;> omega
theorem unv_set {P : Pth} {j : Nat} {q : Nat × Int} {l : List (Nat × Int)} (hn : P j = []) : ∀ n, unv (P.set j (q :: l)) n + (if j < n then 1 else 0) = unv P n
  | 0 => by simp [unv]
  | k + 1 => by
    have ih := unv_set (q := q) (l := l) hn k
    simp only [unv]
    by_cases e : k = j
    · subst e
      rw [Pth.set_at, if_neg (by simp), hn, if_pos rfl, if_pos (Nat.lt_succ_self k)]
      rw [if_neg (Nat.lt_irrefl k)] at ih
      omega
    · rw [Pth.set_ne e]
      by_cases hjk : j < k
      · rw [if_pos hjk] at ih
        rw [if_pos (show j < k + 1 by omega)]
        omega
      · rw [if_neg hjk] at ih
        rw [if_neg (show ¬ j < k + 1 by omega)]
        omega
theorem unv_push {P : Pth} {j n : Nat} {q : Nat × Int} {l : List (Nat × Int)} (hn : P j = []) (hj : j < n) : unv (P.set j (q :: l)) n + 1 = unv P n := by
  have := unv_set (q := q) (l := l) hn n
  rw [if_pos hj] at this
  exact this
/-- The way as nodes. -/
def nds (R : Nat) (p : List (Nat × Int)) : List Nd := p.map fun q => nd R q.1
theorem nd_row {R k : Nat} (h : k < R) : nd R k = (true, k) := if_pos h
theorem nd_col (R c : Nat) : nd R (R + c) = (false, c) := by unfold nd; rw [if_neg (by omega), show R + c - R = c by omega]
theorem nd_inj {R : Nat} : Function.Injective (nd R) := fun a b h => by
  unfold nd at h
  split at h <;> split at h <;> injection h with h1 h2 <;> first | omega | cases h1
theorem nodup_map_inj {α β : Type} {f : α → β} (hf : Function.Injective f) : ∀ {l : List α}, l.Nodup → (l.map f).Nodup
  | [], _ => List.nodup_nil
  | a :: t, h => by
    rw [List.nodup_cons] at h
    rw [List.map_cons, List.nodup_cons]
    refine ⟨fun hm => ?_, nodup_map_inj hf h.2⟩
    obtain ⟨b, hb, e⟩ := List.mem_map.1 hm
    exact h.1 (hf e ▸ hb)
/-- What is known of a way whose last node stands first. -/
structure Chn (g : Gr) (f : Nat) (p : List (Nat × Int)) : Prop where
  ne : p ≠ []
  nod : (p.map (·.1)).Nodup
  lt : ∀ q, q ∈ p → q.1 < g.N
  last : (p.getLast ne).1 = f
  stp : ∀ e, e ∈ stepsB (nds g.R p) → ∃ a b, e = (nd g.R a, nd g.R b) ∧ g.adj a b = true ∧ (p.head ne).2 ≤ g.cap a b
  pos : 1 ≤ (p.head ne).2
theorem Tree.chn {g : Gr} {f : Nat} {P : Pth} (h : Tree g f P) : ∀ (n k : Nat), (P k).length ≤ n → P k ≠ [] → Chn g f (P k)
  | 0, k, hn, hk => (hk (List.eq_nil_of_length_eq_zero (by omega))).elim
  | n + 1, k, hn, hk => by
    obtain ⟨h1, h2, v, t, e, hv, _, ht⟩ := h.tr k hk
    rcases ht with ⟨rfl, rfl⟩ | ⟨b, w, u, hb, rfl, e2, ha, hvw, hvc⟩
    · refine ⟨hk, h2, fun q hq => ?_, ?_, fun x hx => ?_, ?_⟩
      · rw [e] at hq; rw [List.mem_singleton.1 hq]; exact h1
      · simp [e]
      · rw [e] at hx; cases hx
      · simp [e]; exact hv
    · have hbn : P b ≠ [] := by rw [e2]; simp
      have ih := h.chn n b (by rw [e] at hn; simp at hn; omega) hbn
      refine ⟨hk, h2, fun q hq => ?_, ?_, fun x hx => ?_, ?_⟩
      · rw [e] at hq
        rcases List.mem_cons.1 hq with rfl | hq
        · exact h1
        · exact ih.lt q hq
      · simp only [e]
        rw [List.getLast_cons hbn]
        exact ih.last
      · have hs : stepsB (nds g.R (P k)) = (nd g.R b, nd g.R k) :: stepsB (nds g.R (P b)) := by
          rw [e, e2]; rfl
        rw [hs] at hx
        have hh : ((P k).head hk).2 = v := by simp [e]
        have hh2 : ((P b).head hbn).2 = w := by simp [e2]
        rw [hh]
        rcases List.mem_cons.1 hx with rfl | hx
        · exact ⟨b, k, rfl, ha, hvc⟩
        · obtain ⟨a', b', e', a1, a2⟩ := ih.stp x hx
          exact ⟨a', b', e', a1, by rw [hh2] at a2; omega⟩
      · simp [e]; exact hv
theorem Tree.chn' {g : Gr} {f k : Nat} {P : Pth} (h : Tree g f P) (hk : P k ≠ []) : Chn g f (P k) := h.chn _ k (Nat.le_refl _) hk
/-- One step more. -/
theorem Chn.cons {g : Gr} {f b k : Nat} {v w : Int} {u : List (Nat × Int)} (ih : Chn g f ((b, w) :: u)) (hk : k < g.N) (hn : k ∉ ((b, w) :: u).map (·.1)) (ha : g.adj b k = true) (hv : 1 ≤ v) (hvw : v ≤ w) (hvc : v ≤ g.cap b k) : Chn g f ((k, v) :: (b, w) :: u) := by
  refine ⟨by simp, by rw [List.map_cons]; exact List.nodup_cons.2 ⟨hn, ih.nod⟩, fun q hq => ?_, ?_, fun x hx => ?_, hv⟩
  · rcases List.mem_cons.1 hq with rfl | hq
    · exact hk
    · exact ih.lt q hq
  · rw [List.getLast_cons (by simp)]; exact ih.last
  · have hs : stepsB (nds g.R ((k, v) :: (b, w) :: u)) = (nd g.R b, nd g.R k) :: stepsB (nds g.R ((b, w) :: u)) := rfl
    rw [hs] at hx
    rcases List.mem_cons.1 hx with rfl | hx
    · exact ⟨b, k, rfl, ha, hvc⟩
    · obtain ⟨a', b', e', a1, a2⟩ := ih.stp x hx
      exact ⟨a', b', e', a1, by simp only [List.head_cons] at a2 ⊢; omega⟩
theorem al_d {g : Gr} {a b : Nat} (h : g.al a b = true) : ((a < g.R ∧ g.R ≤ b) ∨ (g.R ≤ a ∧ b < g.R)) ∧ outS g.m (cellOf g.R a b).1 (cellOf g.R a b).2 = true ∧ ¬ ((cellOf g.R a b).1 = g.r0 ∧ (cellOf g.R a b).2 = g.c0) := by
  unfold Gr.al at h
  simp only [Bool.and_eq_true, decide_eq_true_eq, Bool.not_eq_true', decide_eq_false_iff_not] at h
  exact ⟨h.1.1, h.1.2, h.2⟩
theorem adj_d {g : Gr} {a b : Nat} (h : g.adj a b = true) : g.al a b = true ∧ 0 < g.cap a b := by
  unfold Gr.adj at h
  simpa only [Bool.and_eq_true, decide_eq_true_eq] using h
/-- A way that was found shifts the amount. down: it begins with the row. -/
theorem Chn.way {g : Gr} {s : Sheet} {down : Bool} {p : List (Nat × Int)} {f t : Nat} (hR : g.R = s.R) (hC : g.C = s.C) (h : Chn g f p) (hf : f = if down then g.r0 else g.R + g.c0) (ht : t = if down then g.R + g.c0 else g.r0) (hr : g.r0 < s.R) (hp : (p.head h.ne).1 = t) : WayFor s g.m g.r0 g.c0 down (nds g.R p) := by
  have hne : nds g.R p ≠ [] := by unfold nds; simpa using h.ne
  refine ⟨⟨?_, fun u hu => ?_, fun e he => ?_⟩, hne, ?_, ?_, fun r c hrc => ?_⟩
  · unfold nds
    have := nodup_map_inj (nd_inj (R := g.R)) h.nod
    rwa [List.map_map] at this
  · obtain ⟨q, hq, rfl⟩ := List.mem_map.1 hu
    have hlt : q.1 < g.R + g.C := h.lt q hq
    unfold nd
    by_cases hk : q.1 < g.R
    · rw [if_pos hk]; simp; omega
    · rw [if_neg hk]; simp; omega
  · obtain ⟨a, b, rfl, h1, _⟩ := h.stp e he
    have := (al_d (adj_d h1).1).1
    rcases this with ⟨x, y⟩ | ⟨x, y⟩
    · unfold nd; rw [if_pos x, if_neg (by omega)]; rfl
    · unfold nd; rw [if_neg (by omega), if_pos y]; rfl
  · have e1 : (nds g.R p).getLast hne = nd g.R (p.getLast h.ne).1 := List.getLast_map (l := p) (f := fun q : Nat × Int => nd g.R q.1) hne
    rw [e1, h.last, hf]
    cases down
    · simp only [Bool.false_eq_true, if_false]; exact nd_col _ _
    · simp only [if_true]; exact nd_row (by omega)
  · have e1 : (nds g.R p).head hne = nd g.R (p.head h.ne).1 := List.head_map (l := p) (f := fun q : Nat × Int => nd g.R q.1) hne
    rw [e1, hp, ht]
    cases down
    · simp only [Bool.false_eq_true, if_false]; exact nd_row (by omega)
    · simp only [if_true]; exact nd_col _ _
  · have key : ∀ a b, g.adj a b = true → ((nd g.R a = (true, r) ∧ nd g.R b = (false, c)) ∨ (nd g.R a = (false, c) ∧ nd g.R b = (true, r))) → outS g.m r c = true ∧ ¬ (r = g.r0 ∧ c = g.c0) := by
      intro a b hab hh
      obtain ⟨k1, k2, k3⟩ := al_d (adj_d hab).1
      have e1 : cellOf g.R a b = (r, c) := by
        unfold nd at hh
        unfold cellOf
        rcases k1 with ⟨x, y⟩ | ⟨x, y⟩
        · rw [if_pos x, if_neg (by omega)] at hh
          rw [if_pos x]
          rcases hh with ⟨h1, h2⟩ | ⟨h1, h2⟩
          · injection h1 with _ h1; injection h2 with _ h2; rw [h1, h2]
          · cases h1
        · rw [if_neg (by omega), if_pos y] at hh
          rw [if_neg (by omega)]
          rcases hh with ⟨h1, h2⟩ | ⟨h1, h2⟩
          · cases h1
          · injection h1 with _ h1; injection h2 with _ h2; rw [h1, h2]
      rw [e1] at k2 k3
      exact ⟨k2, k3⟩
    rcases hrc with hm | hm
    · obtain ⟨a, b, e, h1, _⟩ := h.stp _ hm
      injection e with e1 e2
      exact key a b h1 (.inl ⟨e1.symm, e2.symm⟩)
    · obtain ⟨a, b, e, h1, _⟩ := h.stp _ hm
      injection e with e1 e2
      exact key a b h1 (.inr ⟨e1.symm, e2.symm⟩)
theorem nd_of_row {R a r : Nat} (h : nd R a = (true, r)) : a = r ∧ a < R := by
  unfold nd at h
  split at h
  · injection h with _ h; exact ⟨h, by omega⟩
  · cases h
theorem nd_of_col {R a c : Nat} (h : nd R a = (false, c)) : a = R + c := by
  unfold nd at h
  split at h
  · cases h
  · injection h with _ h; omega
/-- What the steps of a way take away is there. -/
theorem Chn.cap_col {g : Gr} {f : Nat} {p : List (Nat × Int)} (h : Chn g f p) (hd : g.dr = false) {r c : Nat} (hm : ((false, c), (true, r)) ∈ stepsB (nds g.R p)) : (p.head h.ne).2 ≤ g.x r c := by
  obtain ⟨a, b, e, h1, h2⟩ := h.stp _ hm
  injection e with e1 e2
  obtain rfl := nd_of_col e1.symm
  obtain ⟨rfl, hb⟩ := nd_of_row e2.symm
  unfold Gr.cap cellOf at h2
  rw [if_pos (by rw [hd]; exact decide_eq_false (by omega)), if_neg (show ¬ g.R + c < g.R by omega)] at h2
  simpa [show g.R + c - g.R = c by omega] using h2
theorem Chn.cap_row {g : Gr} {f : Nat} {p : List (Nat × Int)} (h : Chn g f p) (hd : g.dr = true) {r c : Nat} (hm : ((true, r), (false, c)) ∈ stepsB (nds g.R p)) : (p.head h.ne).2 ≤ g.x r c := by
  obtain ⟨a, b, e, h1, h2⟩ := h.stp _ hm
  injection e with e1 e2
  obtain ⟨rfl, ha⟩ := nd_of_row e1.symm
  obtain rfl := nd_of_col e2.symm
  unfold Gr.cap cellOf at h2
  rw [if_pos (by rw [hd]; exact decide_eq_true ha), if_pos ha] at h2
  simpa [show g.R + c - g.R = c by omega] using h2
/-- Nothing leads out of a set of rows and columns. -/
structure Shut (g : Gr) (p q : Nat → Bool) : Prop where
  rc : ∀ r c, r < g.R → c < g.C → p r = true → q c = false → g.adj r (g.R + c) = false
  cr : ∀ r c, r < g.R → c < g.C → p r = false → q c = true → g.adj (g.R + c) r = false
theorem adj_rc {g : Gr} {r c : Nat} (hr : r < g.R) (h : g.adj r (g.R + c) = false) (hn : ¬ (r = g.r0 ∧ c = g.c0)) : outS g.m r c = false ∨ (g.dr = true ∧ g.x r c ≤ 0) := by
  cases ho : outS g.m r c
  · exact .inl rfl
  · right
    have e1 : cellOf g.R r (g.R + c) = (r, c) := by unfold cellOf; rw [if_pos hr, show g.R + c - g.R = c by omega]
    have hal : g.al r (g.R + c) = true := by
      unfold Gr.al
      rw [e1]
      simp only [Bool.and_eq_true, decide_eq_true_eq, Bool.not_eq_true', decide_eq_false_iff_not]
      exact ⟨⟨.inl ⟨hr, by omega⟩, ho⟩, hn⟩
    unfold Gr.adj at h
    rw [hal, Bool.true_and, decide_eq_false_iff_not] at h
    unfold Gr.cap at h
    rw [e1] at h
    rw [decide_eq_true hr] at h
    split at h
    · rename_i e; exact ⟨e.symm, by simp only at h; omega⟩
    · omega
theorem adj_cr {g : Gr} {r c : Nat} (hr : r < g.R) (h : g.adj (g.R + c) r = false) (hn : ¬ (r = g.r0 ∧ c = g.c0)) : outS g.m r c = false ∨ (g.dr = false ∧ g.x r c ≤ 0) := by
  cases ho : outS g.m r c
  · exact .inl rfl
  · right
    have e1 : cellOf g.R (g.R + c) r = (r, c) := by unfold cellOf; rw [if_neg (by omega), show g.R + c - g.R = c by omega]
    have hal : g.al (g.R + c) r = true := by
      unfold Gr.al
      rw [e1]
      simp only [Bool.and_eq_true, decide_eq_true_eq, Bool.not_eq_true', decide_eq_false_iff_not]
      exact ⟨⟨.inr ⟨by omega, hr⟩, ho⟩, hn⟩
    unfold Gr.adj at h
    rw [hal, Bool.true_and, decide_eq_false_iff_not] at h
    unfold Gr.cap at h
    rw [e1] at h
    rw [decide_eq_false (show ¬ g.R + c < g.R by omega)] at h
    split at h
    · rename_i e; exact ⟨e.symm, by simp only at h; omega⟩
    · omega
/-- A search that did not come to its end shuts in what it came to. -/
theorem Bfs.shut {g : Gr} {f : Nat} {P : Pth} (B : Bfs g f P []) : Shut g (fun r => !(P r).isEmpty) (fun c => !(P (g.R + c)).isEmpty) := by
  refine ⟨fun r c hr hc h1 h2 => ?_, fun r c hr hc h1 h2 => ?_⟩
  · cases h : g.adj r (g.R + c)
    · rfl
    · exfalso
      have := B.dn r (fun e => by rw [e] at h1; cases h1) (by simp) (g.R + c) (by unfold Gr.N; omega) h
      cases hP : P (g.R + c) with
      | nil => exact this hP
      | cons => rw [hP] at h2; cases h2
  · cases h : g.adj (g.R + c) r
    · rfl
    · exfalso
      have := B.dn (g.R + c) (fun e => by rw [e] at h2; cases h2) (by simp) r (by unfold Gr.N; omega) h
      cases hP : P r with
      | nil => exact this hP
      | cons => rw [hP] at h1; cases h1
section
variable {g : Gr} {s : Sheet} {p q : Nat → Bool}
theorem Shut.hi_row (hR : g.R = s.R) (hC : g.C = s.C) (S : Shut g p q) (hr0 : g.r0 < s.R) (hc0 : g.c0 < s.C) (hd : g.dr = true) (hp : p g.r0 = true) (hq : q g.c0 = false) (hx : Ag s g.m g.x) : ∀ y, Ag s g.m y → y g.r0 g.c0 ≤ g.x g.r0 g.c0 := fun y hy =>
  cut_hi2 hr0 hc0 p q hp hq
    (fun r c hr hc h1 h2 hn => (adj_rc (by omega) (S.rc r c (by omega) (by omega) h1 h2) hn).imp id fun h => by have := hx.nn r c hr hc; omega)
    (fun r c hr hc h1 h2 => by
      rcases adj_cr (by omega) (S.cr r c (by omega) (by omega) h1 h2) (by rintro ⟨rfl, rfl⟩; rw [hp] at h1; cases h1) with h | h
      · exact h
      · rw [hd] at h; cases h.1) hx hy
theorem Shut.lo_row (hR : g.R = s.R) (hC : g.C = s.C) (S : Shut g p q) (hr0 : g.r0 < s.R) (hc0 : g.c0 < s.C) (hd : g.dr = false) (hp : p g.r0 = true) (hq : q g.c0 = false) (hx : Ag s g.m g.x) : ∀ y, Ag s g.m y → g.x g.r0 g.c0 ≤ y g.r0 g.c0 := fun y hy =>
  cut_lo hr0 hc0 p q hp hq
    (fun r c hr hc h1 h2 hn => by
      rcases adj_rc (by omega) (S.rc r c (by omega) (by omega) h1 h2) hn with h | h
      · exact h
      · rw [hd] at h; cases h.1)
    (fun r c hr hc h1 h2 => (adj_cr (by omega) (S.cr r c (by omega) (by omega) h1 h2) (by rintro ⟨rfl, rfl⟩; rw [hp] at h1; cases h1)).imp id fun h => by have := hx.nn r c hr hc; omega) hx hy
end
end Go.Proofs.Ytlffjnmbpoemnaa

namespace Go.Proofs.Ytlffjnmbpoemnaa
open Go.RowKit

abbrev rowN (L : List Nat) : AB := .row L.length 1 (fun k _ => AI ((L.getD k 0 : Nat) : Int))
abbrev one0 (t : Nat) : AV := .sl false true 1 1 (fun _ _ => AI t)
theorem drop_c {L : List Nat} {k h : Nat} {l : List Nat} (e : L.drop k = h :: l) : k < L.length ∧ L.getD k 0 = h ∧ L.drop (k + 1) = l ∧ L.length = k + 1 + l.length := by
  have hk : k < L.length := by
    rcases Nat.lt_or_ge k L.length with h' | h'
    · exact h'
    · rw [List.drop_eq_nil_of_le h'] at e; cases e
  rw [drop_eq 0 hk] at e
  injection e with e1 e2
  refine ⟨hk, e1, e2, ?_⟩
  have := congrArg List.length e2
  rw [List.length_drop] at this
  omega
theorem Ln.oslE {σ : Nat → Nat → Prop} {Bp : Nat → Prop} {H : List AB} {d sz lo n n' i : Nat} (h : σ d i) (e : n = n') : Ln σ Bp H (.osl d sz lo n) (.osl i sz lo n') := e ▸ .osl d sz lo n i h
theorem Ln.osl0E {σ : Nat → Nat → Prop} {Bp : Nat → Prop} {H : List AB} {d sz n n' i : Nat} (h : σ d i) (e : n = n') : Ln σ Bp H (.own d n) (.osl i sz 0 n') := e ▸ .osl0 d sz n i h
theorem len_sn {α : Type} {L : List α} {p : α} : (L ++ [p]).length = L.length + 1 := by simp
theorem drop_sn {α : Type} {L l : List α} {k : Nat} {p : α} (hk : k ≤ L.length) (e : L.drop k = l) : (L ++ [p]).drop k = l ++ [p] := by
  rw [List.drop_append_of_le_length hk, e]
theorem getD_sn (L : List Nat) (p i : Nat) : (L ++ [p]).getD i 0 = if i < L.length then L.getD i 0 else if i = L.length then p else 0 := by
  simp only [List.getD]
  by_cases h : i < L.length
  · rw [if_pos h, List.getElem?_append_left h]
  · rw [if_neg h, List.getElem?_append_right (by omega)]
    by_cases h2 : i = L.length
    · subst h2; simp
    · rw [if_neg h2, List.getElem?_eq_none (by simp; omega)]; rfl
/-- No more than there is room for. -/
theorem pig {α : Type} [DecidableEq α] : ∀ {l1 l2 : List α}, l1.Nodup → (∀ x, x ∈ l1 → x ∈ l2) → l1.length ≤ l2.length
  | [], _, _, _ => Nat.zero_le _
  | x :: l1, l2, h1, h2 => by
    have hx := h2 x List.mem_cons_self
    have hn := List.nodup_cons.1 h1
    have := pig (l1 := l1) (l2 := l2.erase x) hn.2 (fun y hy => by
      refine (List.mem_erase_of_ne ?_).2 (h2 y (List.mem_cons_of_mem _ hy))
      intro e
      subst e
      exact hn.1 hy)
    rw [List.length_erase_of_mem hx] at this
    have hp : 0 < l2.length := List.length_pos_of_mem hx
    simp only [List.length_cons]
    omega
/-- From which node a node was come to; -1: it was not. -/
def befI : List (Nat × Int) → Int
  | [] => -1
  | [a] => a.1
  | _ :: b :: _ => b.1
abbrev befR (P : Pth) (N : Nat) : AB := rowF N (fun k => befI (P k))
/-- The rest of a way is the way to its first node. -/
theorem Tree.sub {g : Gr} {f : Nat} {P : Pth} (h : Tree g f P) : ∀ (i k : Nat), i < (P k).length → P ((P k).getD i (0, 0)).1 = (P k).drop i
  | 0, k, hi => by
    have hk : P k ≠ [] := fun e => by rw [e] at hi; exact absurd hi (Nat.not_lt_zero _)
    obtain ⟨_, _, v, t, e, _⟩ := h.tr k hk
    rw [e]
    show P k = _
    rw [e]; rfl
  | i + 1, k, hi => by
    have hk : P k ≠ [] := fun e => by rw [e] at hi; exact absurd hi (Nat.not_lt_zero _)
    obtain ⟨_, _, v, t, e, _, _, ht⟩ := h.tr k hk
    rcases ht with ⟨_, rfl⟩ | ⟨b, w, u, _, rfl, _⟩
    · rw [e] at hi; simp at hi
    · rw [e] at hi
      rw [e, List.drop_succ_cons, List.getD_cons_succ]
      exact h.sub i b (by simpa using hi)
theorem chn_last {g : Gr} {f : Nat} {p : List (Nat × Int)} (h : Chn g f p) {i : Nat} (hi : i < p.length) : (p.getD i (0, 0)).1 = f ↔ i = p.length - 1 := by
  have h0 : 0 < p.length := List.length_pos_iff.2 h.ne
  have hl : (p.getD (p.length - 1) (0, 0)).1 = f := by
    have := h.last
    rw [List.getLast_eq_getElem] at this
    rw [← this]
    simp [List.getD, List.getElem?_eq_getElem (show p.length - 1 < p.length by omega)]
  constructor
  · intro e
    have e2 : (p.map (·.1))[i]? = (p.map (·.1))[p.length - 1]? := by
      rw [← hl] at e
      simp only [List.getD, List.getElem?_eq_getElem hi, List.getElem?_eq_getElem (show p.length - 1 < p.length by omega), Option.getD_some] at e
      simp [List.getElem?_eq_getElem hi, List.getElem?_eq_getElem (show p.length - 1 < p.length by omega), e]
    exact (List.getElem?_inj (by simpa using hi) h.nod).1 e2
  · rintro rfl; exact hl
/-- A node of a way, counted from its end. -/
def atW (p : List (Nat × Int)) (i : Nat) : Nat := (p.getD i (0, 0)).1
theorem atW_lt {g : Gr} {f : Nat} {p : List (Nat × Int)} (h : Chn g f p) {i : Nat} (hi : i < p.length) : atW p i < g.N := by
  unfold atW
  simp only [List.getD, List.getElem?_eq_getElem hi, Option.getD_some]
  exact h.lt _ (List.getElem_mem hi)
/-- What is written of a way so far, the first node first. -/
abbrev rowW (p : List (Nat × Int)) (k : Nat) : AB := .row (k + 1) 1 (fun i _ => AI ((atW p (k - i) : Nat) : Int))
abbrev aMat (R C : Nat) (x : Nat → Nat → Int) : AV := .sl false false R 1 (fun r _ => aFun C (x r))
/-- A queue: a literal at first, then the rest of an own row. -/
def qV (f : Nat) (e : Nat) (L : List Nat) : AV := match e, L with
  | 0, [] => .sl false true 0 1 (fun _ _ => .bot)
  | 0, _ :: _ => one0 f
  | k + 1, L => .osl 1 1 k (L.length - k)
def qW (e : Nat) (L : List Nat) : AV := match e with
  | 0 => .sl false true 0 1 (fun _ _ => .bot)
  | k + 1 => .osl 1 1 k (L.length - k)
def qB (e : Nat) (L : List Nat) : List AB := match e with
  | 0 => []
  | _ + 1 => [rowN L]
/-- The graph of the reference's search. -/
abbrev gRef (s : Sheet) (m : List Int) (r0 c0 : Nat) (x : Nat → Nat → Int) : Gr := ⟨s.R, s.C, m, r0, c0, x, false⟩
theorem al_rc {g : Gr} {h j : Nat} (hh : h < g.R) (hj : g.R ≤ j) : g.al h j = (outS g.m h (j - g.R) && !decide (h = g.r0 ∧ j - g.R = g.c0)) := by
  unfold Gr.al cellOf
  rw [if_pos hh, decide_eq_true (.inl ⟨hh, hj⟩), Bool.true_and]
theorem al_cr {g : Gr} {h j : Nat} (hh : g.R ≤ h) (hj : j < g.R) : g.al h j = (outS g.m j (h - g.R) && !decide (j = g.r0 ∧ h - g.R = g.c0)) := by
  unfold Gr.al cellOf
  rw [if_neg (by omega), decide_eq_true (.inr ⟨hh, hj⟩), Bool.true_and]
theorem adj_rr {g : Gr} {h j : Nat} (hh : h < g.R) (hj : j < g.R) : g.adj h j = false := by
  unfold Gr.adj Gr.al
  rw [decide_eq_false (show ¬ ((h < g.R ∧ g.R ≤ j) ∨ (g.R ≤ h ∧ j < g.R)) by omega)]; rfl
theorem adj_cc {g : Gr} {h j : Nat} (hh : g.R ≤ h) (hj : g.R ≤ j) : g.adj h j = false := by
  unfold Gr.adj Gr.al
  rw [decide_eq_false (show ¬ ((h < g.R ∧ g.R ≤ j) ∨ (g.R ≤ h ∧ j < g.R)) by omega)]; rfl
theorem cap_rc {g : Gr} {h j : Nat} (hh : h < g.R) : g.cap h j = if g.dr = true then g.x h (j - g.R) else 1099511627776 := by
  unfold Gr.cap cellOf
  rw [show (if h < g.R then (h, j - g.R) else (j, h - g.R)) = (h, j - g.R) from if_pos hh, decide_eq_true hh]
  by_cases e : g.dr = true
  · rw [if_pos e, if_pos e.symm]
  · rw [if_neg e, if_neg (fun h => e h.symm)]
theorem cap_cr {g : Gr} {h j : Nat} (hh : g.R ≤ h) : g.cap h j = if g.dr = true then 1099511627776 else g.x j (h - g.R) := by
  unfold Gr.cap cellOf
  rw [show (if h < g.R then (h, j - g.R) else (j, h - g.R)) = (j, h - g.R) from if_neg (by omega), decide_eq_false (show ¬ h < g.R by omega)]
  cases g.dr
  · rw [if_pos rfl, if_neg (by decide)]
  · rw [if_neg (by decide), if_pos rfl]
end Go.Proofs.Ytlffjnmbpoemnaa

namespace Go.Proofs.Ytlffjnmbpoemnaa
open Go.RowKit

theorem no_next {g : Gr} {h j : Nat} {P : Pth} (hno : ∀ i, i < j → g.adj h i = true → P i ≠ []) (k : g.adj h j = true → P j ≠ []) : ∀ i, i < j + 1 → g.adj h i = true → P i ≠ [] := fun i hi ha => by
  by_cases e : i = j
  · subst e; exact k ha
  · exact hno i (by omega) ha
theorem no_push' {g : Gr} {h j : Nat} {P : Pth} {q : Nat × Int} {l : List (Nat × Int)} (hno : ∀ i, i < j → g.adj h i = true → P i ≠ []) (hj : P j = []) : ∀ i, i < j + 1 → g.adj h i = true → P.set j (q :: l) i ≠ [] := fun i hi ha => by
  by_cases e : i = j
  · subst e; rw [Pth.set_at]; simp
  · rw [Pth.set_ne e]; exact hno i (by omega) ha
theorem sumTo_shift (f : Nat → Int) : ∀ n, sumTo f (n + 1) = f 0 + sumTo (fun j => f (j + 1)) n
  | 0 => by simp [sumTo]
  | n + 1 => by
    have e : sumTo f (n + 1 + 1) = sumTo f (n + 1) + f (n + 1) := rfl
    have e2 : sumTo (fun j => f (j + 1)) (n + 1) = sumTo (fun j => f (j + 1)) n + f (n + 1) := rfl
    rw [e, sumTo_shift f n, e2]; omega
/-- The step into the j-th node of a way, counted from its end. -/
def stE (R : Nat) (p : List (Nat × Int)) (j r c : Nat) : Int := stepE (nd R (atW p (j + 1))) (nd R (atW p j)) r c
theorem sumE_idx (R r c : Nat) : ∀ p : List (Nat × Int), sumE (stepsB (nds R p)) r c = sumTo (fun j => stE R p j r c) (p.length - 1)
  | [] => rfl
  | [a] => rfl
  | a :: b :: t => by
    have ih := sumE_idx R r c (b :: t)
    have e1 : sumE (stepsB (nds R (a :: b :: t))) r c = stepE (nd R b.1) (nd R a.1) r c + sumE (stepsB (nds R (b :: t))) r c := rfl
    have e2 : (a :: b :: t).length - 1 = (b :: t).length - 1 + 1 := rfl
    rw [e1, ih, e2, sumTo_shift]; rfl
theorem stepsB_idx (R : Nat) : ∀ (p : List (Nat × Int)) (j : Nat), j + 1 < p.length → (nd R (atW p (j + 1)), nd R (atW p j)) ∈ stepsB (nds R p)
  | [], j, h => absurd h (by simp)
  | [a], j, h => absurd h (by simp)
  | a :: b :: t, 0, _ => List.mem_cons_self
  | a :: b :: t, j + 1, h => List.mem_cons_of_mem _ (stepsB_idx R (b :: t) j (by simpa using h))
theorem Chn.adj {g : Gr} {f : Nat} {p : List (Nat × Int)} (h : Chn g f p) {j : Nat} (hj : j + 1 < p.length) : g.adj (atW p (j + 1)) (atW p j) = true := by
  obtain ⟨a, b, e, h1, _⟩ := h.stp _ (stepsB_idx g.R p j hj)
  injection e with e1 e2
  rw [nd_inj e1, nd_inj e2]; exact h1
theorem stepE_bd (u v : Nd) (r c : Nat) : -1 ≤ stepE u v r c ∧ stepE u v r c ≤ 1 := by
  unfold stepE
  split <;> split <;> omega
theorem stE_bd {f : Nat → Int} (h : ∀ i, -1 ≤ f i ∧ f i ≤ 1) (k : Nat) : -(k : Int) ≤ sumTo f k ∧ sumTo f k ≤ k := by
  have := sumTo_bd (f := f) (B := 1) (by decide) (k := k) fun i _ => h i
  omega
/-- Amounts in which some steps of a way are done: the first ones, or the last ones first. -/
def doneF (R : Nat) (p : List (Nat × Int)) (n : Nat) (x : Nat → Nat → Int) (i r c : Nat) : Int := x r c + sumTo (fun t => stE R p (n - 1 - t) r c) i
theorem stE_rc {R : Nat} {p : List (Nat × Int)} {j a b : Nat} (h1 : atW p (j + 1) = a) (h2 : atW p j = b) (ha : a < R) (hb : R ≤ b) (r c : Nat) : stE R p j r c = if r = a ∧ c = b - R then 1 else 0 := by
  unfold stE stepE
  rw [h1, h2, nd_row ha, show nd R b = (false, b - R) from if_neg (by omega)]; rfl
theorem stE_cr {R : Nat} {p : List (Nat × Int)} {j a b : Nat} (h1 : atW p (j + 1) = a) (h2 : atW p j = b) (ha : R ≤ a) (hb : b < R) (r c : Nat) : stE R p j r c = if r = b ∧ c = a - R then -1 else 0 := by
  unfold stE stepE
  rw [h1, h2, nd_row hb, show nd R a = (false, a - R) from if_neg (by omega)]; rfl
theorem LnB.rwg1 {σ : Nat → Nat → Prop} {Bp : Nat → Prop} {H : List AB} {n : Nat} {c c' : Nat → Nat → AV} (h0 : Ln σ Bp H (c 0 0) (c' 0 0)) (hn : 1 ≤ n) : LnB σ Bp H (.rwg n 1 c) (.rwg 1 1 c') := by
  refine ⟨rfl, hn, fun k hk o ho => ?_⟩
  obtain rfl : k = 0 := by omega
  obtain rfl : o = 0 := by omega
  exact h0
theorem LnB.rwg2 {σ : Nat → Nat → Prop} {Bp : Nat → Prop} {H : List AB} {n : Nat} {c c' : Nat → Nat → AV} (h0 : Ln σ Bp H (c 0 0) (c' 0 0)) (h1 : Ln σ Bp H (c 1 0) (c' 1 0)) (hn : 2 ≤ n) : LnB σ Bp H (.rwg n 1 c) (.rwg 2 1 c') := by
  refine ⟨rfl, hn, fun k hk o ho => ?_⟩
  obtain rfl : o = 0 := by omega
  have : k = 0 ∨ k = 1 := by omega
  rcases this with rfl | rfl
  · exact h0
  · exact h1
theorem LnB.rwg3 {σ : Nat → Nat → Prop} {Bp : Nat → Prop} {H : List AB} {n : Nat} {c c' : Nat → Nat → AV} (h0 : Ln σ Bp H (c 0 0) (c' 0 0)) (h1 : Ln σ Bp H (c 1 0) (c' 1 0)) (h2 : Ln σ Bp H (c 2 0) (c' 2 0)) (hn : 3 ≤ n) : LnB σ Bp H (.rwg n 1 c) (.rwg 3 1 c') := by
  refine ⟨rfl, hn, fun k hk o ho => ?_⟩
  obtain rfl : o = 0 := by omega
  have : k = 0 ∨ k = 1 ∨ k = 2 := by omega
  rcases this with rfl | rfl | rfl
  · exact h0
  · exact h1
  · exact h2
theorem FIdx.eqN {j : Int} {n : Nat} {K : Nat → Prop} (m : Nat) (h : j = m) (hm : m < n) (k : K m) : FIdx j n K := by subst h; exact ⟨⟨by omega, by omega⟩, by simpa using k⟩
theorem Ln.mat {σ : Nat → Nat → Prop} {Bp : Nat → Prop} {H : List AB} {d R C N : Nat} {c : Nat → Nat → AV} {x : Nat → Nat → Int} (h : Bp d) (hd : H[d]? = some (.rwg N 1 c)) (hn : R ≤ N) (hc : ∀ k, k < R → Ln σ Bp H (c k 0) (aFun C (x k))) : Ln σ Bp H (.own d R) (aMat R C x) :=
  Ln.pubg d R N 1 c _ h hd hn (fun k hk o ho => by obtain rfl : o = 0 := (by omega); exact hc k hk) (fun _ _ _ _ => trivial)
theorem below1 {p : Nat → Prop} (h0 : p 0) : ∀ k, k < 1 → p k := fun k hk => by obtain rfl : k = 0 := (by omega); exact h0
theorem below2 {p : Nat → Prop} (h0 : p 0) (h1 : p 1) : ∀ k, k < 2 → p k := fun k hk => by
  have : k = 0 ∨ k = 1 := by omega
  rcases this with rfl | rfl
  · exact h0
  · exact h1
theorem below3 {p : Nat → Prop} (h0 : p 0) (h1 : p 1) (h2 : p 2) : ∀ k, k < 3 → p k := fun k hk => by
  have : k = 0 ∨ k = 1 ∨ k = 2 := by omega
  rcases this with rfl | rfl | rfl
  · exact h0
  · exact h1
  · exact h2
theorem LnB.offR {σ : Nat → Nat → Prop} {Bp : Nat → Prop} {H : List AB} {C : Nat} {y y' : Nat → Int} (h : ∀ j, y' j = y j) : LnB σ Bp H (.row C 1 (fun j _ => AI (y j))) (rowF C y') :=
  LnB.rowE (Nat.le_refl _) fun j _ _ _ => int_eq (h j)
theorem LnB.hitR {σ : Nat → Nat → Prop} {Bp : Nat → Prop} {H : List AB} {C c : Nat} {v : Int} {y y' : Nat → Int} (h : ∀ j, y' j = if j = c then v else y j) : LnB σ Bp H (.row C 1 (updRm (fun j _ => AI (y j)) c (elemC (AI v)))) (rowF C y') :=
  LnB.rowE (Nat.le_refl _) fun j _ o ho => by
    show AI (y' j) = _
    rw [h]
    simp only [updRm]
    by_cases e : j = c
    · rw [if_pos e, if_pos e]; rfl
    · rw [if_neg e, if_neg e]
theorem off1 {y y' : Nat → Int} {r a c : Nat} {w : Nat → Int} (h : ∀ j, y' j = if r = a ∧ j = c then w j else y j) (hr : r ≠ a) : ∀ j, y' j = y j := fun j => by
  rw [h, if_neg (fun e => hr e.1)]
theorem shut_col {g : Gr} {f : Nat} {P : Pth} (B : Bfs g f P []) : P f ≠ [] := by obtain ⟨v, h⟩ := B.fr; rw [h]; simp
end Go.Proofs.Ytlffjnmbpoemnaa

namespace Go.Proofs.Ytlffjnmbpoemnaa
open Go.RowKit

abbrev spanA (lo hi : Int) : AV := .agg 2 (ofL [AI lo, AI hi])
/-- What Range gives. -/
noncomputable def rangeV (s : Sheet) (m : List Int) (r c : Int) : AV := .tup 2 (ofL [if checkP s m r c = 0 then spanA (loV s m r.toNat c.toNat) (hiV s m r.toNat c.toNat) else spanA 0 0, AI (checkP s m r c)])
structure PlaceOk (s : Sheet) (m : List Int) (r c : Int) : Prop where
  ok : s.ok = true
  sh : SheetOk s
  m : MaskOk s m
  r : 0 ≤ r ∧ r < s.R
  c : 0 ≤ c ∧ c < s.C
theorem checkP_0 {s : Sheet} {m : List Int} {r c : Int} (h : checkP s m r c = 0) : PlaceOk s m r c := by
  unfold checkP at h
  by_cases h0 : checkM s m = 0
  · rw [if_pos h0] at h
    obtain ⟨a, b⟩ := checkM_0 h0
    cases hp : placeOk s r c
    · rw [hp] at h; cases h
    · unfold placeOk at hp
      simp only [Bool.and_eq_true, inB, decide_eq_true_eq] at hp
      exact ⟨a, sheet_d a, mask_d b, by omega, by omega⟩
  · rw [if_neg h0] at h; exact (h0 h).elim
/-- One secret amount is safe. -/
noncomputable def cellSafe (s : Sheet) (m : List Int) (r c : Nat) : Bool := !outS s.secret r c || (outS m r c && decide (s.gap ≤ hiV s m r c - loV s m r c))
noncomputable def rowSafe (s : Sheet) (m : List Int) (r : Nat) : Bool := (List.range s.C).all (cellSafe s m r)
noncomputable def safeS (s : Sheet) (m : List Int) : Bool := (List.range s.R).all (rowSafe s m)
noncomputable def safeV (s : Sheet) (m : List Int) : AV := .tup 2 (ofL [.bool (decide (checkM s m = 0) && safeS s m), AI (checkM s m)])
noncomputable def checkO (s : Sheet) (m : List Int) (r c a : Int) : Int := if checkP s m r c = 0 then (if inB a (loV s m r.toNat c.toNat) (hiV s m r.toNat c.toNat) then 0 else 3) else checkP s m r c
end Go.Proofs.Ytlffjnmbpoemnaa
