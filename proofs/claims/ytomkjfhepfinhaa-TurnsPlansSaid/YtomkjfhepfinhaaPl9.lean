/- Turns: the program's Longest. / Turns: Longest of the reference. / Turns: Copy, whatever the task; in memory of its own. / Turns: the reference's Hands are the program's (no program in sight); TurnsPlans, walked. / Plain facts on memory: slices that read as lists, worlds that extend other worlds / How the form's readings of data give cells: slices, ints / What a law's row asks behind the walk: the call returned true and the world only has more / From handed data to abstract values; from a reading of a law to what its row asks / Turns: how tasks, hands, rotas, courses read. -/
import Derived.Test.YtomkjfhepfinhaaPl7
import Derived.Test.YtomkjfhepfinhaaPl8
import Derived.WalkKit
import Derived.WalkSpells
import Derived.WalkLawsBesides
import Derived.Deep.QuietTactic
import Derived.BigQuiet
import Derived.Lib.Hide
import Derived.Deep.Slices
import Derived.Lib.SmallJoins
import Derived.OpenShut
import Derived.WideKeyArgs
import Derived.Deep.OwnRows
import Derived.ProofKit
import Derived.JoinedOf
import Derived.Test.YtomkjfhepfinhaaPl4
import Derived.Test.YtomkjfhepfinhaaPl5
set_option linter.unusedSimpArgs false
set_option linter.unusedVariables false
namespace Go.Proofs.Ytomkjfhepfinhaa
open Go.RowKit

/-- A hand alone, after some parts, in the course that tires most. -/
def lTo (t : Task) (h : Nat) : Nat → CS
  | 0 => ⟨startL t true, -1, 0⟩
  | i + 1 => ⟨signNow t true (h : Int) (lTo t h i).now, (h : Int), signBad t i (h : Int) (lTo t h i).last (lTo t h i).bad (lTo t h i).now⟩
theorem lTo_eq {t : Task} {h : Nat} {r : List Int} : ∀ i, (∀ j, j < i → r.getD j 0 = (h : Int)) → lTo t h i = cTo t true r i
  | 0, _ => rfl
  | i + 1, H => by
    have ih := lTo_eq (t := t) (r := r) i fun j hj => H j (by omega)
    simp only [lTo, cTo, ih, H i (Nat.lt_succ_self i)]
theorem rep_get {n h j : Nat} (hj : j < n) : (List.replicate n (h : Int)).getD j 0 = (h : Int) := by
  simp [List.getD, hj]
theorem rep_in {t : Task} {n h : Nat} (hn : n ≤ t.parts.length) (hh : h < t.hands.length) : RotaIn t (List.replicate n (h : Int)) :=
  ⟨by simpa using hn, fun i hi => by rw [List.length_replicate] at hi; rw [rep_get hi]; omega⟩
theorem lTo_bd {t : Task} {h : Nat} (k : TaskOk t) (hh : h < t.hands.length) (i : Nat) (hi : i ≤ t.parts.length) : (lTo t h i).now.length = t.hands.length ∧ (∀ h', h' < t.hands.length → 0 ≤ (lTo t h i).now.getD h' 0 ∧ (lTo t h i).now.getD h' 0 ≤ 1000) ∧ 0 ≤ (lTo t h i).bad ∧ (lTo t h i).bad ≤ 1000000 := by
  rw [lTo_eq (r := List.replicate t.parts.length (h : Int)) i fun j hj => rep_get (by omega)]
  exact cTo_bd k (rep_in (Nat.le_refl _) hh) i (by simpa using hi)
def longG (B : Nat → Int) (most : Int) : Nat → Nat → Nat
  | 0, i => i
  | f + 1, i => if B (i + 1) ≤ most then longG B most f (i + 1) else i
def lenM (t : Task) : Nat := min t.limit.toNat t.parts.length
def longN (t : Task) (most : Int) (h : Nat) : Nat := longG (fun i => (lTo t h i).bad) most (lenM t) 0
def longL (t : Task) (most : Int) : List Int := (List.range t.hands.length).map fun h => (longN t most h : Int)
def longE (t : Task) (most : Int) : List AV := if t.ok then (if most < 0 then [nilS, AI 1] else [aInts false false (longL t most), AI 0]) else [nilS, AI 40]
theorem longL_get {t : Task} {most : Int} {h : Nat} (hh : h < t.hands.length) : (longL t most).getD h 0 = longN t most h := by
  unfold longL; rw [getD_range hh]
theorem long_go {t : Task} {most : Int} {h i : Nat} (hi : i < lenM t) (H : longG (fun i => (lTo t h i).bad) most (lenM t - i) i = longN t most h) (hb : (lTo t h (i + 1)).bad ≤ most) : longG (fun i => (lTo t h i).bad) most (lenM t - (i + 1)) (i + 1) = longN t most h := by
  rw [show lenM t - i = (lenM t - (i + 1)) + 1 by omega, longG, if_pos hb] at H
  exact H
theorem long_stop {t : Task} {most : Int} {h i : Nat} (hi : i < lenM t) (H : longG (fun i => (lTo t h i).bad) most (lenM t - i) i = longN t most h) (hb : most < (lTo t h (i + 1)).bad) : longN t most h = i := by
  rw [show lenM t - i = (lenM t - (i + 1)) + 1 by omega, longG, if_neg (by omega)] at H
  exact H.symm
theorem long_end {t : Task} {most : Int} {h : Nat} (H : longG (fun i => (lTo t h i).bad) most (lenM t - lenM t) (lenM t) = longN t most h) : longN t most h = lenM t := by
  rw [Nat.sub_self, longG] at H
  exact H.symm
set_option maxHeartbeats 8000000 in
set_option maxRecDepth 100000 in
theorem longest_ok (f : TFl) (t : Task) (most : Int) (h1 : t.hands.length ≤ 1000000) (h2 : t.parts.length ≤ 1000000) : ACall Try.prog 26 [aTask f t, AI most] [] (fun v h => v = .tup 2 (ofL (longE t most)) ∧ h = []) := by
  have cC := check_ok f t h1 h2
  (refine fcall_of mixed Try.func26 rfl (by decide) (hs := { pub := [7] }) ?k (ac := ?ac) ?c (rs := ?rs) ?r ?l ?H; (case k => kernel_rfl); (case c => (conv => (lhs; cbv))); (case r => (conv => (lhs; cbv))); (case l => exact Nat.le_of_ble_eq_true rfl))
  by_cases hok : t.ok = true
  case neg =>
    rw [check_40 hok] at cC
    (repeat' ((try (conv => whnf)); first | (with_reducible first | refine FCond.tA ?_ | refine FCond.fA ?_) | ((with_reducible refine FCond.i (fun hq => ?_) (fun hq => ?_)) <;> (try simp only [zA, zE, zD, zJ, zB, zI, Int.not_le, Int.not_lt] at hq)) | (with_reducible first | refine Fits.in64 (by omega) ?_ | refine FIdx.nat (by omega) ?_ | refine FIdx.int (by omega) ?_ | refine FTo.nat (by omega) ?_ | refine FTo.int (by omega) ?_) | ((with_reducible refine Need.mk ?_ ?_); focus exact needA) | (with_reducible refine FApp.grow ?_) | (refine FCall.pure (cC) ⟨Ln.sameB _ rfl, True.intro⟩ rfl ?_)))
    all_goals (try (conv => whnf))
    all_goals ((refine ⟨⟨_, [], [], Cut.nil _, Ln.sameB _ rfl, ?_, rfl⟩⟩); unfold longE; rw [if_neg hok]; rfl)
  rw [check_0 hok] at cC
  by_cases hm : most < 0
  · (repeat' ((try (conv => whnf)); first | (with_reducible first | refine FCond.tA ?_ | refine FCond.fA ?_) | ((with_reducible refine FCond.i (fun hq => ?_) (fun hq => ?_)) <;> (try simp only [zA, zE, zD, zJ, zB, zI, Int.not_le, Int.not_lt] at hq)) | (with_reducible first | refine Fits.in64 (by omega) ?_ | refine FIdx.nat (by omega) ?_ | refine FIdx.int (by omega) ?_ | refine FTo.nat (by omega) ?_ | refine FTo.int (by omega) ?_) | ((with_reducible refine Need.mk ?_ ?_); focus exact needA) | (with_reducible refine FApp.grow ?_) | (refine FCall.pure (cC) ⟨Ln.sameB _ rfl, True.intro⟩ rfl ?_)))
    all_goals (try (conv => whnf))
    all_goals ((refine ⟨⟨_, [], [], Cut.nil _, Ln.sameB _ rfl, ?_, rfl⟩⟩); unfold longE; rw [if_pos hok, if_pos hm]; rfl)
  have k := taskOk hok
  have k2 := k.hn
  have k3 := k.pn
  have k4 := k.lim
  have hM : (lenM t : Int) = min t.limit (t.parts.length : Int) := by unfold lenM; omega
  have hM2 : lenM t ≤ t.parts.length := by unfold lenM; omega
  (repeat' ((try (conv => whnf)); first | (with_reducible first | refine FCond.tA ?_ | refine FCond.fA ?_) | ((with_reducible refine FCond.i (fun hq => ?_) (fun hq => ?_)) <;> (try simp only [zA, zE, zD, zJ, zB, zI, Int.not_le, Int.not_lt] at hq)) | (with_reducible first | refine Fits.in64 (by omega) ?_ | refine FIdx.nat (by omega) ?_ | refine FIdx.int (by omega) ?_ | refine FTo.nat (by omega) ?_ | refine FTo.int (by omega) ?_) | ((with_reducible refine Need.mk ?_ ?_); focus exact needA) | (with_reducible refine FApp.grow ?_) | (refine FCall.pure (cC) ⟨Ln.sameB _ rfl, True.intro⟩ rfl ?_)))
  (try (conv => whnf))
  refine FWk.of [(1, AI most), (2, .ptr 0 0), (7, pTask f t)] [.box 5 (cTask f t)] [0] Cut.A ⟨Ln.A, Ln.A, Ln.boxP (m := 5) (goneB rfl) rfl ⟨⟨⟨⟨⟨True.intro, Ln.sameB _ rfl⟩, Ln.sameB _ rfl⟩, Ln.sameB _ rfl⟩, Ln.sameB _ rfl⟩, Ln.sameB _ rfl⟩ rfl, True.intro⟩ ?_
  (repeat' ((try (conv => whnf)); first | (with_reducible first | refine FCond.tA ?_ | refine FCond.fA ?_) | ((with_reducible refine FCond.i (fun hq => ?_) (fun hq => ?_)) <;> (try simp only [zA, zE, zD, zJ, zB, zI, Int.not_le, Int.not_lt] at hq)) | (with_reducible first | refine Fits.in64 (by omega) ?_ | refine FIdx.nat (by omega) ?_ | refine FIdx.int (by omega) ?_ | refine FTo.nat (by omega) ?_ | refine FTo.int (by omega) ?_) | ((with_reducible refine Need.mk ?_ ?_); focus exact needA) | (with_reducible refine FApp.grow ?_)))
  (try (conv => whnf))
  refine FLoop.of (ACalls.mono _) (X := Nat) (fun h => [(1, AI most), (2, .ptr 0 0), (7, pTask f t), (8, match h with | 0 => nilS | h + 1 => .own 1 (h + 1)), (24, AI t.hands.length), (25, AI h)])
    (fun h => match h with
      | 0 => [.box 5 (cTask f t)]
      | h + 1 => [.box 5 (cTask f t), .row (h + 1) 1 (fun j _ => AI (longN t most j))])
    (fun h => h ≤ t.hands.length) (fun h => t.hands.length - h) 0 ⟨by omega, [0], Cut.A, allA⟩ ?_
  intro h hh
  rcases h with _ | h
  · (repeat' ((try (conv => whnf)); first | (with_reducible first | refine FCond.tA ?_ | refine FCond.fA ?_) | ((with_reducible refine FCond.i (fun hq => ?_) (fun hq => ?_)) <;> (try simp only [zA, zE, zD, zJ, zB, zI, Int.not_le, Int.not_lt] at hq)) | (with_reducible first | refine Fits.in64 (by omega) ?_ | refine FIdx.nat (by omega) ?_ | refine FIdx.int (by omega) ?_ | refine FTo.nat (by omega) ?_ | refine FTo.int (by omega) ?_) | ((with_reducible refine Need.mk ?_ ?_); focus exact needA) | (with_reducible refine FApp.grow ?_) | ((refine FCall.give [] [] (begin_ok f t true (by omega)) rfl rfl True.intro ⟨Ln.A, Ln.A, True.intro⟩ ?_); rintro _ _ ⟨rfl, rfl⟩; (refine ⟨by first | exact Nat.le_of_ble_eq_true rfl | omega, .inl rfl, ?_⟩))))
    (try (conv => whnf))
    refine FLoop.of (ACalls.mono _) (X := Nat) (fun i => [(1, AI most), (2, .ptr 0 0), (7, pTask f t), (8, nilS), (9, AI ((0 : Nat) : Int)), (10, .ptr 1 0), (11, AI i), (24, AI t.hands.length), (25, AI ((0 : Nat) : Int))])
      (fun i => [.box 5 (cTask f t), boxC f t true (lTo t 0 i).last (lTo t 0 i).bad (.own 2 t.hands.length), rowS t (lTo t 0 i)])
      (fun i => i ≤ lenM t ∧ longG (fun i => (lTo t 0 i).bad) most (lenM t - i) i = longN t most 0) (fun i => lenM t - i) 0 ⟨⟨Nat.zero_le _, rfl⟩, [0, 1, 2], Cut.A, allA⟩ ?_
    rintro i ⟨hi, hN⟩
    by_cases hlt : i < lenM t
    · obtain ⟨c1, c2, c3⟩ := lTo_bd k (h := 0) (by omega) i (by omega)
      (repeat' ((try (conv => whnf)); first | (with_reducible first | refine FCond.tA ?_ | refine FCond.fA ?_) | ((with_reducible refine FCond.i (fun hq => ?_) (fun hq => ?_)) <;> (try simp only [zA, zE, zD, zJ, zB, zI, Int.not_le, Int.not_lt] at hq)) | (with_reducible first | refine Fits.in64 (by omega) ?_ | refine FIdx.nat (by omega) ?_ | refine FIdx.int (by omega) ?_ | refine FTo.nat (by omega) ?_ | refine FTo.int (by omega) ?_) | ((with_reducible refine Need.mk ?_ ?_); focus exact needA) | (with_reducible refine FApp.grow ?_) | ((refine FCall.give [1, 2] [] (sign_ok f t true i ((0 : Nat) : Int) (lTo t 0 i).last (lTo t 0 i).bad (lTo t 0 i).now k (by omega) (by omega) c1 c2 c3) rfl rfl ⟨⟨_, rfl, trivial, LnB.A⟩, ⟨_, rfl, trivial, LnB.A⟩, True.intro⟩ ⟨Ln.A, Ln.A, Ln.A, True.intro⟩ ?_); rintro _ _ ⟨rfl, rfl⟩; (refine ⟨by first | exact Nat.le_of_ble_eq_true rfl | omega, .inl rfl, ?_⟩))))
      all_goals (try (conv => whnf))
      · (exact ⟨⟨1, by omega, by show _ < _; omega, [0, 3], (by (refine Cut.of (Nat.le_of_ble_eq_true rfl) rfl rfl ?_; repeat (first | exact CutL.done | (refine CutL.turned rfl (by first | exact LnB.rowS | exact LnB.app (fun _ _ _ _ => rfl) (fun _ _ => int_eq (congrArg Int.ofNat (long_stop hlt hN hq))) | exact LnB.app (fun k hk => absurd hk (Nat.not_lt_zero k)) (fun _ _ => int_eq (congrArg Int.ofNat (long_stop hlt hN hq))) | exact LnB.A) ?_) | (refine CutL.gone (Nat.lt_of_lt_of_le (Nat.lt_succ_self _) (Nat.le_of_ble_eq_true rfl)) ?_)))), allA⟩⟩)
      · (exact ⟨⟨(i + 1), ⟨by omega, long_go hlt hN hq⟩, by show _ < _; omega, [0, 1, 2], Cut.A, allA⟩⟩)
    · obtain rfl : i = lenM t := by omega
      (repeat' ((try (conv => whnf)); first | (with_reducible first | refine FCond.tA ?_ | refine FCond.fA ?_) | ((with_reducible refine FCond.i (fun hq => ?_) (fun hq => ?_)) <;> (try simp only [zA, zE, zD, zJ, zB, zI, Int.not_le, Int.not_lt] at hq)) | (with_reducible first | refine Fits.in64 (by omega) ?_ | refine FIdx.nat (by omega) ?_ | refine FIdx.int (by omega) ?_ | refine FTo.nat (by omega) ?_ | refine FTo.int (by omega) ?_) | ((with_reducible refine Need.mk ?_ ?_); focus exact needA) | (with_reducible refine FApp.grow ?_)))
      all_goals (try (conv => whnf))
      (exact ⟨⟨1, by omega, by show _ < _; omega, [0, 3], (by (refine Cut.of (Nat.le_of_ble_eq_true rfl) rfl rfl ?_; repeat (first | exact CutL.done | (refine CutL.turned rfl (by first | exact LnB.rowS | exact LnB.app (fun _ _ _ _ => rfl) (fun _ _ => int_eq (congrArg Int.ofNat (long_end hN))) | exact LnB.app (fun k hk => absurd hk (Nat.not_lt_zero k)) (fun _ _ => int_eq (congrArg Int.ofNat (long_end hN))) | exact LnB.A) ?_) | (refine CutL.gone (Nat.lt_of_lt_of_le (Nat.lt_succ_self _) (Nat.le_of_ble_eq_true rfl)) ?_)))), allA⟩⟩)
  · by_cases hlt2 : h + 1 < t.hands.length
    · (repeat' ((try (conv => whnf)); first | (with_reducible first | refine FCond.tA ?_ | refine FCond.fA ?_) | ((with_reducible refine FCond.i (fun hq => ?_) (fun hq => ?_)) <;> (try simp only [zA, zE, zD, zJ, zB, zI, Int.not_le, Int.not_lt] at hq)) | (with_reducible first | refine Fits.in64 (by omega) ?_ | refine FIdx.nat (by omega) ?_ | refine FIdx.int (by omega) ?_ | refine FTo.nat (by omega) ?_ | refine FTo.int (by omega) ?_) | ((with_reducible refine Need.mk ?_ ?_); focus exact needA) | (with_reducible refine FApp.grow ?_) | ((refine FCall.give [] [] (begin_ok f t true (by omega)) rfl rfl True.intro ⟨Ln.A, Ln.A, True.intro⟩ ?_); rintro _ _ ⟨rfl, rfl⟩; (refine ⟨by first | exact Nat.le_of_ble_eq_true rfl | omega, .inl rfl, ?_⟩))))
      (try (conv => whnf))
      refine FLoop.of (ACalls.mono _) (X := Nat) (fun i => [(1, AI most), (2, .ptr 0 0), (7, pTask f t), (8, .own 1 (h + 1)), (9, AI (((h + 1) : Nat) : Int)), (10, .ptr 2 0), (11, AI i), (24, AI t.hands.length), (25, AI (((h + 1) : Nat) : Int))])
        (fun i => [.box 5 (cTask f t), .row (h + 1) 1 (fun j _ => AI (longN t most j)), boxC f t true (lTo t (h + 1) i).last (lTo t (h + 1) i).bad (.own 3 t.hands.length), rowS t (lTo t (h + 1) i)])
        (fun i => i ≤ lenM t ∧ longG (fun i => (lTo t (h + 1) i).bad) most (lenM t - i) i = longN t most (h + 1)) (fun i => lenM t - i) 0 ⟨⟨Nat.zero_le _, rfl⟩, [0, 1, 2, 3], Cut.A, allA⟩ ?_
      rintro i ⟨hi, hN⟩
      by_cases hlt : i < lenM t
      · obtain ⟨c1, c2, c3⟩ := lTo_bd k (h := (h + 1)) (by omega) i (by omega)
        (repeat' ((try (conv => whnf)); first | (with_reducible first | refine FCond.tA ?_ | refine FCond.fA ?_) | ((with_reducible refine FCond.i (fun hq => ?_) (fun hq => ?_)) <;> (try simp only [zA, zE, zD, zJ, zB, zI, Int.not_le, Int.not_lt] at hq)) | (with_reducible first | refine Fits.in64 (by omega) ?_ | refine FIdx.nat (by omega) ?_ | refine FIdx.int (by omega) ?_ | refine FTo.nat (by omega) ?_ | refine FTo.int (by omega) ?_) | ((with_reducible refine Need.mk ?_ ?_); focus exact needA) | (with_reducible refine FApp.grow ?_) | ((refine FCall.give [2, 3] [] (sign_ok f t true i (((h + 1) : Nat) : Int) (lTo t (h + 1) i).last (lTo t (h + 1) i).bad (lTo t (h + 1) i).now k (by omega) (by omega) c1 c2 c3) rfl rfl ⟨⟨_, rfl, trivial, LnB.A⟩, ⟨_, rfl, trivial, LnB.A⟩, True.intro⟩ ⟨Ln.A, Ln.A, Ln.A, True.intro⟩ ?_); rintro _ _ ⟨rfl, rfl⟩; (refine ⟨by first | exact Nat.le_of_ble_eq_true rfl | omega, .inl rfl, ?_⟩))))
        all_goals (try (conv => whnf))
        · (exact ⟨⟨(h + 2), by omega, by show _ < _; omega, [0, 4], (by (refine Cut.of (Nat.le_of_ble_eq_true rfl) rfl rfl ?_; repeat (first | exact CutL.done | (refine CutL.turned rfl (by first | exact LnB.rowS | exact LnB.app (fun _ _ _ _ => rfl) (fun _ _ => int_eq (congrArg Int.ofNat (long_stop hlt hN hq))) | exact LnB.app (fun k hk => absurd hk (Nat.not_lt_zero k)) (fun _ _ => int_eq (congrArg Int.ofNat (long_stop hlt hN hq))) | exact LnB.A) ?_) | (refine CutL.gone (Nat.lt_of_lt_of_le (Nat.lt_succ_self _) (Nat.le_of_ble_eq_true rfl)) ?_)))), allA⟩⟩)
        · (exact ⟨⟨(i + 1), ⟨by omega, long_go hlt hN hq⟩, by show _ < _; omega, [0, 1, 2, 3], Cut.A, allA⟩⟩)
      · obtain rfl : i = lenM t := by omega
        (repeat' ((try (conv => whnf)); first | (with_reducible first | refine FCond.tA ?_ | refine FCond.fA ?_) | ((with_reducible refine FCond.i (fun hq => ?_) (fun hq => ?_)) <;> (try simp only [zA, zE, zD, zJ, zB, zI, Int.not_le, Int.not_lt] at hq)) | (with_reducible first | refine Fits.in64 (by omega) ?_ | refine FIdx.nat (by omega) ?_ | refine FIdx.int (by omega) ?_ | refine FTo.nat (by omega) ?_ | refine FTo.int (by omega) ?_) | ((with_reducible refine Need.mk ?_ ?_); focus exact needA) | (with_reducible refine FApp.grow ?_)))
        all_goals (try (conv => whnf))
        (exact ⟨⟨(h + 2), by omega, by show _ < _; omega, [0, 4], (by (refine Cut.of (Nat.le_of_ble_eq_true rfl) rfl rfl ?_; repeat (first | exact CutL.done | (refine CutL.turned rfl (by first | exact LnB.rowS | exact LnB.app (fun _ _ _ _ => rfl) (fun _ _ => int_eq (congrArg Int.ofNat (long_end hN))) | exact LnB.app (fun k hk => absurd hk (Nat.not_lt_zero k)) (fun _ _ => int_eq (congrArg Int.ofNat (long_end hN))) | exact LnB.A) ?_) | (refine CutL.gone (Nat.lt_of_lt_of_le (Nat.lt_succ_self _) (Nat.le_of_ble_eq_true rfl)) ?_)))), allA⟩⟩)
    · have hn : h + 1 = t.hands.length := by omega
      (repeat' ((try (conv => whnf)); first | (with_reducible first | refine FCond.tA ?_ | refine FCond.fA ?_) | ((with_reducible refine FCond.i (fun hq => ?_) (fun hq => ?_)) <;> (try simp only [zA, zE, zD, zJ, zB, zI, Int.not_le, Int.not_lt] at hq)) | (with_reducible first | refine Fits.in64 (by omega) ?_ | refine FIdx.nat (by omega) ?_ | refine FIdx.int (by omega) ?_ | refine FTo.nat (by omega) ?_ | refine FTo.int (by omega) ?_) | ((with_reducible refine Need.mk ?_ ?_); focus exact needA) | (with_reducible refine FApp.grow ?_)))
      (try (conv => whnf))
      refine ⟨⟨.tup 2 (ofL [aInts false false (longL t most), AI 0]), [], [], Cut.nil _, Ln.tupN ⟨⟨True.intro, Ln.pubE (goneB rfl) rfl (Nat.le_refl _) (by simp only [longL, List.length_map, List.length_range]; exact hn) (fun k hk o ho => int_eq (longL_get (by omega)))⟩, Ln.A⟩, ?_, rfl⟩⟩
      unfold longE; rw [if_pos hok, if_neg hm]
end Go.Proofs.Ytomkjfhepfinhaa

namespace Go.Proofs.Ytomkjfhepfinhaa
open Go.RowKit

theorem rep_app {i h j o : Nat} {z : Nat → AV} (hj : j < i + 1) : AI ((List.replicate (i + 1) (h : Int)).getD j 0) = appc i (fun k _ => AI ((List.replicate i (h : Int)).getD k 0)) (bslC (fun _ => z) [(0, AI h)]) j o := by
  rw [rep_get hj]
  simp only [appc, bslC, updRm]
  by_cases e : j < i
  · rw [if_pos e, rep_get e]
  · rw [if_neg e, if_pos (by omega)]; rfl
theorem worst_rep {t : Task} {n h : Nat} (hn : n ≤ t.parts.length) (hh : h < t.hands.length) : worst t (List.replicate n (h : Int)) = (lTo t h n).bad := by
  have := cTo_best (b := true) (rep_in hn hh)
  rw [List.length_replicate, ← lTo_eq n fun j hj => rep_get hj] at this
  exact this.symm
set_option maxHeartbeats 8000000 in
set_option maxRecDepth 100000 in
theorem refLongest_ok (f : TFl) (t : Task) (most : Int) (h1 : t.hands.length ≤ 1000000) (h2 : t.parts.length ≤ 1000000) : ACall Try.prog 38 [aTask f t, AI most] [] (fun v h => v = .tup 2 (ofL (longE t most)) ∧ h = []) := by
  have cC := refCheck_ok f t h1 h2
  (refine fcall_of mixed Try.func38 rfl (by decide) (hs := {}) ?k (ac := ?ac) ?c (rs := ?rs) ?r ?l ?H; (case k => kernel_rfl); (case c => (conv => (lhs; cbv))); (case r => (conv => (lhs; cbv))); (case l => exact Nat.le_of_ble_eq_true rfl))
  by_cases hok : t.ok = true
  case neg =>
    rw [check_40 hok] at cC
    (repeat' ((try (conv => whnf)); first | (with_reducible first | refine FCond.tA ?_ | refine FCond.fA ?_) | ((with_reducible refine FCond.i (fun hq => ?_) (fun hq => ?_)) <;> (try simp only [zA, zE, zD, zJ, zB, zI, Int.not_le, Int.not_lt] at hq)) | (with_reducible first | refine Fits.in64 (by omega) ?_ | refine FIdx.nat (by omega) ?_ | refine FIdx.int (by omega) ?_ | refine FTo.nat (by omega) ?_ | refine FTo.int (by omega) ?_) | ((with_reducible refine Need.mk ?_ ?_); focus exact needA) | (with_reducible refine FApp.grow ?_) | (refine FCall.pure (cC) ⟨Ln.sameB _ rfl, True.intro⟩ rfl ?_)))
    all_goals (try (conv => whnf))
    all_goals ((refine ⟨⟨_, [], [], Cut.nil _, Ln.sameB _ rfl, ?_, rfl⟩⟩); unfold longE; rw [if_neg hok]; rfl)
  rw [check_0 hok] at cC
  by_cases hm : most < 0
  · (repeat' ((try (conv => whnf)); first | (with_reducible first | refine FCond.tA ?_ | refine FCond.fA ?_) | ((with_reducible refine FCond.i (fun hq => ?_) (fun hq => ?_)) <;> (try simp only [zA, zE, zD, zJ, zB, zI, Int.not_le, Int.not_lt] at hq)) | (with_reducible first | refine Fits.in64 (by omega) ?_ | refine FIdx.nat (by omega) ?_ | refine FIdx.int (by omega) ?_ | refine FTo.nat (by omega) ?_ | refine FTo.int (by omega) ?_) | ((with_reducible refine Need.mk ?_ ?_); focus exact needA) | (with_reducible refine FApp.grow ?_) | (refine FCall.pure (cC) ⟨Ln.sameB _ rfl, True.intro⟩ rfl ?_)))
    all_goals (try (conv => whnf))
    all_goals ((refine ⟨⟨_, [], [], Cut.nil _, Ln.sameB _ rfl, ?_, rfl⟩⟩); unfold longE; rw [if_pos hok, if_pos hm]; rfl)
  have k := taskOk hok
  have k2 := k.hn
  have k3 := k.pn
  have k4 := k.lim
  have hM : (lenM t : Int) = min t.limit (t.parts.length : Int) := by unfold lenM; omega
  have hM2 : lenM t ≤ t.parts.length := by unfold lenM; omega
  have hM3 : 0 < lenM t := by omega
  (repeat' ((try (conv => whnf)); first | (with_reducible first | refine FCond.tA ?_ | refine FCond.fA ?_) | ((with_reducible refine FCond.i (fun hq => ?_) (fun hq => ?_)) <;> (try simp only [zA, zE, zD, zJ, zB, zI, Int.not_le, Int.not_lt] at hq)) | (with_reducible first | refine Fits.in64 (by omega) ?_ | refine FIdx.nat (by omega) ?_ | refine FIdx.int (by omega) ?_ | refine FTo.nat (by omega) ?_ | refine FTo.int (by omega) ?_) | ((with_reducible refine Need.mk ?_ ?_); focus exact needA) | (with_reducible refine FApp.grow ?_) | (refine FCall.pure (cC) ⟨Ln.sameB _ rfl, True.intro⟩ rfl ?_)))
  (try (conv => whnf))
  refine FLoop.of (ACalls.mono _) (X := Nat) (fun h => [(1, AI most), (2, .ptr 0 0), (6, match h with | 0 => nilS | h + 1 => .own 1 (h + 1)), (7, AI h)])
    (fun h => match h with
      | 0 => [.box 5 (cTask f t)]
      | h + 1 => [.box 5 (cTask f t), .row (h + 1) 1 (fun j _ => AI (longN t most j))])
    (fun h => h ≤ t.hands.length) (fun h => t.hands.length - h) 0 ⟨by omega, [0], Cut.A, allA⟩ ?_
  intro h hh
  rcases h with _ | h
  · have hlt2 : 0 < t.hands.length := by omega
    · (repeat' ((try (conv => whnf)); first | (with_reducible first | refine FCond.tA ?_ | refine FCond.fA ?_) | ((with_reducible refine FCond.i (fun hq => ?_) (fun hq => ?_)) <;> (try simp only [zA, zE, zD, zJ, zB, zI, Int.not_le, Int.not_lt] at hq)) | (with_reducible first | refine Fits.in64 (by omega) ?_ | refine FIdx.nat (by omega) ?_ | refine FIdx.int (by omega) ?_ | refine FTo.nat (by omega) ?_ | refine FTo.int (by omega) ?_) | ((with_reducible refine Need.mk ?_ ?_); focus exact needA) | (with_reducible refine FApp.grow ?_)))
      (try (conv => whnf))
      refine FLoop.of (ACalls.mono _) (X := Nat) (fun i => [(1, AI most), (2, .ptr 0 0), (6, nilS), (7, AI ((0 : Nat) : Int)), (8, AI i), (9, match i with | 0 => nilS | i + 1 => .own 1 (i + 1))])
        (fun i => match i with
          | 0 => [.box 5 (cTask f t)]
          | i + 1 => [.box 5 (cTask f t), rowC (i + 1) (List.replicate (i + 1) ((0 : Nat) : Int))])
        (fun i => i ≤ lenM t ∧ longG (fun i => (lTo t 0 i).bad) most (lenM t - i) i = longN t most 0) (fun i => lenM t - i) 0 ⟨⟨Nat.zero_le _, rfl⟩, [0], Cut.A, allA⟩ ?_
      rintro i ⟨hi, hN⟩
      rcases i with _ | i
      · have hlt : 0 < lenM t := by omega
        (repeat' ((try (conv => whnf)); first | (with_reducible first | refine FCond.tA ?_ | refine FCond.fA ?_) | ((with_reducible refine FCond.i (fun hq => ?_) (fun hq => ?_)) <;> (try simp only [zA, zE, zD, zJ, zB, zI, Int.not_le, Int.not_lt] at hq)) | (with_reducible first | refine Fits.in64 (by omega) ?_ | refine FIdx.nat (by omega) ?_ | refine FIdx.int (by omega) ?_ | refine FTo.nat (by omega) ?_ | refine FTo.int (by omega) ?_) | ((with_reducible refine Need.mk ?_ ?_); focus exact needA) | (with_reducible refine FApp.grow ?_) | (refine FCall.lend [1] ((worst_ok f t false false (List.replicate (0 + 1) ((0 : Nat) : Int)) k (rep_in (by omega) (by omega)) (by rw [List.length_replicate]; omega))) ⟨Ln.sameB _ rfl, Ln.pubE (by decide) rfl (Nat.le_refl _) (by rw [List.length_replicate]) (fun j hj o ho => rep_app hj), True.intro⟩ rfl trivial ?_)))
        all_goals (try (conv => whnf))
        all_goals rw [worst_rep (by omega) (by omega)] at hq
        · (exact ⟨⟨1, by omega, by show _ < _; omega, [0, 2], (by (refine Cut.of (Nat.le_of_ble_eq_true rfl) rfl rfl ?_; repeat (first | exact CutL.done | (refine CutL.turned rfl (by first | exact LnB.rowS | exact LnB.app (fun _ _ _ _ => rfl) (fun _ _ => int_eq (congrArg Int.ofNat (long_stop hlt hN hq))) | exact LnB.app (fun k hk => absurd hk (Nat.not_lt_zero k)) (fun _ _ => int_eq (congrArg Int.ofNat (long_stop hlt hN hq))) | exact LnB.A) ?_) | (refine CutL.gone (Nat.lt_of_lt_of_le (Nat.lt_succ_self _) (Nat.le_of_ble_eq_true rfl)) ?_)))), allA⟩⟩)
        · (exact ⟨⟨(0 + 1), ⟨by omega, long_go hlt hN hq⟩, by show _ < _; omega, [0, 1], (by (refine Cut.of (Nat.le_of_ble_eq_true rfl) rfl rfl ?_; repeat (first | exact CutL.done | (refine CutL.turned rfl (by first | exact LnB.rowS | exact LnB.rowE (Nat.le_refl _) (fun j hj o ho => rep_app hj) | exact LnB.A) ?_) | (refine CutL.gone (Nat.lt_of_lt_of_le (Nat.lt_succ_self _) (Nat.le_of_ble_eq_true rfl)) ?_)))), allA⟩⟩)
      by_cases hlt : i + 1 < lenM t
      · (repeat' ((try (conv => whnf)); first | (with_reducible first | refine FCond.tA ?_ | refine FCond.fA ?_) | ((with_reducible refine FCond.i (fun hq => ?_) (fun hq => ?_)) <;> (try simp only [zA, zE, zD, zJ, zB, zI, Int.not_le, Int.not_lt] at hq)) | (with_reducible first | refine Fits.in64 (by omega) ?_ | refine FIdx.nat (by omega) ?_ | refine FIdx.int (by omega) ?_ | refine FTo.nat (by omega) ?_ | refine FTo.int (by omega) ?_) | ((with_reducible refine Need.mk ?_ ?_); focus exact needA) | (with_reducible refine FApp.grow ?_) | (refine FCall.lend [2] ((worst_ok f t false false (List.replicate ((i + 1) + 1) ((0 : Nat) : Int)) k (rep_in (by omega) (by omega)) (by rw [List.length_replicate]; omega))) ⟨Ln.sameB _ rfl, Ln.pubE (by decide) rfl (Nat.le_refl _) (by rw [List.length_replicate]) (fun j hj o ho => rep_app hj), True.intro⟩ rfl trivial ?_)))
        all_goals (try (conv => whnf))
        all_goals rw [worst_rep (by omega) (by omega)] at hq
        · (exact ⟨⟨1, by omega, by show _ < _; omega, [0, 3], (by (refine Cut.of (Nat.le_of_ble_eq_true rfl) rfl rfl ?_; repeat (first | exact CutL.done | (refine CutL.turned rfl (by first | exact LnB.rowS | exact LnB.app (fun _ _ _ _ => rfl) (fun _ _ => int_eq (congrArg Int.ofNat (long_stop hlt hN hq))) | exact LnB.app (fun k hk => absurd hk (Nat.not_lt_zero k)) (fun _ _ => int_eq (congrArg Int.ofNat (long_stop hlt hN hq))) | exact LnB.A) ?_) | (refine CutL.gone (Nat.lt_of_lt_of_le (Nat.lt_succ_self _) (Nat.le_of_ble_eq_true rfl)) ?_)))), allA⟩⟩)
        · (exact ⟨⟨((i + 1) + 1), ⟨by omega, long_go hlt hN hq⟩, by show _ < _; omega, [0, 2], (by (refine Cut.of (Nat.le_of_ble_eq_true rfl) rfl rfl ?_; repeat (first | exact CutL.done | (refine CutL.turned rfl (by first | exact LnB.rowS | exact LnB.rowE (Nat.le_refl _) (fun j hj o ho => rep_app hj) | exact LnB.A) ?_) | (refine CutL.gone (Nat.lt_of_lt_of_le (Nat.lt_succ_self _) (Nat.le_of_ble_eq_true rfl)) ?_)))), allA⟩⟩)
      · have hiM : i + 1 = lenM t := by omega
        rw [hiM] at hN
        (repeat' ((try (conv => whnf)); first | (with_reducible first | refine FCond.tA ?_ | refine FCond.fA ?_) | ((with_reducible refine FCond.i (fun hq => ?_) (fun hq => ?_)) <;> (try simp only [zA, zE, zD, zJ, zB, zI, Int.not_le, Int.not_lt] at hq)) | (with_reducible first | refine Fits.in64 (by omega) ?_ | refine FIdx.nat (by omega) ?_ | refine FIdx.int (by omega) ?_ | refine FTo.nat (by omega) ?_ | refine FTo.int (by omega) ?_) | ((with_reducible refine Need.mk ?_ ?_); focus exact needA) | (with_reducible refine FApp.grow ?_)))
        all_goals (try (conv => whnf))
        (exact ⟨⟨1, by omega, by show _ < _; omega, [0, 2], (by (refine Cut.of (Nat.le_of_ble_eq_true rfl) rfl rfl ?_; repeat (first | exact CutL.done | (refine CutL.turned rfl (by first | exact LnB.rowS | exact LnB.app (fun _ _ _ _ => rfl) (fun _ _ => int_eq (congrArg Int.ofNat (hiM.trans (long_end hN).symm).symm)) | exact LnB.app (fun k hk => absurd hk (Nat.not_lt_zero k)) (fun _ _ => int_eq (congrArg Int.ofNat (hiM.trans (long_end hN).symm).symm)) | exact LnB.A) ?_) | (refine CutL.gone (Nat.lt_of_lt_of_le (Nat.lt_succ_self _) (Nat.le_of_ble_eq_true rfl)) ?_)))), allA⟩⟩)
  · by_cases hlt2 : h + 1 < t.hands.length
    · (repeat' ((try (conv => whnf)); first | (with_reducible first | refine FCond.tA ?_ | refine FCond.fA ?_) | ((with_reducible refine FCond.i (fun hq => ?_) (fun hq => ?_)) <;> (try simp only [zA, zE, zD, zJ, zB, zI, Int.not_le, Int.not_lt] at hq)) | (with_reducible first | refine Fits.in64 (by omega) ?_ | refine FIdx.nat (by omega) ?_ | refine FIdx.int (by omega) ?_ | refine FTo.nat (by omega) ?_ | refine FTo.int (by omega) ?_) | ((with_reducible refine Need.mk ?_ ?_); focus exact needA) | (with_reducible refine FApp.grow ?_)))
      (try (conv => whnf))
      refine FLoop.of (ACalls.mono _) (X := Nat) (fun i => [(1, AI most), (2, .ptr 0 0), (6, .own 1 (h + 1)), (7, AI (((h + 1) : Nat) : Int)), (8, AI i), (9, match i with | 0 => nilS | i + 1 => .own 2 (i + 1))])
        (fun i => match i with
          | 0 => [.box 5 (cTask f t), .row (h + 1) 1 (fun j _ => AI (longN t most j))]
          | i + 1 => [.box 5 (cTask f t), .row (h + 1) 1 (fun j _ => AI (longN t most j)), rowC (i + 1) (List.replicate (i + 1) (((h + 1) : Nat) : Int))])
        (fun i => i ≤ lenM t ∧ longG (fun i => (lTo t (h + 1) i).bad) most (lenM t - i) i = longN t most (h + 1)) (fun i => lenM t - i) 0 ⟨⟨Nat.zero_le _, rfl⟩, [0, 1], Cut.A, allA⟩ ?_
      rintro i ⟨hi, hN⟩
      rcases i with _ | i
      · have hlt : 0 < lenM t := by omega
        (repeat' ((try (conv => whnf)); first | (with_reducible first | refine FCond.tA ?_ | refine FCond.fA ?_) | ((with_reducible refine FCond.i (fun hq => ?_) (fun hq => ?_)) <;> (try simp only [zA, zE, zD, zJ, zB, zI, Int.not_le, Int.not_lt] at hq)) | (with_reducible first | refine Fits.in64 (by omega) ?_ | refine FIdx.nat (by omega) ?_ | refine FIdx.int (by omega) ?_ | refine FTo.nat (by omega) ?_ | refine FTo.int (by omega) ?_) | ((with_reducible refine Need.mk ?_ ?_); focus exact needA) | (with_reducible refine FApp.grow ?_) | (refine FCall.lend [2] ((worst_ok f t false false (List.replicate (0 + 1) (((h + 1) : Nat) : Int)) k (rep_in (by omega) (by omega)) (by rw [List.length_replicate]; omega))) ⟨Ln.sameB _ rfl, Ln.pubE (by decide) rfl (Nat.le_refl _) (by rw [List.length_replicate]) (fun j hj o ho => rep_app hj), True.intro⟩ rfl trivial ?_)))
        all_goals (try (conv => whnf))
        all_goals rw [worst_rep (by omega) (by omega)] at hq
        · (exact ⟨⟨(h + 2), by omega, by show _ < _; omega, [0, 3], (by (refine Cut.of (Nat.le_of_ble_eq_true rfl) rfl rfl ?_; repeat (first | exact CutL.done | (refine CutL.turned rfl (by first | exact LnB.rowS | exact LnB.app (fun _ _ _ _ => rfl) (fun _ _ => int_eq (congrArg Int.ofNat (long_stop hlt hN hq))) | exact LnB.app (fun k hk => absurd hk (Nat.not_lt_zero k)) (fun _ _ => int_eq (congrArg Int.ofNat (long_stop hlt hN hq))) | exact LnB.A) ?_) | (refine CutL.gone (Nat.lt_of_lt_of_le (Nat.lt_succ_self _) (Nat.le_of_ble_eq_true rfl)) ?_)))), allA⟩⟩)
        · (exact ⟨⟨(0 + 1), ⟨by omega, long_go hlt hN hq⟩, by show _ < _; omega, [0, 1, 2], (by (refine Cut.of (Nat.le_of_ble_eq_true rfl) rfl rfl ?_; repeat (first | exact CutL.done | (refine CutL.turned rfl (by first | exact LnB.rowS | exact LnB.rowE (Nat.le_refl _) (fun j hj o ho => rep_app hj) | exact LnB.A) ?_) | (refine CutL.gone (Nat.lt_of_lt_of_le (Nat.lt_succ_self _) (Nat.le_of_ble_eq_true rfl)) ?_)))), allA⟩⟩)
      by_cases hlt : i + 1 < lenM t
      · (repeat' ((try (conv => whnf)); first | (with_reducible first | refine FCond.tA ?_ | refine FCond.fA ?_) | ((with_reducible refine FCond.i (fun hq => ?_) (fun hq => ?_)) <;> (try simp only [zA, zE, zD, zJ, zB, zI, Int.not_le, Int.not_lt] at hq)) | (with_reducible first | refine Fits.in64 (by omega) ?_ | refine FIdx.nat (by omega) ?_ | refine FIdx.int (by omega) ?_ | refine FTo.nat (by omega) ?_ | refine FTo.int (by omega) ?_) | ((with_reducible refine Need.mk ?_ ?_); focus exact needA) | (with_reducible refine FApp.grow ?_) | (refine FCall.lend [3] ((worst_ok f t false false (List.replicate ((i + 1) + 1) (((h + 1) : Nat) : Int)) k (rep_in (by omega) (by omega)) (by rw [List.length_replicate]; omega))) ⟨Ln.sameB _ rfl, Ln.pubE (by decide) rfl (Nat.le_refl _) (by rw [List.length_replicate]) (fun j hj o ho => rep_app hj), True.intro⟩ rfl trivial ?_)))
        all_goals (try (conv => whnf))
        all_goals rw [worst_rep (by omega) (by omega)] at hq
        · (exact ⟨⟨(h + 2), by omega, by show _ < _; omega, [0, 4], (by (refine Cut.of (Nat.le_of_ble_eq_true rfl) rfl rfl ?_; repeat (first | exact CutL.done | (refine CutL.turned rfl (by first | exact LnB.rowS | exact LnB.app (fun _ _ _ _ => rfl) (fun _ _ => int_eq (congrArg Int.ofNat (long_stop hlt hN hq))) | exact LnB.app (fun k hk => absurd hk (Nat.not_lt_zero k)) (fun _ _ => int_eq (congrArg Int.ofNat (long_stop hlt hN hq))) | exact LnB.A) ?_) | (refine CutL.gone (Nat.lt_of_lt_of_le (Nat.lt_succ_self _) (Nat.le_of_ble_eq_true rfl)) ?_)))), allA⟩⟩)
        · (exact ⟨⟨((i + 1) + 1), ⟨by omega, long_go hlt hN hq⟩, by show _ < _; omega, [0, 1, 3], (by (refine Cut.of (Nat.le_of_ble_eq_true rfl) rfl rfl ?_; repeat (first | exact CutL.done | (refine CutL.turned rfl (by first | exact LnB.rowS | exact LnB.rowE (Nat.le_refl _) (fun j hj o ho => rep_app hj) | exact LnB.A) ?_) | (refine CutL.gone (Nat.lt_of_lt_of_le (Nat.lt_succ_self _) (Nat.le_of_ble_eq_true rfl)) ?_)))), allA⟩⟩)
      · have hiM : i + 1 = lenM t := by omega
        rw [hiM] at hN
        (repeat' ((try (conv => whnf)); first | (with_reducible first | refine FCond.tA ?_ | refine FCond.fA ?_) | ((with_reducible refine FCond.i (fun hq => ?_) (fun hq => ?_)) <;> (try simp only [zA, zE, zD, zJ, zB, zI, Int.not_le, Int.not_lt] at hq)) | (with_reducible first | refine Fits.in64 (by omega) ?_ | refine FIdx.nat (by omega) ?_ | refine FIdx.int (by omega) ?_ | refine FTo.nat (by omega) ?_ | refine FTo.int (by omega) ?_) | ((with_reducible refine Need.mk ?_ ?_); focus exact needA) | (with_reducible refine FApp.grow ?_)))
        all_goals (try (conv => whnf))
        (exact ⟨⟨(h + 2), by omega, by show _ < _; omega, [0, 3], (by (refine Cut.of (Nat.le_of_ble_eq_true rfl) rfl rfl ?_; repeat (first | exact CutL.done | (refine CutL.turned rfl (by first | exact LnB.rowS | exact LnB.app (fun _ _ _ _ => rfl) (fun _ _ => int_eq (congrArg Int.ofNat (hiM.trans (long_end hN).symm).symm)) | exact LnB.app (fun k hk => absurd hk (Nat.not_lt_zero k)) (fun _ _ => int_eq (congrArg Int.ofNat (hiM.trans (long_end hN).symm).symm)) | exact LnB.A) ?_) | (refine CutL.gone (Nat.lt_of_lt_of_le (Nat.lt_succ_self _) (Nat.le_of_ble_eq_true rfl)) ?_)))), allA⟩⟩)
    · have hn : h + 1 = t.hands.length := by omega
      (repeat' ((try (conv => whnf)); first | (with_reducible first | refine FCond.tA ?_ | refine FCond.fA ?_) | ((with_reducible refine FCond.i (fun hq => ?_) (fun hq => ?_)) <;> (try simp only [zA, zE, zD, zJ, zB, zI, Int.not_le, Int.not_lt] at hq)) | (with_reducible first | refine Fits.in64 (by omega) ?_ | refine FIdx.nat (by omega) ?_ | refine FIdx.int (by omega) ?_ | refine FTo.nat (by omega) ?_ | refine FTo.int (by omega) ?_) | ((with_reducible refine Need.mk ?_ ?_); focus exact needA) | (with_reducible refine FApp.grow ?_)))
      (try (conv => whnf))
      refine ⟨⟨.tup 2 (ofL [aInts false false (longL t most), AI 0]), [], [], Cut.nil _, Ln.tupN ⟨⟨True.intro, Ln.pubE (goneB rfl) rfl (Nat.le_refl _) (by simp only [longL, List.length_map, List.length_range]; exact hn) (fun k hk o ho => int_eq (longL_get (by omega)))⟩, Ln.A⟩, ?_, rfl⟩⟩
      unfold longE; rw [if_pos hok, if_neg hm]
end Go.Proofs.Ytomkjfhepfinhaa

namespace Go.Proofs.Ytomkjfhepfinhaa
open Go.RowKit

abbrev flC (t : Task) : TFl := ⟨false, decide (t.hands.length = 0), false, decide (t.parts.length = 0)⟩
theorem Ln.slZ {σ : Nat → Nat → Prop} {Bp : Nat → Prop} {H : List AB} {n' sz : Nat} {c c' : Nat → Nat → AV} (h : n' = 0) : Ln σ Bp H (.sl false true 0 sz c) (.sl false (decide (n' = 0)) n' sz c') := by
  subst h
  exact Ln.sl _ _ _ _ _ _ _ (fun _ => rfl) (fun k hk => absurd hk (Nat.not_lt_zero k))
theorem Ln.pubD {σ : Nat → Nat → Prop} {Bp : Nat → Prop} {H : List AB} {d n n' N sz : Nat} {c c' : Nat → Nat → AV} (h0 : 0 < n') (h : Bp d) (hd : H[d]? = some (.row N sz c)) (hn : n ≤ N) (e : n = n') (hc : ∀ k, k < n → ∀ o, o < sz → c' k o = c k o) : Ln σ Bp H (.own d n) (.sl false (decide (n' = 0)) n' sz c') := by
  rw [decide_eq_false (by omega)]; exact Ln.pubE h hd hn e hc
set_option maxHeartbeats 4000000 in
set_option maxRecDepth 100000 in
theorem copy_00 (f : TFl) (t : Task) (ha : t.hands.length = 0) (hb : t.parts.length = 0) : ACall Try.prog 23 [aTask f t] [] (fun v h => v = aTask (flC t) t ∧ h = []) := by
  have hA := ha
  have hB := hb
  (refine fcall_of mixed Try.func23 rfl (by decide) (hs := {}) ?k (ac := ?ac) ?c (rs := ?rs) ?r ?l ?H; (case k => kernel_rfl); (case c => (conv => (lhs; cbv))); (case r => (conv => (lhs; cbv))); (case l => exact Nat.le_of_ble_eq_true rfl))
  (repeat' ((try (conv => whnf)); first | (with_reducible first | refine FCond.tA ?_ | refine FCond.fA ?_) | ((with_reducible refine FCond.i (fun hq => ?_) (fun hq => ?_)) <;> (try simp only [zA, zE, zD, zJ, zB, zI, Int.not_le, Int.not_lt] at hq)) | (with_reducible first | refine Fits.in64 (by omega) ?_ | refine FIdx.nat (by omega) ?_ | refine FIdx.int (by omega) ?_ | refine FTo.nat (by omega) ?_ | refine FTo.int (by omega) ?_) | ((with_reducible refine Need.mk ?_ ?_); focus exact needA) | (with_reducible refine FApp.grow ?_)))
  (try (conv => whnf))
  rw [hA]
  (repeat' ((try (conv => whnf)); first | (with_reducible first | refine FCond.tA ?_ | refine FCond.fA ?_) | ((with_reducible refine FCond.i (fun hq => ?_) (fun hq => ?_)) <;> (try simp only [zA, zE, zD, zJ, zB, zI, Int.not_le, Int.not_lt] at hq)) | (with_reducible first | refine Fits.in64 (by omega) ?_ | refine FIdx.nat (by omega) ?_ | refine FIdx.int (by omega) ?_ | refine FTo.nat (by omega) ?_ | refine FTo.int (by omega) ?_) | ((with_reducible refine Need.mk ?_ ?_); focus exact needA) | (with_reducible refine FApp.grow ?_)))
  (try (conv => whnf))
  rw [hB]
  (repeat' ((try (conv => whnf)); first | (with_reducible first | refine FCond.tA ?_ | refine FCond.fA ?_) | ((with_reducible refine FCond.i (fun hq => ?_) (fun hq => ?_)) <;> (try simp only [zA, zE, zD, zJ, zB, zI, Int.not_le, Int.not_lt] at hq)) | (with_reducible first | refine Fits.in64 (by omega) ?_ | refine FIdx.nat (by omega) ?_ | refine FIdx.int (by omega) ?_ | refine FTo.nat (by omega) ?_ | refine FTo.int (by omega) ?_) | ((with_reducible refine Need.mk ?_ ?_); focus exact needA) | (with_reducible refine FApp.grow ?_)))
  (try (conv => whnf))
  refine ⟨⟨aTask (flC t) t, [], [], Cut.nil _, Ln.aggN ⟨⟨⟨⟨⟨True.intro, Ln.slZ ha⟩, Ln.slZ hb⟩, Ln.A⟩, Ln.A⟩, Ln.A⟩, rfl, rfl⟩⟩
set_option maxHeartbeats 4000000 in
set_option maxRecDepth 100000 in
theorem copy_0b (f : TFl) (t : Task) (ha : t.hands.length = 0) (hb : 0 < t.parts.length ∧ t.parts.length ≤ 1000) : ACall Try.prog 23 [aTask f t] [] (fun v h => v = aTask (flC t) t ∧ h = []) := by
  have hA := ha
  obtain ⟨b, hB⟩ : ∃ b, t.parts.length = b + 1 := ⟨t.parts.length - 1, by omega⟩
  (refine fcall_of mixed Try.func23 rfl (by decide) (hs := {}) ?k (ac := ?ac) ?c (rs := ?rs) ?r ?l ?H; (case k => kernel_rfl); (case c => (conv => (lhs; cbv))); (case r => (conv => (lhs; cbv))); (case l => exact Nat.le_of_ble_eq_true rfl))
  (repeat' ((try (conv => whnf)); first | (with_reducible first | refine FCond.tA ?_ | refine FCond.fA ?_) | ((with_reducible refine FCond.i (fun hq => ?_) (fun hq => ?_)) <;> (try simp only [zA, zE, zD, zJ, zB, zI, Int.not_le, Int.not_lt] at hq)) | (with_reducible first | refine Fits.in64 (by omega) ?_ | refine FIdx.nat (by omega) ?_ | refine FIdx.int (by omega) ?_ | refine FTo.nat (by omega) ?_ | refine FTo.int (by omega) ?_) | ((with_reducible refine Need.mk ?_ ?_); focus exact needA) | (with_reducible refine FApp.grow ?_)))
  (try (conv => whnf))
  rw [hA]
  (repeat' ((try (conv => whnf)); first | (with_reducible first | refine FCond.tA ?_ | refine FCond.fA ?_) | ((with_reducible refine FCond.i (fun hq => ?_) (fun hq => ?_)) <;> (try simp only [zA, zE, zD, zJ, zB, zI, Int.not_le, Int.not_lt] at hq)) | (with_reducible first | refine Fits.in64 (by omega) ?_ | refine FIdx.nat (by omega) ?_ | refine FIdx.int (by omega) ?_ | refine FTo.nat (by omega) ?_ | refine FTo.int (by omega) ?_) | ((with_reducible refine Need.mk ?_ ?_); focus exact needA) | (with_reducible refine FApp.grow ?_)))
  (try (conv => whnf))
  rw [hB]
  (repeat' ((try (conv => whnf)); first | (with_reducible first | refine FCond.tA ?_ | refine FCond.fA ?_) | ((with_reducible refine FCond.i (fun hq => ?_) (fun hq => ?_)) <;> (try simp only [zA, zE, zD, zJ, zB, zI, Int.not_le, Int.not_lt] at hq)) | (with_reducible first | refine Fits.in64 (by omega) ?_ | refine FIdx.nat (by omega) ?_ | refine FIdx.int (by omega) ?_ | refine FTo.nat (by omega) ?_ | refine FTo.int (by omega) ?_) | ((with_reducible refine Need.mk ?_ ?_); focus exact needA) | (with_reducible refine FApp.grow ?_)))
  (try (conv => whnf))
  refine ⟨⟨aTask (flC t) t, [], [], Cut.nil _, Ln.aggN ⟨⟨⟨⟨⟨True.intro, Ln.slZ ha⟩, ?_⟩, Ln.A⟩, Ln.A⟩, Ln.A⟩, rfl, rfl⟩⟩
  · refine Ln.pubD (by omega) (goneB rfl) rfl (by omega) (by omega) (fun k hk o ho => ?_)
    simp [appc]
set_option maxHeartbeats 4000000 in
set_option maxRecDepth 100000 in
theorem copy_a0 (f : TFl) (t : Task) (ha : 0 < t.hands.length ∧ t.hands.length ≤ 1000) (hb : t.parts.length = 0) : ACall Try.prog 23 [aTask f t] [] (fun v h => v = aTask (flC t) t ∧ h = []) := by
  obtain ⟨a, hA⟩ : ∃ a, t.hands.length = a + 1 := ⟨t.hands.length - 1, by omega⟩
  have hB := hb
  (refine fcall_of mixed Try.func23 rfl (by decide) (hs := {}) ?k (ac := ?ac) ?c (rs := ?rs) ?r ?l ?H; (case k => kernel_rfl); (case c => (conv => (lhs; cbv))); (case r => (conv => (lhs; cbv))); (case l => exact Nat.le_of_ble_eq_true rfl))
  (repeat' ((try (conv => whnf)); first | (with_reducible first | refine FCond.tA ?_ | refine FCond.fA ?_) | ((with_reducible refine FCond.i (fun hq => ?_) (fun hq => ?_)) <;> (try simp only [zA, zE, zD, zJ, zB, zI, Int.not_le, Int.not_lt] at hq)) | (with_reducible first | refine Fits.in64 (by omega) ?_ | refine FIdx.nat (by omega) ?_ | refine FIdx.int (by omega) ?_ | refine FTo.nat (by omega) ?_ | refine FTo.int (by omega) ?_) | ((with_reducible refine Need.mk ?_ ?_); focus exact needA) | (with_reducible refine FApp.grow ?_)))
  (try (conv => whnf))
  rw [hA]
  (repeat' ((try (conv => whnf)); first | (with_reducible first | refine FCond.tA ?_ | refine FCond.fA ?_) | ((with_reducible refine FCond.i (fun hq => ?_) (fun hq => ?_)) <;> (try simp only [zA, zE, zD, zJ, zB, zI, Int.not_le, Int.not_lt] at hq)) | (with_reducible first | refine Fits.in64 (by omega) ?_ | refine FIdx.nat (by omega) ?_ | refine FIdx.int (by omega) ?_ | refine FTo.nat (by omega) ?_ | refine FTo.int (by omega) ?_) | ((with_reducible refine Need.mk ?_ ?_); focus exact needA) | (with_reducible refine FApp.grow ?_)))
  (try (conv => whnf))
  rw [hB]
  (repeat' ((try (conv => whnf)); first | (with_reducible first | refine FCond.tA ?_ | refine FCond.fA ?_) | ((with_reducible refine FCond.i (fun hq => ?_) (fun hq => ?_)) <;> (try simp only [zA, zE, zD, zJ, zB, zI, Int.not_le, Int.not_lt] at hq)) | (with_reducible first | refine Fits.in64 (by omega) ?_ | refine FIdx.nat (by omega) ?_ | refine FIdx.int (by omega) ?_ | refine FTo.nat (by omega) ?_ | refine FTo.int (by omega) ?_) | ((with_reducible refine Need.mk ?_ ?_); focus exact needA) | (with_reducible refine FApp.grow ?_)))
  (try (conv => whnf))
  refine ⟨⟨aTask (flC t) t, [], [], Cut.nil _, Ln.aggN ⟨⟨⟨⟨⟨True.intro, ?_⟩, Ln.slZ hb⟩, Ln.A⟩, Ln.A⟩, Ln.A⟩, rfl, rfl⟩⟩
  · refine Ln.pubD (by omega) (goneB rfl) rfl (by omega) (by omega) (fun k hk o ho => ?_)
    simp [appc]
theorem copy_pub (f : TFl) (t : Task) (h1 : t.hands.length ≤ 1000) (h2 : t.parts.length ≤ 1000) : ACall Try.prog 23 [aTask f t] [] (fun v h => v = aTask (flC t) t ∧ h = []) := by
  rcases Nat.eq_zero_or_pos t.hands.length with ha | ha
  · rcases Nat.eq_zero_or_pos t.parts.length with hb | hb
    · exact copy_00 f t ha hb
    · exact copy_0b f t ha ⟨hb, h2⟩
  · rcases Nat.eq_zero_or_pos t.parts.length with hb | hb
    · exact copy_a0 f t ⟨ha, h1⟩ hb
    · refine ACall.wk (ACall.mono' Try.prog ?_ (copy_own f t ⟨ha, h1⟩ ⟨hb, h2⟩))
      rintro _ _ ⟨rfl, rfl⟩
      refine ⟨aTask (flC t) t, [], [], Cut.nil _, Ln.aggN ⟨⟨⟨⟨⟨True.intro, ?_⟩, ?_⟩, Ln.A⟩, Ln.A⟩, Ln.A⟩, rfl, rfl⟩
      · exact Ln.pubD ha (goneB rfl) rfl (Nat.le_refl _) rfl (fun _ _ _ _ => rfl)
      · exact Ln.pubD hb (goneB rfl) rfl (Nat.le_refl _) rfl (fun _ _ _ _ => rfl)
end Go.Proofs.Ytomkjfhepfinhaa

namespace Go.Proofs.Ytomkjfhepfinhaa
open Go.RowKit

theorem rPlan_with {t : Task} {l : List Int} (k : TaskOk t) (S : SubL t l) (hs : l.Pairwise (· < ·)) : (planS t l = none ∧ rPlan (withT t l) = none) ∨ ∃ r w l', planS t l = some (r, w) ∧ rPlan (withT t l) = some (l', w) := by
  have kw := withT_ok k S
  have okw : (withT t l).ok = true := task_ok kw
  rw [rPlan_eq kw]
  rcases plan_two kw with ⟨u1, _⟩ | ⟨l', u1, _, _, _⟩
  · rcases with_plan k S hs with ⟨a, _⟩ | ⟨r, w, l', _, b⟩
    · exact .inl ⟨a, u1⟩
    · rw [planE_no okw u1] at b
      simp [AI] at b
  · rcases with_plan k S hs with ⟨_, b⟩ | ⟨r, w, l2, a, b⟩
    · rw [planE_yes okw u1] at b
      simp [AI] at b
    · rw [planE_yes okw u1] at b
      have e : badOf (withT t l) l' = w := by simp [AI] at b; exact b.2
      rw [e] at u1
      exact .inr ⟨r, w, l', a, u1⟩
theorem rh_eq {t : Task} {most : Int} {s : Nat} {st : PSt} (k : TaskOk t) (h0 : 0 < s) (hs : s < 2 ^ t.hands.length) : rhstep t most s st = hstep t most s st := by
  have h3 := setL_3 (n := t.hands.length) k.hn.2 hs
  have hp : 0 < (setL t.hands.length s).length := by
    rw [← h3]
    refine setL_pos h0 ?_
    have : 2 ^ t.hands.length ≤ 2 ^ 3 := Nat.pow_le_pow_right (by decide) k.hn.2
    omega
  rcases rPlan_with k (setL_sub k hp) (setL_sorted _ _) with ⟨a, b⟩ | ⟨r, w, l', a, b⟩
  · rw [rh_none b, hstep_none a]
  · by_cases hw : w ≤ most
    · by_cases hb : betterP (setL t.hands.length s) w st = true
      · rw [hstep_yes a hw hb, rh_yes b hw]
        rcases st with _ | ⟨x, y⟩
        · trivial
        · exact beats_iff.1 hb
      · rw [hstep_no a (by simpa using hb), rh_no b]
        rcases st with _ | ⟨x, y⟩
        · exact absurd rfl hb
        · exact fun h => hb (beats_iff.2 h)
    · rw [rh_big b hw, hstep_big a hw]
theorem rhS_eq {t : Task} {most : Int} (k : TaskOk t) : ∀ i, i < 2 ^ t.hands.length → rhS t most i = hS t most (i + 1)
  | 0, _ => by
    have e : setL t.hands.length 0 = [] := by
      unfold setL
      rw [List.filter_eq_nil_iff]
      intro a _
      simp [keepB]
    rw [rhS, hS, hS, hstep_none]
    rw [e]; exact plan_nil k
  | i + 1, hi => by
    rw [rhS, hS, rhS_eq k i (by omega), rh_eq k (by omega) hi]
theorem rhandsE_eq {t : Task} {most : Int} : rhandsE t most = handsE t most := by
  unfold rhandsE handsE
  by_cases hok : t.ok = true
  · have k := taskOk hok
    have h2 : 0 < 2 ^ t.hands.length := Nat.two_pow_pos _
    rw [if_pos hok, if_pos hok, rhS_eq k _ (by omega), show 2 ^ t.hands.length - 1 + 1 = 2 ^ t.hands.length by omega]
    try (rcases hS t most (2 ^ t.hands.length) with _ | ⟨l, w⟩ <;> rfl)
  · rw [if_neg hok, if_neg hok]
/-- What a function gives that returns numbers, or nil. -/
def NilOr (z : Bool) (l : List Int) (v : AV) : Prop := l.length ≤ 1000000 ∧ (v = nilS ∧ z = true ∧ l = [] ∨ v = aInts false false l ∧ z = false)
theorem planE_n (t : Task) : ∃ z l v w c, planE t = [v, AI w, AI c] ∧ NilOr z l v := by
  unfold planE
  by_cases hok : t.ok = true
  · rw [if_pos hok]
    have k := taskOk hok
    rcases plan_two k with ⟨u1, _⟩ | ⟨l, u1, m1, _, _⟩
    · rw [u1]; exact ⟨true, [], _, _, _, rfl, by simp, .inl ⟨rfl, rfl, rfl⟩⟩
    · rw [u1]
      refine ⟨false, l, _, _, _, rfl, ?_, .inr ⟨rfl, rfl⟩⟩
      have := (isRota_e m1).1
      have := k.pn
      omega
  · rw [if_neg hok]; exact ⟨true, [], _, _, _, rfl, by simp, .inl ⟨rfl, rfl, rfl⟩⟩
theorem handsE_n (t : Task) (most : Int) : ∃ z l v c, handsE t most = [v, AI c] ∧ NilOr z l v := by
  unfold handsE
  by_cases hok : t.ok = true
  · rw [if_pos hok]
    have k := taskOk hok
    by_cases hm : most < 0
    · rw [if_pos hm]; exact ⟨true, [], _, _, rfl, by simp, .inl ⟨rfl, rfl, rfl⟩⟩
    · rw [if_neg hm]
      have hb := hS_bd t most (2 ^ t.hands.length)
      generalize hS t most (2 ^ t.hands.length) = st at hb
      rcases st with _ | ⟨l, w⟩
      · exact ⟨true, [], _, _, rfl, by simp, .inl ⟨rfl, rfl, rfl⟩⟩
      · refine ⟨false, l, _, _, rfl, ?_, .inr ⟨rfl, rfl⟩⟩
        simp only [PSt.ll] at hb
        have := k.hn
        omega
  · rw [if_neg hok]; exact ⟨true, [], _, _, rfl, by simp, .inl ⟨rfl, rfl, rfl⟩⟩
theorem longE_n (t : Task) (most : Int) : ∃ z l v c, longE t most = [v, AI c] ∧ NilOr z l v := by
  unfold longE
  by_cases hok : t.ok = true
  · rw [if_pos hok]
    have k := taskOk hok
    by_cases hm : most < 0
    · rw [if_pos hm]; exact ⟨true, [], _, _, rfl, by simp, .inl ⟨rfl, rfl, rfl⟩⟩
    · rw [if_neg hm]
      refine ⟨false, _, _, _, rfl, ?_, .inr ⟨rfl, rfl⟩⟩
      have := k.hn
      simp [longL]; omega
  · rw [if_neg hok]; exact ⟨true, [], _, _, rfl, by simp, .inl ⟨rfl, rfl, rfl⟩⟩
set_option maxHeartbeats 8000000 in
set_option maxRecDepth 100000 in
theorem plans_any (f : TFl) (t : Task) (most : Int) : ACall Try.prog 10 [aTask f t, AI most] [] (fun v h => v = .bool true ∧ h = []) := by
  have hcf := far_ok f t
  (refine fcall_of mixed Try.func10 rfl (by decide) (hs := {}) ?k (ac := ?ac) ?c (rs := ?rs) ?r ?l ?H; (case k => kernel_rfl); (case c => (conv => (lhs; cbv))); (case r => (conv => (lhs; cbv))); (case l => exact Nat.le_of_ble_eq_true rfl))
  by_cases hf : farP t = true
  · rw [hf] at hcf
    (repeat' ((try (conv => whnf)); first | (with_reducible first | refine FCond.tA ?_ | refine FCond.fA ?_) | ((with_reducible refine FCond.i (fun hq => ?_) (fun hq => ?_)) <;> (try simp only [zA, zE, zD, zJ, zB, zI, Int.not_le, Int.not_lt] at hq)) | (with_reducible first | refine Fits.in64 (by omega) ?_ | refine FIdx.nat (by omega) ?_ | refine FIdx.int (by omega) ?_ | refine FTo.nat (by omega) ?_ | refine FTo.int (by omega) ?_) | ((with_reducible refine Need.mk ?_ ?_); focus exact needA) | (with_reducible refine FApp.grow ?_) | (refine FCall.pure (hcf) ⟨Ln.sameB _ rfl, True.intro⟩ rfl ?_) | (refine FCall.pure works_ok True.intro rfl ?_)))
    all_goals (try (conv => whnf))
    all_goals ((refine ⟨⟨_, [], [], Cut.nil _, Ln.sameB _ rfl, ?_, rfl⟩⟩); rfl)
  replace hf : farP t = false := by simpa using hf
  rw [hf] at hcf
  simp only [farP, decide_eq_false_iff_not, not_or] at hf
  have b1 : t.hands.length ≤ 20 := by omega
  have b2 : t.parts.length ≤ 20 := by omega
  have cC := copy_pub f t (by omega) (by omega)
  have c1 := pPlan_ok (flC t) t (by omega) (by omega)
  have c2 := refPlan_ok f t (by omega) (by omega)
  have c3 := hands_ok (flC t) t most (by omega) (by omega)
  have c4 := refHands_ok f t most (by omega) (by omega)
  have c5 := longest_ok (flC t) t most (by omega) (by omega)
  have c6 := refLongest_ok f t most (by omega) (by omega)
  rw [rPlanE_eq] at c2
  rw [rhandsE_eq] at c4
  obtain ⟨z1, l1, v1, w1, e1, h1, hl1, hv1⟩ := planE_n t
  rw [h1] at c1 c2
  obtain ⟨z2, l2, v2, e2, h2, hl2, hv2⟩ := handsE_n t most
  rw [h2] at c3 c4
  obtain ⟨z3, l3, v3, e3, h3, hl3, hv3⟩ := longE_n t most
  rw [h3] at c5 c6
  have s1 := sameInts_ok z1 z1 z1 z1 l1 l1 hl1
  have s2 := sameInts_ok z2 z2 z2 z2 l2 l2 hl2
  have s3 := sameInts_ok z3 z3 z3 z3 l3 l3 hl3
  rw [decide_eq_true rfl] at s1 s2 s3
  have LN0 : ∀ {σ : Nat → Nat → Prop} {Bp : Nat → Prop} {H : List AB}, Ln σ Bp H nilS (aInts true true []) := Ln.slz _ _ _ _ _ _ _ (by decide)
  clear hf h1 h2 h3 b1 b2 hl1 hl2 hl3
  rcases hv1 with ⟨rfl, rfl, rfl⟩ | ⟨rfl, rfl⟩
  all_goals rcases hv2 with ⟨rfl, rfl, rfl⟩ | ⟨rfl, rfl⟩
  all_goals rcases hv3 with ⟨rfl, rfl, rfl⟩ | ⟨rfl, rfl⟩
  all_goals
    (repeat' ((try (conv => whnf)); first | (with_reducible first | refine FCond.tA ?_ | refine FCond.fA ?_) | ((with_reducible refine FCond.i (fun hq => ?_) (fun hq => ?_)) <;> (try simp only [zA, zE, zD, zJ, zB, zI, Int.not_le, Int.not_lt] at hq)) | (with_reducible first | refine Fits.in64 (by omega) ?_ | refine FIdx.nat (by omega) ?_ | refine FIdx.int (by omega) ?_ | refine FTo.nat (by omega) ?_ | refine FTo.int (by omega) ?_) | ((with_reducible refine Need.mk ?_ ?_); focus exact needA) | (with_reducible refine FApp.grow ?_) | (refine FCall.pure (hcf) ⟨Ln.sameB _ rfl, True.intro⟩ rfl ?_) | (refine FCall.pure (cC) ⟨Ln.sameB _ rfl, True.intro⟩ rfl ?_) | (refine FCall.pure works_ok True.intro rfl ?_) | (refine FCall.pure (c1) ⟨Ln.sameB _ rfl, True.intro⟩ rfl ?_) | (refine FCall.pure (c2) ⟨Ln.sameB _ rfl, True.intro⟩ rfl ?_) | (refine FCall.pure (c3) ⟨Ln.sameB _ rfl, Ln.sameB _ rfl, True.intro⟩ rfl ?_) | (refine FCall.pure (c4) ⟨Ln.sameB _ rfl, Ln.sameB _ rfl, True.intro⟩ rfl ?_) | (refine FCall.pure (c5) ⟨Ln.sameB _ rfl, Ln.sameB _ rfl, True.intro⟩ rfl ?_) | (refine FCall.pure (c6) ⟨Ln.sameB _ rfl, Ln.sameB _ rfl, True.intro⟩ rfl ?_) | (refine FCall.pure s1 ⟨LN0, LN0, True.intro⟩ rfl ?_) | (refine FCall.pure (s1) ⟨Ln.sameB _ rfl, Ln.sameB _ rfl, True.intro⟩ rfl ?_) | (refine FCall.pure s2 ⟨LN0, LN0, True.intro⟩ rfl ?_) | (refine FCall.pure (s2) ⟨Ln.sameB _ rfl, Ln.sameB _ rfl, True.intro⟩ rfl ?_) | (refine FCall.pure s3 ⟨LN0, LN0, True.intro⟩ rfl ?_) | (refine FCall.pure (s3) ⟨Ln.sameB _ rfl, Ln.sameB _ rfl, True.intro⟩ rfl ?_)))
    all_goals (try (conv => whnf))
    all_goals ((refine ⟨⟨_, [], [], Cut.nil _, Ln.sameB _ rfl, ?_, rfl⟩⟩); rfl)
end Go.Proofs.Ytomkjfhepfinhaa

namespace Go.Proofs.Ytomkjfhepfinhaa
open Go.RowKit

theorem block_of_add (a : Addr) (n : Nat) : (a.add n).block = a.block := by unfold Addr.add; split <;> rfl
theorem add_of_add (a : Addr) (i j : Nat) : (a.add i).add j = a.add (i + j) := by
  unfold Addr.add
  by_cases hi : i = 0 <;> by_cases hj : j = 0 <;> simp [hi, hj, Nat.add_assoc]

/-- w' has all that w has, unchanged. -/
abbrev Ext (w w' : World) : Prop := Below w.heap.size w w'

theorem Ext.refl (w : World) : Ext w w := Below.refl _ w
theorem Ext.trans {a b c : World} (h : Ext a b) (k : Ext b c) : Ext a c := Below.trans h (k.mono h.size)
theorem Ext.of_alloc (w : World) (o : Obj) : Ext w (w.alloc o) := (Below.refl _ w).alloc (Nat.le_refl _) o
theorem Ext.alloc {a w : World} (h : Ext a w) (o : Obj) : Ext a (w.alloc o) := Below.alloc h h.size o
theorem Ext.drew {a w : World} (h : Ext a w) : Ext a w.drew := Below.drew h
theorem Ext.drewN {a w : World} (h : Ext a w) (n : Nat) : Ext a (w.drewN n) := ⟨h.os, h.tape, h.output, h.size, h.block⟩
theorem Ext.cellOf {w w' : World} (h : Ext w w') {p : Addr} (hp : p.block < w.heap.size) : w'.cell? p = w.cell? p := Below.cell h hp

/-- The n elements (size cells each) of a slice at A are the cells xs. -/
def Sl (w : World) (size : Nat) (A : Option Addr) (n : Nat) (xs : List Value) : Prop :=
  xs.length = n * size ∧ (0 < n → ∃ b off, A = some ⟨b, off, none⟩ ∧ b < w.heap.size ∧ ∀ (j : Nat) (u : Value), xs[j]? = some u → w.cell? ⟨b, off + j, none⟩ = some u)

theorem Sl.ext {w w' : World} {size n : Nat} {A : Option Addr} {xs : List Value} (h : Sl w size A n xs) (e : Ext w w') : Sl w' size A n xs :=
  ⟨h.1, fun hn => by
    obtain ⟨b, off, hA, hb, hc⟩ := h.2 hn
    exact ⟨b, off, hA, Nat.lt_of_lt_of_le hb e.size, fun j u hu => (e.cellOf (p := ⟨b, off + j, none⟩) hb).trans (hc j u hu)⟩⟩
theorem Sl.nil (w : World) (size : Nat) (A : Option Addr) : Sl w size A 0 [] := ⟨by simp, fun h => absurd h (by omega)⟩
theorem own_lt {w : World} {g : Nat} {o : Obj} (hh : w.heap[g]? = some o) : g < w.heap.size := by
  rcases Nat.lt_or_ge g w.heap.size with hlt | hge
  · exact hlt
  · rw [Array.getElem?_eq_none hge] at hh; cases hh
theorem Sl.of_own {w : World} {base size n c : Nat} {e : TypeId} {A : Option Addr} {xs : List Value} (h : w.ownsRow base e size (.slice A n c) n xs) : Sl w size A n xs := by
  refine ⟨h.1, fun hn => ?_⟩
  rcases h.2 with ⟨hv, hx⟩ | ⟨g, cap, cur, hv, hb, hh, _⟩
  · injection hv with hA hn'
    omega
  · injection hv with hA
    subst hA
    refine ⟨g, 0, rfl, own_lt hh, fun j u hu => ?_⟩
    have h1 := h.cells (g := g) rfl j u hu
    unfold Addr.add at h1
    split at h1
    · rename_i h0; subst h0; exact h1
    · simpa using h1
theorem Sl.at {w : World} {size n : Nat} {A : Option Addr} {xs : List Value} (h : Sl w size A n xs) {k : Nat} (hk : k < n) :
    ∃ b off, A = some ⟨b, off, none⟩ ∧ b < w.heap.size ∧ ∀ i, i < size → ∃ u, xs[k * size + i]? = some u ∧ w.cell? ⟨b, off + (k * size + i), none⟩ = some u := by
  obtain ⟨b, off, hA, hb, hc⟩ := h.2 (by omega)
  refine ⟨b, off, hA, hb, fun i hi => ?_⟩
  have hlt : k * size + i < xs.length := by
    rw [h.1]
    have : (k + 1) * size ≤ n * size := Nat.mul_le_mul_right _ hk
    rw [Nat.add_mul] at this
    omega
  exact ⟨xs[k * size + i], List.getElem?_eq_getElem hlt, hc _ _ (List.getElem?_eq_getElem hlt)⟩

/-- A slice of ints. -/
def Ints (w : World) (A : Option Addr) (l : List Int) : Prop :=
  ∀ k, k < l.length → ∃ b off, A = some ⟨b, off, none⟩ ∧ b < w.heap.size ∧ w.cell? ⟨b, off + k, none⟩ = some (.int .i64 (l.getD k 0))
theorem Ints.ext {w w' : World} {A : Option Addr} {l : List Int} (h : Ints w A l) (e : Ext w w') : Ints w' A l := fun k hk => by
  obtain ⟨b, off, hA, hb, hc⟩ := h k hk
  exact ⟨b, off, hA, Nat.lt_of_lt_of_le hb e.size, (e.cellOf (p := ⟨b, off + k, none⟩) hb).trans hc⟩
theorem Ints.of_own {w : World} {base n c : Nat} {e : TypeId} {A : Option Addr} {l : List Int} (h : w.ownsRow base e 1 (.slice A n c) n (l.map (.int .i64))) : n = l.length ∧ Ints w A l := by
  have hl : n = l.length := by have := h.1; simp at this; omega
  refine ⟨hl, fun k hk => ?_⟩
  obtain ⟨b, off, hA, hb, hc⟩ := (Sl.of_own h).at (k := k) (by omega)
  obtain ⟨u, hu, hcu⟩ := hc 0 (by omega)
  refine ⟨b, off, hA, hb, ?_⟩
  simp at hu hcu
  obtain ⟨a, ha, rfl⟩ := hu
  rw [hcu]
  simp [List.getD, ha]

theorem Ints.get {w : World} {A : Option Addr} {l : List Int} (h : Ints w A l) {k : Nat} (hk : k < l.length) :
    ∃ b off x, A = some ⟨b, off, none⟩ ∧ b < w.heap.size ∧ w.cell? ⟨b, off + k, none⟩ = some (.int .i64 x) ∧ Hid (l.getD k 0 = x) := by
  obtain ⟨b, off, h1, h2, h3⟩ := h k hk
  exact ⟨b, off, _, h1, h2, h3, rfl⟩

theorem Ext.unalloc {w wr : World} {o : Obj} (h : Ext (w.alloc o) wr) : Ext w wr := (Ext.of_alloc w o).trans h
theorem Ext.box {w wr : World} {cs : Array Value} {T : TypeId} (h : Ext (w.alloc (.cells cs T)) wr) (i : Nat) : wr.cell? ⟨w.heap.size, i, none⟩ = cs[i]? := by
  rw [h.cellOf (by simp), World.cell?_alloc_at _ _ _ _ rfl]
theorem Ext.boxFree {w wr : World} {cs : Array Value} {T : TypeId} (h : Ext (w.alloc (.cells cs T)) wr) (i : Nat) : wr.frozen? ⟨w.heap.size, i, none⟩ = false := by
  rw [Below.frozen h (by simp), World.frozen?_alloc_at _ _ _ _ rfl]
theorem Ext.lt {w wr : World} {o : Obj} (h : Ext (w.alloc o) wr) : w.heap.size < wr.heap.size := by have := h.size; simp at this; omega
theorem Ext.le {w wr : World} (h : Ext w wr) : w.heap.size ≤ wr.heap.size := h.size

theorem Ext.grown {w w' : World} (h : Ext w w') (row : Option Nat) : w.grownBy w' row := ⟨h.os, h.tape, h.output, h.size, fun i hi _ => h.block i hi⟩
theorem Ext.of_grown {w w' : World} (h : w.grownBy w' none) : Ext w w' := ⟨h.os, h.tape, h.output, h.size, fun i hi => h.block i hi (by simp)⟩

/-- Block g is just the cells cs of element type t, none frozen. -/
def Blk (w : World) (g : Nat) (t : TypeId) (cs : Array Value) : Prop := w.heap[g]? = some (.cells cs t (0, 0))
theorem Blk.lt {w : World} {g : Nat} {t : TypeId} {cs : Array Value} (h : Blk w g t cs) : g < w.heap.size := own_lt h
theorem Blk.cell {w : World} {g : Nat} {t : TypeId} {cs : Array Value} (h : Blk w g t cs) (i : Nat) : w.cell? ⟨g, i, none⟩ = cs[i]? := by
  unfold Blk at h; simp [World.cell?, h]
theorem Blk.free {w : World} {g : Nat} {t : TypeId} {cs : Array Value} (h : Blk w g t cs) (i : Nat) : w.frozen? ⟨g, i, none⟩ = false := by
  unfold Blk at h; simp [World.frozen?, h]
theorem Blk.new (w : World) (t : TypeId) (cs : Array Value) : Blk (w.alloc (.cells cs t)) w.heap.size t cs := heap_alloc_new w _
theorem Blk.ext {w w' : World} {g : Nat} {t : TypeId} {cs : Array Value} (h : Blk w g t cs) (e : Ext w w') : Blk w' g t cs := (e.block g h.lt).trans h
theorem Blk.alloc {w : World} {g : Nat} {t : TypeId} {cs : Array Value} (h : Blk w g t cs) (o : Obj) : Blk (w.alloc o) g t cs := h.ext (Ext.of_alloc _ _)
theorem Blk.set {w : World} {g : Nat} {t : TypeId} {cs : Array Value} (h : Blk w g t cs) (i : Nat) (u : Value) : Blk (w.setCell ⟨g, i, none⟩ u) g t (cs.setIfInBounds i u) := by
  unfold Blk at h ⊢
  simp [World.setCell, Array.getElem?_modify, h]
theorem Blk.far {w : World} {g : Nat} {t : TypeId} {cs : Array Value} (h : Blk w g t cs) {p : Addr} (hp : g ≠ p.block) (u : Value) : Blk (w.setCell p u) g t cs := (Below.heap_setCell w p u g hp).trans h
theorem Blk.grown {w w' : World} {g : Nat} {t : TypeId} {cs : Array Value} {row : Option Nat} (h : Blk w g t cs) (hb : w.grownBy w' row) (hg : some g ≠ row) : Blk w' g t cs := (hb.block g h.lt hg).trans h
theorem Blk.ne {w : World} {g g' : Nat} {t t' : TypeId} {cs cs' : Array Value} (h : Blk w g t cs) (h' : Blk w g' t' cs') (hne : t ≠ t') : g ≠ g' := by
  rintro rfl
  unfold Blk at h h'
  rw [h] at h'
  injection h' with h'
  injection h' with _ ht
  exact hne ht
theorem grown_setCell (w : World) (p : Addr) (u : Value) : w.grownBy (w.setCell p u) (some p.block) :=
  ⟨rfl, rfl, rfl, by simp, fun i _ hne => Below.heap_setCell _ _ _ _ (fun e => hne (by rw [e]))⟩
theorem grown_refl (w : World) (row : Option Nat) : w.grownBy w row := (Ext.refl w).grown row
theorem grown_trans {a b c : World} {row : Option Nat} (h : a.grownBy b row) (k : b.grownBy c row) : a.grownBy c row :=
  ⟨k.os.trans h.os, k.tape.trans h.tape, k.output.trans h.output, Nat.le_trans h.size k.size, fun i hi hne => (k.block i (Nat.lt_of_lt_of_le hi h.size) hne).trans (h.block i hi hne)⟩
theorem grown_drew (w : World) (row : Option Nat) : w.grownBy w.drew row := (Ext.refl w).drew.grown row

theorem quiet_add_same {P : Program} {f : FuncId} {args : Array Value} {w : World} {a n : Nat} {v : Value}
    (h : Calls P f args (w.drewN (a + n)) fun e w' => e = .returned v ∧ w' = w.drewN (a + n)) :
    Calls P f args (w.drewN (a + n)) fun e w'' => e = .returned v ∧ ∃ m, w'' = w.drewN (a + m) :=
  h.mono fun _ _ ⟨he, hm⟩ => ⟨he, n, hm⟩

/-- A region that draws, all of whose operations read or call, in a class of worlds. -/
theorem wp_region_class {P : Program} {id : Nat} {Q : Exit → Act → World → Prop} {a : Act} {w : World} {l : List Oper} (C : World → Prop) (hm : P.follows .mixedOrders = true) (hB : Region.lexB .any l.toArray = true) (hC : C w.drew)
    (h : wpQuiet P l.toArray C (fun a' => ∀ w', C w' → Q .normal a' w') l a) : (Code.region id l.toArray true).wp P Q a w :=
  wp_region_quiet (C := C) hm hB hC (by simpa using h)

theorem ret_int {k : IntKind} {a b : Int} (h : a = b) : Ending.returned (.int k a) = .returned (.int k b) := by rw [h]
theorem ret_bool {a b : Bool} (h : a = b) : Ending.returned (.bool a) = .returned (.bool b) := by rw [h]
end Go.Proofs.Ytomkjfhepfinhaa

namespace Go.Proofs.Ytomkjfhepfinhaa
open Go.RowKit Go.ChangeShapes Go.WideShapes Go.Deep

section
variable {H : Type} {enc : TypeId × Value → H} {P : Program} {w : World} {base : Nat} {held : Bool}

/-- A slice's elements, cell by cell. -/
theorem rd_slice {t e : TypeId} {sz n : Nat} {v : Value} {y : DataW H × List MemPlace} (ht : P.underlying t = some (.slice e)) (hc : P.cellsOf e = sz) (hsz : 0 < sz) (h : DataW.trod enc P w base (fun _ => true) held n t [v] = some y) :
    ∃ A len cap, v = .slice A len cap ∧ len ≤ 9223372036854775807 ∧ (A = none → len = 0) ∧ ∀ i, i < len → ∃ b off m cs z, A = some ⟨b, off, none⟩ ∧ b < w.heap.size ∧ cs.length = sz ∧ (∀ j, j < sz → w.cell? ⟨b, off + i * sz + j, none⟩ = cs[j]?) ∧
      DataW.trod enc P w base (fun _ => true) held m e cs = some z := by
  rcases open_slice ht h with ⟨h0, _⟩ | ⟨a, len, cap, m, n', D, Pl, h0, hb, hl, hm, hmm, _, hx⟩
  · injection h0 with h0
    exact ⟨none, 0, 0, h0, by omega, fun _ => rfl, fun i hi => by omega⟩
  · injection h0 with h0
    have hmx : maxLen = 9223372036854775807 := rfl
    refine ⟨some a, len, cap, h0, by omega, (fun h => by cases h), fun i hi => ?_⟩
    simp only [if_true] at hmm
    obtain ⟨cs, h1, h2⟩ := hx i (by omega)
    obtain ⟨_, hlen, hcell⟩ := World.cells?_some h1
    rw [hc] at hlen hcell
    have hc0 := hcell 0 hsz
    rw [List.getElem?_eq_getElem (by omega)] at hc0
    obtain ⟨b, off, spot⟩ := a
    have hadd : ∀ (x y : Nat), ((⟨b, off, spot⟩ : Addr).add x).add y = (⟨b, off, spot⟩ : Addr).add (x + y) := fun x y => add_of_add _ _ _
    have hsp : spot = none := by
      obtain ⟨cs0, g1, _⟩ := hx 0 (by omega)
      obtain ⟨_, glen, gcell⟩ := World.cells?_some g1
      rw [hc] at glen gcell
      have g0 := gcell 0 hsz
      rw [List.getElem?_eq_getElem (by omega)] at g0
      have := World.cell?_spot g0
      simpa [hadd, Addr.add] using this
    subst hsp
    have hform : ∀ x, (⟨b, off, none⟩ : Addr).add x = ⟨b, off + x, none⟩ := fun x => by
      unfold Addr.add
      by_cases hx0 : x = 0 <;> simp [hx0]
    refine ⟨b, off, n', cs, _, rfl, ?_, hlen, fun j hj => ?_, h2⟩
    · have := World.block_lt_of_cell? w _ hc0
      rw [hadd, hform] at this
      exact this
    · have := hcell j hj
      rw [hadd, hform] at this
      rw [← this, Nat.add_assoc]

theorem rd_int {t : TypeId} {n : Nat} {cs : List Value} {y : DataW H × List MemPlace} (ht : P.underlying t = some (.int .i64)) (h : DataW.trod enc P w base (fun _ => true) held n t cs = some y) : ∃ i : Int, cs = [.int .i64 i] ∧ -9223372036854775808 ≤ i ∧ i ≤ 9223372036854775807 := by
  obtain ⟨i, h1, _, h3⟩ := DataW.trod_int ht h
  refine ⟨i, h1, ?_⟩
  simpa [Lit.wf, IntKind.min, IntKind.max, IntKind.signed, IntKind.bits] using h3

def I64 (x : Int) : Prop := -9223372036854775808 ≤ x ∧ x ≤ 9223372036854775807

theorem rd_ints {t e : TypeId} {n : Nat} {v : Value} {y : DataW H × List MemPlace} (ht : P.underlying t = some (.slice e)) (he : P.underlying e = some (.int .i64)) (hc : P.cellsOf e = 1) (h : DataW.trod enc P w base (fun _ => true) held n t [v] = some y) :
    ∃ A c, ∃ l : List Int, v = .slice A l.length c ∧ Ints w A l ∧ l.length ≤ 9223372036854775807 ∧ (A = none → l = []) ∧ ∀ x ∈ l, I64 x := by
  obtain ⟨A, len, cap, rfl, hl, hn, hx⟩ := rd_slice ht hc (by omega) h
  have key : ∀ i, i < len → ∃ x : Int, (∃ b off, A = some ⟨b, off, none⟩ ∧ b < w.heap.size ∧ w.cell? ⟨b, off + i, none⟩ = some (.int .i64 x)) ∧ I64 x := by
    intro i hi
    obtain ⟨b, off, m, cs, z, hA, hb, hlen, hcell, ht'⟩ := hx i hi
    obtain ⟨x, rfl, h1, h2⟩ := rd_int he ht'
    have := hcell 0 (by omega)
    rw [Nat.mul_one, Nat.add_zero] at this
    exact ⟨x, ⟨b, off, hA, hb, this⟩, h1, h2⟩
  obtain ⟨f, hf⟩ := choose_lt key
  have hlen : ((List.range len).map f).length = len := by simp
  refine ⟨A, cap, (List.range len).map f, by rw [hlen], fun k hk => ?_, by omega, fun hA => by rw [hn hA]; rfl, fun x hx' => ?_⟩
  · rw [hlen] at hk
    obtain ⟨⟨b, off, h1, h2, h3⟩, _⟩ := hf k hk
    exact ⟨b, off, h1, h2, by rw [h3]; simp [List.getD, hk]⟩
  · obtain ⟨k, hk, rfl⟩ := List.mem_map.1 hx'
    exact (hf k (by simpa using hk)).2

/-- A world that only has more. -/
theorem since_of_ext {W W' : World} (h : Ext W W') : W.Since W.heap.size W' := ⟨h.os, h.tape, h.output, h.size, fun k hk => h.block k hk⟩
/-- An argument reads as before in a world that only has more. -/
theorem stays {t : TypeId} (hl : laidOutB P = true) (hr : P.readableRec t = true) (hrow : t < P.types.size) {W W' : World} {sp' : Nat → Bool} {v : Value} {d : DataW H} {ps : List MemPlace}
    (h : DataW.Trod enc P W 0 (fun _ => true) true t v d ps) (hE : Ext W W') (hlt : ∀ p ∈ ps, p.block < W.heap.size) (hs : ∀ p ∈ ps, sp' p.block = true) : DataW.Trod enc P W' 0 sp' true t v d ps :=
  WideElems.Trod_stays hl hr hrow h (fun p hp => (since_of_ext hE).sameAt (hlt p hp)) hs
end
end Go.Proofs.Ytomkjfhepfinhaa

namespace Go.Proofs.Ytomkjfhepfinhaa
open Go.RowKit Go.ChangeShapes Go.WideShapes Go.Deep Go.ChangeAt

section
variable {H : Type} {enc : TypeId × Value → H} {P : Program}
theorem staysAll (hl : laidOutB P = true) {W W' : World} (hE : Ext W W') {sp' : Nat → Bool} : ∀ {ts : List TypeId} {vs : List Value} {ds : List (DataW H)} {ps : List MemPlace}, (∀ t ∈ ts, P.readableRec t = true ∧ t < P.types.size) →
    DataW.TrodAll enc P W 0 (fun _ => true) true ts vs ds ps → (∀ p ∈ ps, p.block < W.heap.size) → (∀ p ∈ ps, sp' p.block = true) → DataW.TrodAll enc P W' 0 sp' true ts vs ds ps := by
  intro ts
  induction ts with
  | nil =>
    intro vs ds ps _ h _ _
    obtain ⟨rfl, rfl, rfl⟩ := trodAll_nil h
    exact trodAll_mk0
  | cons t ts ih =>
    intro vs ds ps ht h hlt hs
    obtain ⟨v, vs', d, ds', p, q, rfl, rfl, rfl, h0, hr⟩ := trodAll_cons h
    exact trodAll_cons_mk (stays hl (ht t List.mem_cons_self).1 (ht t List.mem_cons_self).2 h0 hE (fun x hx => hlt x (List.mem_append_left _ hx)) (fun x hx => hs x (List.mem_append_left _ hx)))
      (ih (fun t' h' => ht t' (List.mem_cons_of_mem _ h')) hr (fun x hx => hlt x (List.mem_append_right _ hx)) (fun x hx => hs x (List.mem_append_right _ hx)))

theorem trodLen {w : World} {base : Nat} {spare : Nat → Bool} {held : Bool} : ∀ {ts : List TypeId} {vs : List Value} {ds : List (DataW H)} {ps : List MemPlace}, DataW.TrodAll enc P w base spare held ts vs ds ps → ds.length = ts.length := by
  intro ts
  induction ts with
  | nil =>
    intro vs ds ps h
    obtain ⟨rfl, rfl, rfl⟩ := trodAll_nil h
    rfl
  | cons t ts ih =>
    intro vs ds ps h
    obtain ⟨v, vs', d, ds', p, q, rfl, rfl, rfl, h0, hr⟩ := trodAll_cons h
    simp [ih hr]

theorem law_post {f : Func} {s : ChangeSpec} {W W' : World} {args : Array Value} {ds gs : List (DataW H)} {before : List MemPlace} {tb : TypeId} (hl : laidOutB P = true) (hts : ∀ t ∈ f.params.toList, P.readableRec t = true ∧ t < P.types.size)
    (hv : s.vars = []) (hb : P.underlying tb = some .bool) (hrt : f.resultTypes = #[tb]) (hspec : ∀ l : List (DataW H), l.length = f.params.toList.length → s.fn H (l ++ []) = { results := [.lit (.bool true)], args := l, vars := [] })
    (hW : DataW.Whole enc P f.params.toList s.vars false W args.toList ds gs before) (hE : Ext W W') : s.post enc P f false true false false W args (.bool true) W' := by
  have hW' := hW
  obtain ⟨p, q, hA, hV, rfl, _, _⟩ := hW
  rw [hv] at hV
  obtain ⟨rfl, rfl⟩ := trodVars_none hV
  have hlt : ∀ x ∈ p, x.block < W.heap.size := fun x hx => hW'.lt x (by simp [hx])
  have hlen := trodLen hA
  have hs := hspec ds hlen
  refine ⟨ds, [], _, [], p, [], hW', ?_, ?_, ?_, (since_of_ext hE).frame _, fun h => by cases h⟩
  · rw [hs, hrt]
    exact trodAll_cons_mk (shut_bool hb _) trodAll_mk0
  · rw [hs]
    exact staysAll hl hE hts hA hlt (fun x hx => by simpa using hlt x hx)
  · rw [hs, hv]
    rfl
end
end Go.Proofs.Ytomkjfhepfinhaa

namespace Go.Proofs.Ytomkjfhepfinhaa
open Go.RowKit Go.ChangeShapes Go.WideShapes Go.Deep

def nobody : Nat → Prop := fun _ => False
/-- Cells that are as a table says. -/
def CellsAre (w : World) (cs : List Value) (sz : Nat) (c : Nat → AV) : Prop := cs.length = sz ∧ ∀ o, o < sz → ∃ u, cs[o]? = some u ∧ u.oneCell' = true ∧ rep nobody w (c o) g0 u
theorem law_calls {P : Program} {f : FuncId} {xs : List AV} (H : ACall P f xs [] (fun r h => r = .bool true ∧ h = [])) {w : World} {vs : Array Value} (hs : vs.size = xs.length) (hr : ∀ (i : Nat) (x : AV), xs[i]? = some x → rep nobody w x g0 (vs.getD i undef)) :
    Calls P f vs w fun e w' => e = .returned (.bool true) ∧ Ext w w' := by
  have noM : ∀ b, MM nobody g0 [] b → False := fun b hb => by
    rcases hb with hb | ⟨d, cap, ⟨x, hx, _⟩, _⟩
    · exact hb
    · simp at hx
  refine (H.2 nobody g0 w vs (HOK.nil w (fun _ h => h.elim)) hs fun i x hx => rep_mono (Chg.refl _ w) (fun b _ hb => (noM b hb).elim) _ (GM.le_refl _) (hr i x hx)).mono ?_
  rintro e w' ⟨v, r, h', g', rfl, T, hv, rfl, _⟩
  have : v = .bool true := hv
  subst this
  exact ⟨rfl, T.chg.os, T.chg.tape, T.chg.output, T.chg.size, fun b hb => T.chg.block b hb (fun hm => noM b (.inr hm))⟩
theorem CellsAre.agg {w : World} {cs : List Value} {sz : Nat} {c : Nat → AV} (h : CellsAre w cs sz c) : rep nobody w (.agg sz c) g0 (.agg cs.toArray) :=
  ⟨_, rfl, by simp [h.1], fun i hi => by obtain ⟨u, h1, h2, h3⟩ := h.2 i hi; exact ⟨u, by simpa using h1, h2, h3⟩⟩
theorem CellsAre.val {w : World} {v : Value} {cs : List Value} {c : Nat → AV} (h : CellsAre w cs 1 c) (hv : cs = [v]) : rep nobody w (c 0) g0 v := by
  subst hv
  obtain ⟨u, h1, _, h3⟩ := h.2 0 (by omega)
  simp at h1
  rw [h1]; exact h3
theorem CellsAre.sub {w : World} {cs : List Value} {off k : Nat} {c : Nat → AV} (h : CellsAre w ((cs.drop off).take k) k c) {o : Nat} (ho : o < k) : ∃ u, cs[off + o]? = some u ∧ u.oneCell' = true ∧ rep nobody w (c o) g0 u := by
  obtain ⟨u, h1, h2⟩ := h.2 o ho
  rw [List.getElem?_take] at h1
  simp only [ho, if_true, List.getElem?_drop] at h1
  exact ⟨u, h1, h2⟩
theorem CellsAre.one {w : World} {v : Value} {x : AV} (h1 : v.oneCell' = true) (h : rep nobody w x g0 v) : CellsAre w [v] 1 (fun _ => x) :=
  ⟨rfl, fun o ho => by obtain rfl : o = 0 := (by omega)
                       exact ⟨v, rfl, h1, h⟩⟩
section
variable {H : Type} {enc : TypeId × Value → H} {P : Program} {w : World} {base : Nat} {held : Bool}
theorem rdr_int {t : TypeId} {n : Nat} {cs : List Value} {y : DataW H × List MemPlace} (ht : P.underlying t = some (.int .i64)) (h : DataW.trod enc P w base (fun _ => true) held n t cs = some y) : ∃ i : Int, I64 i ∧ CellsAre w cs 1 (fun _ => .int .i64 i) := by
  obtain ⟨i, rfl, hi⟩ := rd_int ht h
  exact ⟨i, hi, .one rfl rfl⟩
theorem rdr_slice {α : Type} {t e : TypeId} {sz : Nat} (c : α → Nat → AV) (Q : α → Prop) (d : α) (ht : P.underlying t = some (.slice e)) (hc : P.cellsOf e = sz) (hsz : 0 < sz) (rd : ∀ {n : Nat} {cs : List Value} {y : DataW H × List MemPlace}, DataW.trod enc P w base (fun _ => true) held n e cs = some y → ∃ x, Q x ∧ CellsAre w cs sz (c x))
    {n : Nat} {cs : List Value} {y : DataW H × List MemPlace} (h : DataW.trod enc P w base (fun _ => true) held n t cs = some y) :
    ∃ (z : Bool) (l : List α), (l.length ≤ 9223372036854775807 ∧ ∀ x ∈ l, Q x) ∧ CellsAre w cs 1 (fun _ => .sl z false l.length sz (fun k => c (l.getD k d))) := by
  have hmx : maxLen = 9223372036854775807 := rfl
  have h' := h
  rcases open_slice ht h with ⟨rfl, _⟩ | ⟨a, len, cap, m, n', D, Pl, rfl, hb, hl, hm, hmm, _, hx⟩
  · refine ⟨true, [], ⟨by simp, fun x hx => by cases hx⟩, .one rfl ⟨none, 0, rfl, by simp, by simp, fun h => (by cases h), by simp, fun k hk => absurd hk (Nat.not_lt_zero k)⟩⟩
  · obtain ⟨A, len', cap', h0, hl', hn, hxx⟩ := rd_slice ht hc hsz h'
    injection h0 with e1 e2 e3
    subst e1; subst e2; subst e3
    have key : ∀ i, i < len → ∃ x : α, Q x ∧ ∃ b off, (some a : Option Addr) = some ⟨b, off, none⟩ ∧ b < w.heap.size ∧ ∀ o, o < sz → ∃ u, w.cell? ⟨b, off + i * sz + o, none⟩ = some u ∧ u.oneCell' = true ∧ rep nobody w (c x o) g0 u := fun i hi => by
      obtain ⟨b, off, m, cs, z, hA, hb, hlen, hcell, ht'⟩ := hxx i hi
      obtain ⟨x, hq, hcs⟩ := rd ht'
      refine ⟨x, hq, b, off, hA, hb, fun o ho => ?_⟩
      obtain ⟨u, h1, h2⟩ := hcs.2 o ho
      exact ⟨u, (hcell o ho).trans h1, h2⟩
    obtain ⟨f, hf⟩ : ∃ f : Nat → α, ∀ i, i < len → Q (f i) ∧ ∃ b off, (some a : Option Addr) = some ⟨b, off, none⟩ ∧ b < w.heap.size ∧ ∀ o, o < sz → ∃ u, w.cell? ⟨b, off + i * sz + o, none⟩ = some u ∧ u.oneCell' = true ∧ rep nobody w (c (f i) o) g0 u := by
      refine ⟨fun i => open Classical in if hi : i < len then (key i hi).choose else d, fun i hi => ?_⟩
      simp only [hi, dif_pos]
      exact (key i hi).choose_spec
    have hlen : ((List.range len).map f).length = len := by simp
    refine ⟨false, (List.range len).map f, ⟨by rw [hlen]; omega, fun x hx => ?_⟩, ?_⟩
    · obtain ⟨k, hk, rfl⟩ := List.mem_map.1 hx
      exact (hf k (by simpa using hk)).1
    · refine .one rfl ⟨some a, cap, by rw [hlen], by simp, by simp, fun h => (by cases h), by rw [hlen]; exact hl, fun k hk o ho => ?_⟩
      rw [hlen] at hk
      obtain ⟨_, b, off, h1, h2, h3⟩ := hf k hk
      obtain ⟨u, h4, h5, h6⟩ := h3 o ho
      have hg : ((List.range len).map f).getD k d = f k := by simp [List.getD, hk]
      exact ⟨b, off, u, h1, h2, fun h => h, h4, h5, by show rep nobody w (c (((List.range len).map f).getD k d) o) g0 u; rw [hg]; exact h6⟩
theorem rdr_field {t : TypeId} {fs : Array Field} {n : Nat} {cs : List Value} {y : DataW H × List MemPlace} (ht : P.underlying t = some (.struct fs)) (h : DataW.trod enc P w base (fun _ => true) held n t cs = some y) : cs.length = P.cellsOf t ∧ ∀ (k : Nat) (f : Field), fs[k]? = some f → ∃ m x, DataW.trod enc P w base (fun _ => true) held m f.type ((cs.drop f.offset).take (P.cellsOf f.type)) = some x := by
  obtain ⟨xs, m, _, rfl, hl, hlen, hf⟩ := DataW.trod_struct ht h
  refine ⟨hl, fun k f hk => ?_⟩
  have hk' : k < fs.size := by
    rcases Nat.lt_or_ge k fs.size with h | h
    · exact h
    · rw [Array.getElem?_eq_none h] at hk; cases hk
  have := hf k f hk
  rw [List.getElem?_eq_getElem (by omega)] at this
  exact ⟨m, _, this⟩
/-- Each field reads. -/
def FRd (enc : TypeId × Value → H) (P : Program) (w : World) (base : Nat) (held : Bool) (cs : List Value) : List Field → Prop
  | [] => True
  | f :: fs => (∃ m x, DataW.trod enc P w base (fun _ => true) held m f.type ((cs.drop f.offset).take (P.cellsOf f.type)) = some x) ∧ FRd enc P w base held cs fs
theorem FRd.of {cs : List Value} : ∀ {l : List Field}, (∀ f ∈ l, ∃ m x, DataW.trod enc P w base (fun _ => true) held m f.type ((cs.drop f.offset).take (P.cellsOf f.type)) = some x) → FRd enc P w base held cs l
  | [], _ => trivial
  | _ :: _, h => ⟨h _ List.mem_cons_self, FRd.of fun f hf => h f (List.mem_cons_of_mem _ hf)⟩
theorem rdr_fields {t : TypeId} {fs : Array Field} {n : Nat} {cs : List Value} {y : DataW H × List MemPlace} (ht : P.underlying t = some (.struct fs)) (h : DataW.trod enc P w base (fun _ => true) held n t cs = some y) : cs.length = P.cellsOf t ∧ FRd enc P w base held cs fs.toList := by
  obtain ⟨h1, h2⟩ := rdr_field ht h
  refine ⟨h1, FRd.of fun f hf => ?_⟩
  obtain ⟨k, hk, rfl⟩ := List.getElem_of_mem hf
  exact h2 k _ (by simp)
end
end Go.Proofs.Ytomkjfhepfinhaa

namespace Go.Proofs.Ytomkjfhepfinhaa
open Go.RowKit Go.ChangeShapes Go.WideShapes Go.Deep

section
variable {H : Type} {enc : TypeId × Value → H} {w : World} {base : Nat} {held : Bool}
theorem csz : Try.prog.cellsOf 3 = 1 ∧ Try.prog.cellsOf 23 = 1 ∧ Try.prog.cellsOf 47 = 2 ∧ Try.prog.cellsOf 52 = 7 ∧ Try.prog.cellsOf 22 = 1 ∧ Try.prog.cellsOf 25 = 5 := by
  refine ⟨?_, ?_, ?_, ?_, ?_, ?_⟩ <;> kernel_rfl
theorem rt_int {n : Nat} {cs : List Value} {y : DataW H × List MemPlace} (h : DataW.trod enc Try.prog w base (fun _ => true) held n 3 cs = some y) : ∃ i : Int, I64 i ∧ CellsAre w cs 1 (fun _ => AI i) := rdr_int Try.underlying3 h
theorem rt_ints {n : Nat} {cs : List Value} {y : DataW H × List MemPlace} (h : DataW.trod enc Try.prog w base (fun _ => true) held n 23 cs = some y) : ∃ (z : Bool) (l : List Int), (l.length ≤ 9223372036854775807 ∧ ∀ x ∈ l, I64 x) ∧ CellsAre w cs 1 (fun _ => aInts z false l) :=
  rdr_slice (fun (x : Int) _ => AI x) I64 0 Try.underlying23 csz.1 (by omega) rt_int h
theorem rt_span {n : Nat} {cs : List Value} {y : DataW H × List MemPlace} (h : DataW.trod enc Try.prog w base (fun _ => true) held n 47 cs = some y) : ∃ l h : Int, (I64 l ∧ I64 h) ∧ CellsAre w cs 2 (ofL [AI l, AI h]) := by
  obtain ⟨hl, ⟨_, _, h0⟩, ⟨_, _, h1⟩, _⟩ := rdr_fields Try.underlying47 h
  simp only [csz.1] at h0 h1
  obtain ⟨a, ha, c0⟩ := rt_int h0
  obtain ⟨b, hb, c1⟩ := rt_int h1
  refine ⟨a, b, ⟨ha, hb⟩, by rw [hl]; exact csz.2.2.1, fun o ho => ?_⟩
  rcases (show o = 0 ∨ o = 1 by omega) with rfl | rfl
  · exact c0.sub (Nat.lt_succ_self 0)
  · exact c1.sub (Nat.lt_succ_self 0)
theorem rt_hand {n : Nat} {cs : List Value} {y : DataW H × List MemPlace} (h : DataW.trod enc Try.prog w base (fun _ => true) held n 52 cs = some y) : ∃ x : Hand, True ∧ CellsAre w cs 7 (cHand x) := by
  obtain ⟨hl, ⟨_, _, h0⟩, ⟨_, _, h1⟩, ⟨_, _, h2⟩, ⟨_, _, h3⟩, _⟩ := rdr_fields Try.underlying52 h
  simp only [csz.1, csz.2.2.1] at h0 h1 h2 h3
  obtain ⟨a, a', _, c0⟩ := rt_span h0
  obtain ⟨b, b', _, c1⟩ := rt_span h1
  obtain ⟨c, c', _, c2⟩ := rt_span h2
  obtain ⟨d, _, c3⟩ := rt_int h3
  refine ⟨⟨a, a', b, b', c, c', d⟩, trivial, by rw [hl]; exact csz.2.2.2.1, fun o ho => ?_⟩
  rcases (show o = 0 ∨ o = 1 ∨ o = 2 ∨ o = 3 ∨ o = 4 ∨ o = 5 ∨ o = 6 by omega) with rfl | rfl | rfl | rfl | rfl | rfl | rfl
  · exact c0.sub (o := 0) (by omega)
  · exact c0.sub (o := 1) (by omega)
  · exact c1.sub (o := 0) (by omega)
  · exact c1.sub (o := 1) (by omega)
  · exact c2.sub (o := 0) (by omega)
  · exact c2.sub (o := 1) (by omega)
  · exact c3.sub (o := 0) (by omega)
theorem rt_hands {n : Nat} {cs : List Value} {y : DataW H × List MemPlace} (h : DataW.trod enc Try.prog w base (fun _ => true) held n 22 cs = some y) : ∃ (z : Bool) (l : List Hand), (l.length ≤ 9223372036854775807 ∧ ∀ x ∈ l, True) ∧ CellsAre w cs 1 (fun _ => aHands z false l) :=
  rdr_slice cHand (fun _ => True) hd0 Try.underlying22 csz.2.2.2.1 (by omega) rt_hand h
theorem rt_task {n : Nat} {cs : List Value} {y : DataW H × List MemPlace} (h : DataW.trod enc Try.prog w base (fun _ => true) held n 25 cs = some y) : ∃ (f : TFl) (t : Task), (I64 t.limit ∧ I64 t.rest ∧ I64 t.swap) ∧ CellsAre w cs 5 (cTask f t) := by
  obtain ⟨hl, ⟨_, _, h0⟩, ⟨_, _, h1⟩, ⟨_, _, h2⟩, ⟨_, _, h3⟩, ⟨_, _, h4⟩, _⟩ := rdr_fields Try.underlying25 h
  simp only [csz.1, csz.2.1, csz.2.2.2.2.1] at h0 h1 h2 h3 h4
  obtain ⟨z0, a, _, c0⟩ := rt_hands h0
  obtain ⟨z1, b, _, c1⟩ := rt_ints h1
  obtain ⟨c, hc, c2⟩ := rt_int h2
  obtain ⟨d, hd, c3⟩ := rt_int h3
  obtain ⟨e, he, c4⟩ := rt_int h4
  refine ⟨⟨z0, false, z1, false⟩, ⟨a, b, c, d, e⟩, ⟨hc, hd, he⟩, by rw [hl]; exact csz.2.2.2.2.2, fun o ho => ?_⟩
  rcases (show o = 0 ∨ o = 1 ∨ o = 2 ∨ o = 3 ∨ o = 4 by omega) with rfl | rfl | rfl | rfl | rfl
  · exact c0.sub (o := 0) (by omega)
  · exact c1.sub (o := 0) (by omega)
  · exact c2.sub (o := 0) (by omega)
  · exact c3.sub (o := 0) (by omega)
  · exact c4.sub (o := 0) (by omega)
end
end Go.Proofs.Ytomkjfhepfinhaa
