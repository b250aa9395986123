/- Turns: the program's follows. / Turns: the reference's Worst, Mistakes, Weary. / Turns: the program's run, Mistakes, right, Right. / Turns: the program's all, Clone, plan. / Turns: the program's plan. / Turns: the program's plan, Plan. / Turns: what the search of plans finds: of all right rotas with some hands that with the fewest worst mistakes, of several the lowest / Turns: the program's right rotas are the reference's; what a right rota keeps. / Turns: the laws' helpers: sameInts, Far, valid, Example, works, keeps. -/
import Derived.Test.YtomkjfhepfinhaaPl5
import Derived.Test.YtomkjfhepfinhaaPl4
set_option linter.unusedSimpArgs false
set_option linter.unusedVariables false
namespace Go.Proofs.Ytomkjfhepfinhaa
open Go.RowKit

/-- The last place of a number, in the first i. -/
def lastTo (h : Int) (b : List Int) : Nat → Int
  | 0 => -1
  | i + 1 => if b.getD i 0 = h then (i : Int) else lastTo h b i
/-- How often a number stands at the end of the first i. -/
def trailTo (h : Int) (b : List Int) : Nat → Nat
  | 0 => 0
  | i + 1 => if b.getD i 0 = h then trailTo h b i + 1 else 0
def followsP (t : Task) (b : List Int) (h : Int) : Bool :=
  if 0 ≤ lastTo h b b.length ∧ 0 < (b.length : Int) - 1 - lastTo h b b.length then decide (t.rest ≤ (b.length : Int) - 1 - lastTo h b b.length) else decide ((trailTo h b b.length : Int) < t.limit)
theorem lastTo_bd (h : Int) (b : List Int) : ∀ i, -1 ≤ lastTo h b i ∧ lastTo h b i < i
  | 0 => by simp [lastTo]
  | i + 1 => by
    have := lastTo_bd h b i
    unfold lastTo
    split <;> omega
theorem trailTo_add {h : Int} {b : List Int} {n : Nat} : ∀ {k : Nat}, k ≤ n → (∀ j, j < k → b.getD (n - 1 - j) 0 = h) → trailTo h b n = k + trailTo h b (n - k)
  | 0, _, _ => by simp
  | k + 1, hk, hj => by
    rw [trailTo_add (k := k) (by omega) (fun j h => hj j (by omega))]
    obtain ⟨m, hm⟩ : ∃ m, n - k = m + 1 := ⟨n - k - 1, by omega⟩
    rw [hm, show n - (k + 1) = m by omega]
    have := hj k (by omega)
    rw [show n - 1 - k = m by omega] at this
    rw [trailTo, if_pos this]
    omega
theorem trailTo_le (h : Int) (b : List Int) : ∀ i, trailTo h b i ≤ i
  | 0 => Nat.le_refl _
  | i + 1 => by
    have := trailTo_le h b i
    unfold trailTo
    split <;> omega
abbrev fBack (z e : Bool) (l : List Int) : AV := .fn 79 1 (ofL [.ip 1 (ofL [aInts z e l]) 0])

set_option maxHeartbeats 4000000 in
set_option maxRecDepth 100000 in
theorem backward_ok (z e : Bool) (l : List Int) : ACall Try.prog 77 [aInts z e l] [] (fun r h => r = fBack z e l ∧ h = []) := by
  (refine fcall_of mixed Try.func77 rfl (by decide) (hs := {}) ?k (ac := ?ac) ?c (rs := ?rs) ?r ?l ?H; (case k => kernel_rfl); (case c => (conv => (lhs; cbv))); (case r => (conv => (lhs; cbv))); (case l => exact Nat.le_of_ble_eq_true rfl))
  (repeat' ((try (conv => whnf)); first | (with_reducible first | refine FCond.tA ?_ | refine FCond.fA ?_) | ((with_reducible refine FCond.i (fun hq => ?_) (fun hq => ?_)) <;> (try simp only [zA, zE, zD, zJ, zB, zI, Int.not_le, Int.not_lt] at hq)) | (with_reducible first | refine Fits.in64 (by omega) ?_ | refine FIdx.nat (by omega) ?_ | refine FIdx.int (by omega) ?_ | refine FTo.nat (by omega) ?_ | refine FTo.int (by omega) ?_) | ((with_reducible refine Need.mk ?_ ?_); focus exact needA) | (with_reducible refine FApp.grow ?_)))
  (try (conv => whnf))
  exact ⟨⟨fBack z e l, [], [], Cut.nil _, Ln.fnN ⟨True.intro, Ln.boxP (m := 1) (goneB rfl) rfl ⟨True.intro, Ln.sameB _ rfl⟩ rfl⟩, rfl, rfl⟩⟩
set_option maxHeartbeats 4000000 in
set_option maxRecDepth 100000 in
theorem follows_ok (f : TFl) (t : Task) (z e : Bool) (b : List Int) (h : Int) (hb : b.length ≤ 1000) : ACall Try.prog 67 [pTask f t, aInts z e b, AI h] [] (fun r H => r = .bool (followsP t b h) ∧ H = []) := by
  (refine fcall_of mixed Try.func67 rfl (by decide) (hs := {}) ?k (ac := ?ac) ?c (rs := ?rs) ?r ?l ?H; (case k => kernel_rfl); (case c => (conv => (lhs; cbv))); (case r => (conv => (lhs; cbv))); (case l => exact Nat.le_of_ble_eq_true rfl))
  (repeat' ((try (conv => whnf)); first | (with_reducible first | refine FCond.tA ?_ | refine FCond.fA ?_) | ((with_reducible refine FCond.i (fun hq => ?_) (fun hq => ?_)) <;> (try simp only [zA, zE, zD, zJ, zB, zI, Int.not_le, Int.not_lt] at hq)) | (with_reducible first | refine Fits.in64 (by omega) ?_ | refine FIdx.nat (by omega) ?_ | refine FIdx.int (by omega) ?_ | refine FTo.nat (by omega) ?_ | refine FTo.int (by omega) ?_) | ((with_reducible refine Need.mk ?_ ?_); focus exact needA) | (with_reducible refine FApp.grow ?_)))
  (try (conv => whnf))
  refine FLoop.of (ACalls.mono _) (X := Nat) (fun i => [(0, pTask f t), (1, aInts z e b), (5, .ptr 0 0), (7, AI (lastTo h b i)), (14, aInts z e b), (15, AI b.length), (16, AI i)]) (fun _ => [.box 1 (ofL [AI h])]) (fun i => i ≤ b.length) (fun i => b.length - i) 0 ⟨by omega, [0], Cut.A, allA⟩ ?_
  intro i hi
  have hB := lastTo_bd h b i
  by_cases hlt : i < b.length
  · (repeat' ((try (conv => whnf)); first | (with_reducible first | refine FCond.tA ?_ | refine FCond.fA ?_) | ((with_reducible refine FCond.i (fun hq => ?_) (fun hq => ?_)) <;> (try simp only [zA, zE, zD, zJ, zB, zI, Int.not_le, Int.not_lt] at hq)) | (with_reducible first | refine Fits.in64 (by omega) ?_ | refine FIdx.nat (by omega) ?_ | refine FIdx.int (by omega) ?_ | refine FTo.nat (by omega) ?_ | refine FTo.int (by omega) ?_) | ((with_reducible refine Need.mk ?_ ?_); focus exact needA) | (with_reducible refine FApp.grow ?_)))
    all_goals (try (conv => whnf))
    · have : lastTo h b (i + 1) = (i : Int) := by unfold lastTo; rw [if_pos hq]
      (refine ⟨⟨i + 1, ?inv, ?mu, [0], Cut.A, allA⟩⟩)
      case inv => show i + 1 ≤ b.length; omega
      case mu => show _ < _; omega
    · have : lastTo h b (i + 1) = lastTo h b i := by rw [lastTo, if_neg hq]
      (refine ⟨⟨i + 1, ?inv, ?mu, [0], Cut.A, allA⟩⟩)
      case inv => show i + 1 ≤ b.length; omega
      case mu => show _ < _; omega
  · obtain rfl : i = b.length := by omega
    have key : ∀ (k : Nat), k ≤ b.length → (∀ j, j < k → b.getD (b.length - 1 - j) 0 = h) → (k < b.length → b.getD (b.length - 1 - k) 0 ≠ h) → trailTo h b b.length = k := fun k hk h1 h2 => by
      rw [trailTo_add hk h1]
      by_cases e : k < b.length
      · obtain ⟨m, hm⟩ : ∃ m, b.length - k = m + 1 := ⟨b.length - k - 1, by omega⟩
        have := h2 e
        rw [show b.length - 1 - k = m by omega] at this
        rw [hm, trailTo, if_neg this, Nat.add_zero]
      · rw [show b.length - k = 0 by omega]; rfl
    (repeat' ((try (conv => whnf)); first | (with_reducible first | refine FCond.tA ?_ | refine FCond.fA ?_) | ((with_reducible refine FCond.i (fun hq => ?_) (fun hq => ?_)) <;> (try simp only [zA, zE, zD, zJ, zB, zI, Int.not_le, Int.not_lt] at hq)) | (with_reducible first | refine Fits.in64 (by omega) ?_ | refine FIdx.nat (by omega) ?_ | refine FIdx.int (by omega) ?_ | refine FTo.nat (by omega) ?_ | refine FTo.int (by omega) ?_) | ((with_reducible refine Need.mk ?_ ?_); focus exact needA) | (with_reducible refine FApp.grow ?_) | (refine FCall.pure ((backward_ok _ _ _)) ⟨Ln.sameB _ rfl, True.intro⟩ rfl ?_)))
    all_goals (try (conv => whnf))
    · (refine ⟨⟨_, [], [], Cut.nil _, Ln.sameB _ rfl, ?_, rfl⟩⟩)
      unfold followsP
      rw [if_pos ⟨by assumption, hq⟩]
    all_goals
      have hf : followsP t b h = decide ((trailTo h b b.length : Int) < t.limit) := by unfold followsP; rw [if_neg (by omega)]
      refine FRange.of (ACalls.mono _) (X := Nat) b.length (fun k => [AI ((b.length - 1 - k : Nat) : Int), AI (b.getD (b.length - 1 - k) 0)]) (fun k => [(0, pTask f t), (5, .ptr 0 0), (11, .ptr 1 0), (45, fBack z e b)]) (fun k => [.box 1 (ofL [AI h]), .box 1 (ofL [AI k])])
        (fun k x => x = k ∧ ∀ j, j < k → b.getD (b.length - 1 - j) 0 = h) 0 ⟨⟨rfl, fun j hj => by omega⟩, [0, 1], Cut.A, by exact allA⟩ rfl rfl (backward_it z e b hb) (fun _ _ => rfl) ?round ?done
      case round =>
        rintro k x hk ⟨rfl, hx⟩
        (repeat' ((try (conv => whnf)); first | (with_reducible first | refine FCond.tA ?_ | refine FCond.fA ?_) | ((with_reducible refine FCond.i (fun hq => ?_) (fun hq => ?_)) <;> (try simp only [zA, zE, zD, zJ, zB, zI, Int.not_le, Int.not_lt] at hq)) | (with_reducible first | refine Fits.in64 (by omega) ?_ | refine FIdx.nat (by omega) ?_ | refine FIdx.int (by omega) ?_ | refine FTo.nat (by omega) ?_ | refine FTo.int (by omega) ?_) | ((with_reducible refine Need.mk ?_ ?_); focus exact needA) | (with_reducible refine FApp.grow ?_)))
        all_goals (try (conv => whnf))
        · (refine ⟨⟨_, [], [], Cut.nil _, Ln.sameB _ rfl, ?_, rfl⟩⟩)
          rw [hf, key x (by omega) hx (fun _ => hq)]
        · have hx' : x + 1 = x + 1 ∧ ∀ j, j < x + 1 → b.getD (b.length - 1 - j) 0 = h := by
            refine ⟨rfl, fun j hj => ?_⟩
            by_cases e1 : j = x
            · subst e1; exact hq
            · exact hx j (by omega)
          (refine ⟨⟨x + 1, hx', [0, 1], Cut.A, allA⟩⟩)
      case done =>
        rintro x ⟨rfl, hx⟩
        (repeat' ((try (conv => whnf)); first | (with_reducible first | refine FCond.tA ?_ | refine FCond.fA ?_) | ((with_reducible refine FCond.i (fun hq => ?_) (fun hq => ?_)) <;> (try simp only [zA, zE, zD, zJ, zB, zI, Int.not_le, Int.not_lt] at hq)) | (with_reducible first | refine Fits.in64 (by omega) ?_ | refine FIdx.nat (by omega) ?_ | refine FIdx.int (by omega) ?_ | refine FTo.nat (by omega) ?_ | refine FTo.int (by omega) ?_) | ((with_reducible refine Need.mk ?_ ?_); focus exact needA) | (with_reducible refine FApp.grow ?_)))
        all_goals (try (conv => whnf))
        (refine ⟨⟨_, [], [], Cut.nil _, Ln.sameB _ rfl, ?_, rfl⟩⟩)
        rw [hf, key _ (Nat.le_refl _) hx (fun h => by omega)]
end Go.Proofs.Ytomkjfhepfinhaa

namespace Go.Proofs.Ytomkjfhepfinhaa
open Go.RowKit

abbrev cfl0 : CFl := ⟨false, false, false, false, fun _ => false, fun _ => false⟩
def mistakesE (t : Task) (r : List Int) : List AV := if checkRota t r = 0 then [AI (runC t r (extreme t r false)).bad, AI (worst t r), AI 0] else [AI 0, AI 0, AI (checkRota t r)]
set_option maxHeartbeats 4000000 in
set_option maxRecDepth 100000 in
theorem worst_ok (f : TFl) (t : Task) (z e : Bool) (r : List Int) (k : TaskOk t) (q : RotaIn t r) (h : 0 < r.length) : ACall Try.prog 58 [aTask f t, aInts z e r] [] (fun v h => v = AI (worst t r) ∧ h = []) := by
  have h1 := k.hn
  have h2 := k.pn
  have h3 := q.len
  (refine fcall_of mixed Try.func58 rfl (by decide) (hs := { ord := [(1, [(0, []), (1, []), (2, []), (3, []), (4, [0]), (5, []), (6, []), (7, []), (8, []), (9, []), (10, [])])] }) ?k (ac := ?ac) ?c (rs := ?rs) ?r ?l ?H; (case k => kernel_rfl); (case c => (conv => (lhs; cbv))); (case r => (conv => (lhs; cbv))); (case l => exact Nat.le_of_ble_eq_true rfl))
  (repeat' ((try (conv => whnf)); first | (with_reducible first | refine FCond.tA ?_ | refine FCond.fA ?_) | ((with_reducible refine FCond.i (fun hq => ?_) (fun hq => ?_)) <;> (try simp only [zA, zE, zD, zJ, zB, zI, Int.not_le, Int.not_lt] at hq)) | (with_reducible first | refine Fits.in64 (by omega) ?_ | refine FIdx.nat (by omega) ?_ | refine FIdx.int (by omega) ?_ | refine FTo.nat (by omega) ?_ | refine FTo.int (by omega) ?_) | ((with_reducible refine Need.mk ?_ ?_); focus exact needA) | (with_reducible refine FApp.grow ?_) | (refine FCall.pure ((extreme_ok _ _ _ _ _ _ (by omega) (by omega))) ⟨Ln.sameB _ rfl, Ln.sameB _ rfl, Ln.sameB _ rfl, True.intro⟩ rfl ?_) | (refine FCall.pure ((run_ok _ _ _ _ _ cfl0 _ (extreme_run k q))) ⟨Ln.sameB _ rfl, Ln.sameB _ rfl, Ln.sameB _ rfl, True.intro⟩ rfl ?_)))
  (try (conv => whnf))
  (refine ⟨⟨_, [], [], Cut.nil _, Ln.sameB _ rfl, ?_, rfl⟩⟩)
  rfl
set_option maxHeartbeats 4000000 in
set_option maxRecDepth 100000 in
theorem refMistakes_ok (f : TFl) (t : Task) (z e : Bool) (r : List Int) (h1 : t.hands.length ≤ 1000000) (h3 : t.parts.length ≤ 1000000) (h2 : r.length ≤ 1000000) : ACall Try.prog 30 [aTask f t, aInts z e r] [] (fun v h => v = .tup 3 (ofL (mistakesE t r)) ∧ h = []) := by
  (refine fcall_of mixed Try.func30 rfl (by decide) (hs := { ord := [(4, [(0, []), (1, []), (2, []), (3, []), (4, [0]), (5, []), (6, []), (7, []), (8, []), (9, [])])] }) ?k (ac := ?ac) ?c (rs := ?rs) ?r ?l ?H; (case k => kernel_rfl); (case c => (conv => (lhs; cbv))); (case r => (conv => (lhs; cbv))); (case l => exact Nat.le_of_ble_eq_true rfl))
  (repeat' ((try (conv => whnf)); first | (with_reducible first | refine FCond.tA ?_ | refine FCond.fA ?_) | ((with_reducible refine FCond.i (fun hq => ?_) (fun hq => ?_)) <;> (try simp only [zA, zE, zD, zJ, zB, zI, Int.not_le, Int.not_lt] at hq)) | (with_reducible first | refine Fits.in64 (by omega) ?_ | refine FIdx.nat (by omega) ?_ | refine FIdx.int (by omega) ?_ | refine FTo.nat (by omega) ?_ | refine FTo.int (by omega) ?_) | ((with_reducible refine Need.mk ?_ ?_); focus exact needA) | (with_reducible refine FApp.grow ?_) | (refine FCall.pure ((checkRota_ok _ _ _ _ _ h1 h3 h2)) ⟨Ln.sameB _ rfl, Ln.sameB _ rfl, True.intro⟩ rfl ?_)))
  all_goals (try (conv => whnf))
  · (refine ⟨⟨_, [], [], Cut.nil _, Ln.sameB _ rfl, ?_, rfl⟩⟩)
    unfold mistakesE
    rw [if_neg hq]; rfl
  · obtain ⟨a1, a2⟩ := checkRota_0 hq
    have k := taskOk a1
    obtain ⟨a3, q⟩ := isRota_e a2
    have b1 := k.hn
    have b2 := k.pn
    (repeat' ((try (conv => whnf)); first | (with_reducible first | refine FCond.tA ?_ | refine FCond.fA ?_) | ((with_reducible refine FCond.i (fun hq => ?_) (fun hq => ?_)) <;> (try simp only [zA, zE, zD, zJ, zB, zI, Int.not_le, Int.not_lt] at hq)) | (with_reducible first | refine Fits.in64 (by omega) ?_ | refine FIdx.nat (by omega) ?_ | refine FIdx.int (by omega) ?_ | refine FTo.nat (by omega) ?_ | refine FTo.int (by omega) ?_) | ((with_reducible refine Need.mk ?_ ?_); focus exact needA) | (with_reducible refine FApp.grow ?_) | (refine FCall.pure ((extreme_ok _ _ _ _ _ _ (by omega) (by omega))) ⟨Ln.sameB _ rfl, Ln.sameB _ rfl, Ln.sameB _ rfl, True.intro⟩ rfl ?_) | (refine FCall.pure ((run_ok _ _ _ _ _ cfl0 _ (extreme_run k q))) ⟨Ln.sameB _ rfl, Ln.sameB _ rfl, Ln.sameB _ rfl, True.intro⟩ rfl ?_) | (refine FCall.pure ((worst_ok _ _ _ _ _ k q (by omega))) ⟨Ln.sameB _ rfl, Ln.sameB _ rfl, True.intro⟩ rfl ?_)))
    (try (conv => whnf))
    (refine ⟨⟨_, [], [], Cut.nil _, Ln.sameB _ rfl, ?_, rfl⟩⟩)
    unfold mistakesE
    rw [if_pos hq]; rfl
end Go.Proofs.Ytomkjfhepfinhaa

namespace Go.Proofs.Ytomkjfhepfinhaa
open Go.RowKit

/-- A course of the program, after some parts. -/
structure CS where
  now : List Int
  last : Int
  bad : Int
def cTo (t : Task) (b : Bool) (r : List Int) : Nat → CS
  | 0 => ⟨startL t b, -1, 0⟩
  | i + 1 => ⟨signNow t b (r.getD i 0) (cTo t b r i).now, r.getD i 0, signBad t i (r.getD i 0) (cTo t b r i).last (cTo t b r i).bad (cTo t b r i).now⟩
/-- It is that of the reference. -/
theorem cTo_eq {t : Task} {b : Bool} {r : List Int} (q : RotaIn t r) : ∀ i, i ≤ r.length → (cTo t b r i).now = (runTo t r (extreme t r b) i).now ∧ (cTo t b r i).bad = (runTo t r (extreme t r b) i).bad ∧ (cTo t b r i).last = if i = 0 then -1 else r.getD (i - 1) 0
  | 0, _ => ⟨rfl, rfl, rfl⟩
  | i + 1, hi => by
    obtain ⟨h1, h2, h3⟩ := cTo_eq (b := b) q i (by omega)
    have hs : (extreme t r b).steps.getD i [] = stepsOf t (r.getD i 0) b := by
      simp only [extreme]; rw [getD_map (d := 0) (by omega)]
    refine ⟨?_, ?_, by simp [cTo]⟩
    · simp only [cTo, signNow, runTo, runStep, hs, h1]
    · simp only [cTo, signBad, runTo, runStep, h1, h2, h3]
      congr 1
      by_cases e1 : i = 0
      · subst e1; simp
      · have hq := q.el (i - 1) (by omega)
        rw [if_neg e1]
        by_cases e2 : r.getD (i - 1) 0 = r.getD i 0
        · rw [if_neg (fun h => h.2 e2), if_neg (fun h => h.2 e2.symm)]
        · rw [if_pos ⟨by omega, e2⟩, if_pos ⟨by omega, Ne.symm e2⟩]
theorem cTo_bd {t : Task} {b : Bool} {r : List Int} (k : TaskOk t) (q : RotaIn t r) (i : Nat) (hi : i ≤ r.length) : (cTo t b r i).now.length = t.hands.length ∧ (∀ h, h < t.hands.length → 0 ≤ (cTo t b r i).now.getD h 0 ∧ (cTo t b r i).now.getD h 0 ≤ 1000) ∧ 0 ≤ (cTo t b r i).bad ∧ (cTo t b r i).bad ≤ 1000000 := by
  obtain ⟨h1, h2, _⟩ := cTo_eq (b := b) q i hi
  have I := runTo_in (extreme_run (b := b) k q) i hi
  have hn := k.pn
  have hl := q.len
  rw [h1, h2]
  refine ⟨I.len, fun h hh => ?_, ?_⟩
  · have := I.wb h hh; omega
  · have := I.bb; omega
abbrev boxS (f : TFl) (t : Task) (b : Bool) (s : CS) : AB := boxC f t b s.last s.bad (.own 1 t.hands.length)
abbrev rowS (t : Task) (s : CS) : AB := rowC t.hands.length s.now

set_option maxHeartbeats 4000000 in
set_option maxRecDepth 100000 in
theorem crun_ok (f : TFl) (t : Task) (b : Bool) (z e : Bool) (r : List Int) (k : TaskOk t) (q : RotaIn t r) :
    ACall Try.prog 46 [.ptr 0 0, aInts z e r] [boxS f t b (cTo t b r 0), rowS t (cTo t b r 0)] (fun v h => v = .ptr 0 0 ∧ h = [boxS f t b (cTo t b r r.length), rowS t (cTo t b r r.length)]) := by
  have b1 := k.pn
  have b2 := q.len
  (refine fcall_of mixed Try.func46 rfl (by decide) (hs := {}) ?k (ac := ?ac) ?c (rs := ?rs) ?r ?l ?H; (case k => kernel_rfl); (case c => (conv => (lhs; cbv))); (case r => (conv => (lhs; cbv))); (case l => exact Nat.le_of_ble_eq_true rfl))
  (repeat' ((try (conv => whnf)); first | (with_reducible first | refine FCond.tA ?_ | refine FCond.fA ?_) | ((with_reducible refine FCond.i (fun hq => ?_) (fun hq => ?_)) <;> (try simp only [zA, zE, zD, zJ, zB, zI, Int.not_le, Int.not_lt] at hq)) | (with_reducible first | refine Fits.in64 (by omega) ?_ | refine FIdx.nat (by omega) ?_ | refine FIdx.int (by omega) ?_ | refine FTo.nat (by omega) ?_ | refine FTo.int (by omega) ?_) | ((with_reducible refine Need.mk ?_ ?_); focus exact needA) | (with_reducible refine FApp.grow ?_)))
  (try (conv => whnf))
  refine FLoop.of (ACalls.mono _) (X := Nat) (fun i => [(0, .ptr 0 0), (7, aInts z e r), (8, AI r.length), (9, AI i)]) (fun i => [boxS f t b (cTo t b r i), rowS t (cTo t b r i)]) (fun i => i ≤ r.length) (fun i => r.length - i) 0 ⟨by omega, [0, 1], Cut.A, allA⟩ ?_
  intro i hi
  by_cases hlt : i < r.length
  · obtain ⟨c1, c2, c3⟩ := cTo_bd (b := b) k q i hi
    have hq := q.el i hlt
    (repeat' ((try (conv => whnf)); first | (with_reducible first | refine FCond.tA ?_ | refine FCond.fA ?_) | ((with_reducible refine FCond.i (fun hq => ?_) (fun hq => ?_)) <;> (try simp only [zA, zE, zD, zJ, zB, zI, Int.not_le, Int.not_lt] at hq)) | (with_reducible first | refine Fits.in64 (by omega) ?_ | refine FIdx.nat (by omega) ?_ | refine FIdx.int (by omega) ?_ | refine FTo.nat (by omega) ?_ | refine FTo.int (by omega) ?_) | ((with_reducible refine Need.mk ?_ ?_); focus exact needA) | (with_reducible refine FApp.grow ?_) | ((refine FCall.give [0, 1] [] (sign_ok f t b i (r.getD i 0) (cTo t b r i).last (cTo t b r i).bad (cTo t b r i).now k (by omega) hq c1 c2 c3) rfl rfl ⟨⟨_, rfl, trivial, LnB.A⟩, ⟨_, rfl, trivial, LnB.A⟩, True.intro⟩ ⟨Ln.A, Ln.A, Ln.A, True.intro⟩ ?_); rintro _ _ ⟨rfl, rfl⟩; (refine ⟨by first | exact Nat.le_of_ble_eq_true rfl | omega, .inl rfl, ?_⟩))))
    (try (conv => whnf))
    (refine ⟨⟨(i + 1), ?inv, ?mu, [0, 1], Cut.A, allA⟩⟩)
    case inv => show i + 1 ≤ r.length; omega
    case mu => show _ < _; omega
  · obtain rfl : i = r.length := by omega
    (repeat' ((try (conv => whnf)); first | (with_reducible first | refine FCond.tA ?_ | refine FCond.fA ?_) | ((with_reducible refine FCond.i (fun hq => ?_) (fun hq => ?_)) <;> (try simp only [zA, zE, zD, zJ, zB, zI, Int.not_le, Int.not_lt] at hq)) | (with_reducible first | refine Fits.in64 (by omega) ?_ | refine FIdx.nat (by omega) ?_ | refine FIdx.int (by omega) ?_ | refine FTo.nat (by omega) ?_ | refine FTo.int (by omega) ?_) | ((with_reducible refine Need.mk ?_ ?_); focus exact needA) | (with_reducible refine FApp.grow ?_)))
    (try (conv => whnf))
    exact ⟨⟨_, _, [0, 1], Cut.A, Ln.ptr _ _ _ rfl, rfl, rfl⟩⟩
set_option maxHeartbeats 4000000 in
set_option maxRecDepth 100000 in
theorem crunO_ok (f : TFl) (t : Task) (b : Bool) (r : List Int) (k : TaskOk t) (q : RotaIn t r) :
    ACall Try.prog 46 [.ptr 0 0, .own 2 r.length] [boxS f t b (cTo t b r 0), rowS t (cTo t b r 0), rowC r.length r] (fun v h => v = .ptr 0 0 ∧ h = [boxS f t b (cTo t b r r.length), rowS t (cTo t b r r.length), rowC r.length r]) := by
  have b1 := k.pn
  have b2 := q.len
  (refine fcall_of mixed Try.func46 rfl (by decide) (hs := {}) ?k (ac := ?ac) ?c (rs := ?rs) ?r ?l ?H; (case k => kernel_rfl); (case c => (conv => (lhs; cbv))); (case r => (conv => (lhs; cbv))); (case l => exact Nat.le_of_ble_eq_true rfl))
  (repeat' ((try (conv => whnf)); first | (with_reducible first | refine FCond.tA ?_ | refine FCond.fA ?_) | ((with_reducible refine FCond.i (fun hq => ?_) (fun hq => ?_)) <;> (try simp only [zA, zE, zD, zJ, zB, zI, Int.not_le, Int.not_lt] at hq)) | (with_reducible first | refine Fits.in64 (by omega) ?_ | refine FIdx.nat (by omega) ?_ | refine FIdx.int (by omega) ?_ | refine FTo.nat (by omega) ?_ | refine FTo.int (by omega) ?_) | ((with_reducible refine Need.mk ?_ ?_); focus exact needA) | (with_reducible refine FApp.grow ?_)))
  (try (conv => whnf))
  refine FLoop.of (ACalls.mono _) (X := Nat) (fun i => [(0, .ptr 0 0), (7, .own 2 r.length), (8, AI r.length), (9, AI i)]) (fun i => [boxS f t b (cTo t b r i), rowS t (cTo t b r i), rowC r.length r]) (fun i => i ≤ r.length) (fun i => r.length - i) 0 ⟨by omega, [0, 1, 2], Cut.A, allA⟩ ?_
  intro i hi
  by_cases hlt : i < r.length
  · obtain ⟨c1, c2, c3⟩ := cTo_bd (b := b) k q i hi
    have hq := q.el i hlt
    (repeat' ((try (conv => whnf)); first | (with_reducible first | refine FCond.tA ?_ | refine FCond.fA ?_) | ((with_reducible refine FCond.i (fun hq => ?_) (fun hq => ?_)) <;> (try simp only [zA, zE, zD, zJ, zB, zI, Int.not_le, Int.not_lt] at hq)) | (with_reducible first | refine Fits.in64 (by omega) ?_ | refine FIdx.nat (by omega) ?_ | refine FIdx.int (by omega) ?_ | refine FTo.nat (by omega) ?_ | refine FTo.int (by omega) ?_) | ((with_reducible refine Need.mk ?_ ?_); focus exact needA) | (with_reducible refine FApp.grow ?_) | ((refine FCall.give [0, 1] [] (sign_ok f t b i (r.getD i 0) (cTo t b r i).last (cTo t b r i).bad (cTo t b r i).now k (by omega) hq c1 c2 c3) rfl rfl ⟨⟨_, rfl, trivial, LnB.A⟩, ⟨_, rfl, trivial, LnB.A⟩, True.intro⟩ ⟨Ln.A, Ln.A, Ln.A, True.intro⟩ ?_); rintro _ _ ⟨rfl, rfl⟩; (refine ⟨by first | exact Nat.le_of_ble_eq_true rfl | omega, .inl rfl, ?_⟩))))
    (try (conv => whnf))
    (refine ⟨⟨(i + 1), ?inv, ?mu, [0, 1, 2], Cut.A, allA⟩⟩)
    case inv => show i + 1 ≤ r.length; omega
    case mu => show _ < _; omega
  · obtain rfl : i = r.length := by omega
    (repeat' ((try (conv => whnf)); first | (with_reducible first | refine FCond.tA ?_ | refine FCond.fA ?_) | ((with_reducible refine FCond.i (fun hq => ?_) (fun hq => ?_)) <;> (try simp only [zA, zE, zD, zJ, zB, zI, Int.not_le, Int.not_lt] at hq)) | (with_reducible first | refine Fits.in64 (by omega) ?_ | refine FIdx.nat (by omega) ?_ | refine FIdx.int (by omega) ?_ | refine FTo.nat (by omega) ?_ | refine FTo.int (by omega) ?_) | ((with_reducible refine Need.mk ?_ ?_); focus exact needA) | (with_reducible refine FApp.grow ?_)))
    (try (conv => whnf))
    exact ⟨⟨_, _, [0, 1, 2], Cut.A, Ln.ptr _ _ _ rfl, rfl, rfl⟩⟩
theorem open_yes {f : TFl} {t : Task} {z e : Bool} {r : List Int} (h1 : t.hands.length ≤ 1000000) (h2 : t.parts.length ≤ 1000000) (h3 : r.length ≤ 1000000) (hc : checkRota t r = 0) : ACall Try.prog 43 [aTask f t, aInts z e r] [] (fun v h => v = .tup 2 (ofL [pTask f t, AI 0]) ∧ h = []) := by
  have := open_ok f t z e r h1 h2 h3
  unfold openR at this
  rwa [if_pos hc] at this
theorem open_no {f : TFl} {t : Task} {z e : Bool} {r : List Int} (h1 : t.hands.length ≤ 1000000) (h2 : t.parts.length ≤ 1000000) (h3 : r.length ≤ 1000000) (hc : checkRota t r ≠ 0) : ACall Try.prog 43 [aTask f t, aInts z e r] [] (fun v h => v = .tup 2 (ofL [.nilp, AI (checkRota t r)]) ∧ h = []) := by
  have := open_ok f t z e r h1 h2 h3
  unfold openR at this
  rwa [if_neg hc] at this
theorem cTo_best {t : Task} {b : Bool} {r : List Int} (q : RotaIn t r) : (cTo t b r r.length).bad = (runC t r (extreme t r b)).bad := (cTo_eq (b := b) q r.length (Nat.le_refl _)).2.1
set_option maxHeartbeats 4000000 in
set_option maxRecDepth 100000 in
theorem mistakes_ok (f : TFl) (t : Task) (z e : Bool) (r : List Int) (h1 : t.hands.length ≤ 1000000) (h2 : t.parts.length ≤ 1000000) (h3 : r.length ≤ 1000000) : ACall Try.prog 17 [aTask f t, aInts z e r] [] (fun v h => v = .tup 3 (ofL (mistakesE t r)) ∧ h = []) := by
  (refine fcall_of mixed Try.func17 rfl (by decide) (hs := { ord := [(4, [(0, []), (2, []), (7, []), (9, []), (1, []), (3, []), (4, []), (5, []), (6, []), (8, [6]), (10, [6]), (11, []), (12, []), (13, []), (14, []), (15, []), (16, [])])] }) ?k (ac := ?ac) ?c (rs := ?rs) ?r ?l ?H; (case k => kernel_rfl); (case c => (conv => (lhs; cbv))); (case r => (conv => (lhs; cbv))); (case l => exact Nat.le_of_ble_eq_true rfl))
  by_cases hc : checkRota t r = 0
  · obtain ⟨a1, a2⟩ := checkRota_0 hc
    have k := taskOk a1
    obtain ⟨a3, q⟩ := isRota_e a2
    have b1 := k.hn
    have hA : mistakesE t r = [AI (cTo t false r r.length).bad, AI (cTo t true r r.length).bad, AI 0] := by
      unfold mistakesE; rw [if_pos hc, cTo_best q, cTo_best q]; rfl
    rw [hA]
    (repeat' ((try (conv => whnf)); first | (with_reducible first | refine FCond.tA ?_ | refine FCond.fA ?_) | ((with_reducible refine FCond.i (fun hq => ?_) (fun hq => ?_)) <;> (try simp only [zA, zE, zD, zJ, zB, zI, Int.not_le, Int.not_lt] at hq)) | (with_reducible first | refine Fits.in64 (by omega) ?_ | refine FIdx.nat (by omega) ?_ | refine FIdx.int (by omega) ?_ | refine FTo.nat (by omega) ?_ | refine FTo.int (by omega) ?_) | ((with_reducible refine Need.mk ?_ ?_); focus exact needA) | (with_reducible refine FApp.grow ?_) | (refine FCall.pure ((open_yes h1 h2 h3 hc)) ⟨Ln.sameB _ rfl, Ln.sameB _ rfl, True.intro⟩ rfl ?_) | ((refine FCall.give [] [] (begin_ok f t false (by omega)) rfl rfl True.intro ⟨Ln.A, Ln.A, True.intro⟩ ?_); rintro _ _ ⟨rfl, rfl⟩; (refine ⟨by first | exact Nat.le_of_ble_eq_true rfl | omega, .inl rfl, ?_⟩)) | ((refine FCall.give [] [] (begin_ok f t true (by omega)) rfl rfl True.intro ⟨Ln.A, Ln.A, True.intro⟩ ?_); rintro _ _ ⟨rfl, rfl⟩; (refine ⟨by first | exact Nat.le_of_ble_eq_true rfl | omega, .inl rfl, ?_⟩)) | ((refine FCall.give [1, 2] [] (crun_ok f t false z e r k q) rfl rfl ⟨⟨_, rfl, trivial, LnB.A⟩, ⟨_, rfl, trivial, LnB.A⟩, True.intro⟩ ⟨Ln.A, Ln.A, True.intro⟩ ?_); rintro _ _ ⟨rfl, rfl⟩; (refine ⟨by first | exact Nat.le_of_ble_eq_true rfl | omega, .inl rfl, ?_⟩)) | ((refine FCall.give [3, 4] [] (crun_ok f t true z e r k q) rfl rfl ⟨⟨_, rfl, trivial, LnB.A⟩, ⟨_, rfl, trivial, LnB.A⟩, True.intro⟩ ⟨Ln.A, Ln.A, True.intro⟩ ?_); rintro _ _ ⟨rfl, rfl⟩; (refine ⟨by first | exact Nat.le_of_ble_eq_true rfl | omega, .inl rfl, ?_⟩))))
    (try (conv => whnf))
    (refine ⟨⟨_, [], [], Cut.nil _, Ln.sameB _ rfl, ?_, rfl⟩⟩)
    rfl
  · (repeat' ((try (conv => whnf)); first | (with_reducible first | refine FCond.tA ?_ | refine FCond.fA ?_) | ((with_reducible refine FCond.i (fun hq => ?_) (fun hq => ?_)) <;> (try simp only [zA, zE, zD, zJ, zB, zI, Int.not_le, Int.not_lt] at hq)) | (with_reducible first | refine Fits.in64 (by omega) ?_ | refine FIdx.nat (by omega) ?_ | refine FIdx.int (by omega) ?_ | refine FTo.nat (by omega) ?_ | refine FTo.int (by omega) ?_) | ((with_reducible refine Need.mk ?_ ?_); focus exact needA) | (with_reducible refine FApp.grow ?_) | (refine FCall.pure ((open_no h1 h2 h3 hc)) ⟨Ln.sameB _ rfl, Ln.sameB _ rfl, True.intro⟩ rfl ?_)))
    (try (conv => whnf))
    (refine ⟨⟨_, [], [], Cut.nil _, Ln.sameB _ rfl, ?_, rfl⟩⟩)
    unfold mistakesE; rw [if_neg hc]; rfl
def rightTo (t : Task) (r : List Int) (i : Nat) : Bool := (List.range i).all fun j => followsP t (r.take j) (r.getD j 0)
def rightP (t : Task) (r : List Int) : Bool := rightTo t r r.length
theorem Ln.slE {σ : Nat → Nat → Prop} {Bp : Nat → Prop} {H : List AB} {z e e' : Bool} {n : Nat} {c : Nat → Nat → AV} {b : List Int} (hn : n = b.length) (he : e' = true → e = true) (hc : ∀ k, k < n → AI (b.getD k 0) = c k 0) : Ln σ Bp H (.sl z e n 1 c) (aInts z e' b) := by
  subst hn
  refine Ln.sl _ _ _ _ _ _ _ he fun k hk o ho => ?_
  have e1 : o = 0 := by omega
  subst e1
  exact hc k hk
theorem getD_take {l : List Int} {i k : Nat} (h : k < i) : (l.take i).getD k 0 = l.getD k 0 := by
  simp [List.getD, List.getElem?_take, h]
set_option maxHeartbeats 4000000 in
set_option maxRecDepth 100000 in
theorem right_ok (f : TFl) (t : Task) (z e : Bool) (r : List Int) (h3 : r.length ≤ 1000) : ACall Try.prog 44 [pTask f t, aInts z e r] [] (fun v h => v = .bool (rightP t r) ∧ h = []) := by
  (refine fcall_of mixed Try.func44 rfl (by decide) (hs := {}) ?k (ac := ?ac) ?c (rs := ?rs) ?r ?l ?H; (case k => kernel_rfl); (case c => (conv => (lhs; cbv))); (case r => (conv => (lhs; cbv))); (case l => exact Nat.le_of_ble_eq_true rfl))
  (repeat' ((try (conv => whnf)); first | (with_reducible first | refine FCond.tA ?_ | refine FCond.fA ?_) | ((with_reducible refine FCond.i (fun hq => ?_) (fun hq => ?_)) <;> (try simp only [zA, zE, zD, zJ, zB, zI, Int.not_le, Int.not_lt] at hq)) | (with_reducible first | refine Fits.in64 (by omega) ?_ | refine FIdx.nat (by omega) ?_ | refine FIdx.int (by omega) ?_ | refine FTo.nat (by omega) ?_ | refine FTo.int (by omega) ?_) | ((with_reducible refine Need.mk ?_ ?_); focus exact needA) | (with_reducible refine FApp.grow ?_)))
  (try (conv => whnf))
  refine FLoop.of (ACalls.mono _) (X := Nat) (fun i => [(0, pTask f t), (1, aInts z e r), (7, aInts z e r), (8, AI r.length), (9, AI i)]) (fun i => []) (fun i => i ≤ r.length ∧ rightTo t r i = true) (fun i => r.length - i) 0 ⟨⟨by omega, rfl⟩, [], Cut.nil _, by exact allA⟩ ?_
  rintro i ⟨hi, hr⟩
  have hstep : rightTo t r (i + 1) = followsP t (r.take i) (r.getD i 0) := by
    unfold rightTo at hr ⊢
    rw [List.range_succ, List.all_append, hr]; simp
  by_cases hlt : i < r.length
  · (repeat' ((try (conv => whnf)); first | (with_reducible first | refine FCond.tA ?_ | refine FCond.fA ?_) | ((with_reducible refine FCond.i (fun hq => ?_) (fun hq => ?_)) <;> (try simp only [zA, zE, zD, zJ, zB, zI, Int.not_le, Int.not_lt] at hq)) | (with_reducible first | refine Fits.in64 (by omega) ?_ | refine FIdx.nat (by omega) ?_ | refine FIdx.int (by omega) ?_ | refine FTo.nat (by omega) ?_ | refine FTo.int (by omega) ?_) | ((with_reducible refine Need.mk ?_ ?_); focus exact needA) | (with_reducible refine FApp.grow ?_) | (refine FCall.pure (follows_ok f t z false (r.take i) (r.getD i 0) (by simp; omega)) ⟨Ln.sameB _ rfl, Ln.slE (by simp; omega) (fun h => h) (fun k hk => by rw [getD_take hk]), Ln.sameB _ rfl, True.intro⟩ rfl ?_)))
    all_goals (try (conv => whnf))
    · (refine ⟨⟨_, [], [], Cut.nil _, Ln.sameB _ rfl, ?_, rfl⟩⟩)
      have hq' : followsP t (r.take i) (r.getD i 0) = false := by simpa using hq
      have : rightP t r = false := by
        unfold rightP rightTo
        rw [List.all_eq_false]
        exact ⟨i, List.mem_range.2 hlt, by show ¬ followsP t (r.take i) (r.getD i 0) = true; rw [hq']; decide⟩
      rw [this]
    · (refine ⟨⟨i + 1, ?inv, ?mu, [], Cut.nil _, allA⟩⟩)
      case inv => exact ⟨by omega, by rw [hstep]; simpa using hq⟩
      case mu => show _ < _; omega
  · obtain rfl : i = r.length := by omega
    (repeat' ((try (conv => whnf)); first | (with_reducible first | refine FCond.tA ?_ | refine FCond.fA ?_) | ((with_reducible refine FCond.i (fun hq => ?_) (fun hq => ?_)) <;> (try simp only [zA, zE, zD, zJ, zB, zI, Int.not_le, Int.not_lt] at hq)) | (with_reducible first | refine Fits.in64 (by omega) ?_ | refine FIdx.nat (by omega) ?_ | refine FIdx.int (by omega) ?_ | refine FTo.nat (by omega) ?_ | refine FTo.int (by omega) ?_) | ((with_reducible refine Need.mk ?_ ?_); focus exact needA) | (with_reducible refine FApp.grow ?_)))
    (try (conv => whnf))
    (refine ⟨⟨_, [], [], Cut.nil _, Ln.sameB _ rfl, ?_, rfl⟩⟩)
    rw [show rightP t r = true from hr]
set_option maxHeartbeats 4000000 in
set_option maxRecDepth 100000 in
theorem pRight_ok (f : TFl) (t : Task) (z e : Bool) (r : List Int) (h1 : t.hands.length ≤ 1000000) (h2 : t.parts.length ≤ 1000000) (h3 : r.length ≤ 1000) : ACall Try.prog 16 [aTask f t, aInts z e r] [] (fun v h => v = .tup 2 (ofL [.bool (decide (checkRota t r = 0) && rightP t r), AI (checkRota t r)]) ∧ h = []) := by
  (refine fcall_of mixed Try.func16 rfl (by decide) (hs := {}) ?k (ac := ?ac) ?c (rs := ?rs) ?r ?l ?H; (case k => kernel_rfl); (case c => (conv => (lhs; cbv))); (case r => (conv => (lhs; cbv))); (case l => exact Nat.le_of_ble_eq_true rfl))
  by_cases hc : checkRota t r = 0
  · (repeat' ((try (conv => whnf)); first | (with_reducible first | refine FCond.tA ?_ | refine FCond.fA ?_) | ((with_reducible refine FCond.i (fun hq => ?_) (fun hq => ?_)) <;> (try simp only [zA, zE, zD, zJ, zB, zI, Int.not_le, Int.not_lt] at hq)) | (with_reducible first | refine Fits.in64 (by omega) ?_ | refine FIdx.nat (by omega) ?_ | refine FIdx.int (by omega) ?_ | refine FTo.nat (by omega) ?_ | refine FTo.int (by omega) ?_) | ((with_reducible refine Need.mk ?_ ?_); focus exact needA) | (with_reducible refine FApp.grow ?_) | (refine FCall.pure ((open_yes h1 h2 (by omega) hc)) ⟨Ln.sameB _ rfl, Ln.sameB _ rfl, True.intro⟩ rfl ?_) | (refine FCall.pure ((right_ok _ _ _ _ _ h3)) ⟨Ln.sameB _ rfl, Ln.sameB _ rfl, True.intro⟩ rfl ?_)))
    (try (conv => whnf))
    (refine ⟨⟨_, [], [], Cut.nil _, Ln.sameB _ rfl, ?_, rfl⟩⟩)
    simp [hc]
  · (repeat' ((try (conv => whnf)); first | (with_reducible first | refine FCond.tA ?_ | refine FCond.fA ?_) | ((with_reducible refine FCond.i (fun hq => ?_) (fun hq => ?_)) <;> (try simp only [zA, zE, zD, zJ, zB, zI, Int.not_le, Int.not_lt] at hq)) | (with_reducible first | refine Fits.in64 (by omega) ?_ | refine FIdx.nat (by omega) ?_ | refine FIdx.int (by omega) ?_ | refine FTo.nat (by omega) ?_ | refine FTo.int (by omega) ?_) | ((with_reducible refine Need.mk ?_ ?_); focus exact needA) | (with_reducible refine FApp.grow ?_) | (refine FCall.pure ((open_no h1 h2 (by omega) hc)) ⟨Ln.sameB _ rfl, Ln.sameB _ rfl, True.intro⟩ rfl ?_)))
    (try (conv => whnf))
    (refine ⟨⟨_, [], [], Cut.nil _, Ln.sameB _ rfl, ?_, rfl⟩⟩)
    simp [hc]
end Go.Proofs.Ytomkjfhepfinhaa

namespace Go.Proofs.Ytomkjfhepfinhaa
open Go.RowKit

def allL (n : Nat) : List Int := (List.range n).map fun (i : Nat) => (i : Int)
theorem allL_get {n k : Nat} (h : k < n) : (allL n).getD k 0 = k := by rw [allL, getD_range h]
set_option maxHeartbeats 4000000 in
set_option maxRecDepth 100000 in
theorem all_ok (f : TFl) (t : Task) (h1 : 0 < t.hands.length ∧ t.hands.length ≤ 1000) : ACall Try.prog 41 [pTask f t] [] (fun v h => v = .own 0 t.hands.length ∧ h = [rowC t.hands.length (allL t.hands.length)]) := by
  (refine fcall_of mixed Try.func41 rfl (by decide) (hs := {}) ?k (ac := ?ac) ?c (rs := ?rs) ?r ?l ?H; (case k => kernel_rfl); (case c => (conv => (lhs; cbv))); (case r => (conv => (lhs; cbv))); (case l => exact Nat.le_of_ble_eq_true rfl))
  (repeat' ((try (conv => whnf)); first | (with_reducible first | refine FCond.tA ?_ | refine FCond.fA ?_) | ((with_reducible refine FCond.i (fun hq => ?_) (fun hq => ?_)) <;> (try simp only [zA, zE, zD, zJ, zB, zI, Int.not_le, Int.not_lt] at hq)) | (with_reducible first | refine Fits.in64 (by omega) ?_ | refine FIdx.nat (by omega) ?_ | refine FIdx.int (by omega) ?_ | refine FTo.nat (by omega) ?_ | refine FTo.int (by omega) ?_) | ((with_reducible refine Need.mk ?_ ?_); focus exact needA) | (with_reducible refine FApp.grow ?_)))
  (try (conv => whnf))
  refine FLoop.of (ACalls.mono _) (X := Nat) (fun k => [(3, match k with | 0 => nilS | k + 1 => .own 0 (k + 1)), (10, AI t.hands.length), (11, AI k)])
    (fun k => match k with
      | 0 => []
      | k + 1 => [rowC (k + 1) (allL t.hands.length)]) (fun k => k ≤ t.hands.length) (fun k => t.hands.length - k) 0 ⟨by omega, [], Cut.A, allA⟩ ?_
  intro k hk
  by_cases hlt : k < t.hands.length
  · have hg : AI ((allL t.hands.length).getD k 0) = AI k := by rw [allL_get hlt]
    rcases k with _ | k
    · (repeat' ((try (conv => whnf)); first | (with_reducible first | refine FCond.tA ?_ | refine FCond.fA ?_) | ((with_reducible refine FCond.i (fun hq => ?_) (fun hq => ?_)) <;> (try simp only [zA, zE, zD, zJ, zB, zI, Int.not_le, Int.not_lt] at hq)) | (with_reducible first | refine Fits.in64 (by omega) ?_ | refine FIdx.nat (by omega) ?_ | refine FIdx.int (by omega) ?_ | refine FTo.nat (by omega) ?_ | refine FTo.int (by omega) ?_) | ((with_reducible refine Need.mk ?_ ?_); focus exact needA) | (with_reducible refine FApp.grow ?_)))
      (try (conv => whnf))
      (refine ⟨⟨1, ?inv, ?mu, [0], (by (refine Cut.of (Nat.le_of_ble_eq_true rfl) rfl rfl ?_; repeat (first | exact CutL.done | (refine CutL.turned rfl (by first | exact LnB.rowS | exact LnB.app (fun k hk => absurd hk (Nat.not_lt_zero k)) (fun _ _ => hg) | exact LnB.A) ?_) | (refine CutL.gone (Nat.lt_of_lt_of_le (Nat.lt_succ_self _) (Nat.le_of_ble_eq_true rfl)) ?_)))), allA⟩⟩)
      case inv => show 1 ≤ t.hands.length; omega
      case mu => show _ < _; omega
    · (repeat' ((try (conv => whnf)); first | (with_reducible first | refine FCond.tA ?_ | refine FCond.fA ?_) | ((with_reducible refine FCond.i (fun hq => ?_) (fun hq => ?_)) <;> (try simp only [zA, zE, zD, zJ, zB, zI, Int.not_le, Int.not_lt] at hq)) | (with_reducible first | refine Fits.in64 (by omega) ?_ | refine FIdx.nat (by omega) ?_ | refine FIdx.int (by omega) ?_ | refine FTo.nat (by omega) ?_ | refine FTo.int (by omega) ?_) | ((with_reducible refine Need.mk ?_ ?_); focus exact needA) | (with_reducible refine FApp.grow ?_)))
      (try (conv => whnf))
      (refine ⟨⟨(k + 2), ?inv, ?mu, [1], (by (refine Cut.of (Nat.le_of_ble_eq_true rfl) rfl rfl ?_; repeat (first | exact CutL.done | (refine CutL.turned rfl (by first | exact LnB.rowS | exact LnB.app (fun _ _ _ _ => rfl) (fun _ _ => hg) | exact LnB.A) ?_) | (refine CutL.gone (Nat.lt_of_lt_of_le (Nat.lt_succ_self _) (Nat.le_of_ble_eq_true rfl)) ?_)))), allA⟩⟩)
      case inv => show k + 2 ≤ t.hands.length; omega
      case mu => show _ < _; omega
  · rcases k with _ | k
    · exfalso; omega
    · (repeat' ((try (conv => whnf)); first | (with_reducible first | refine FCond.tA ?_ | refine FCond.fA ?_) | ((with_reducible refine FCond.i (fun hq => ?_) (fun hq => ?_)) <;> (try simp only [zA, zE, zD, zJ, zB, zI, Int.not_le, Int.not_lt] at hq)) | (with_reducible first | refine Fits.in64 (by omega) ?_ | refine FIdx.nat (by omega) ?_ | refine FIdx.int (by omega) ?_ | refine FTo.nat (by omega) ?_ | refine FTo.int (by omega) ?_) | ((with_reducible refine Need.mk ?_ ?_); focus exact needA) | (with_reducible refine FApp.grow ?_)))
      (try (conv => whnf))
      have hkn : k + 1 = t.hands.length := by omega
      rw [← hkn]
      exact ⟨⟨.own 0 (k + 1), [rowC (k + 1) (allL (k + 1))], [0], Cut.A, Ln.A, rfl, rfl⟩⟩
set_option maxHeartbeats 4000000 in
set_option maxRecDepth 100000 in
theorem clone_ok (e : Bool) (l : List Int) (h1 : 0 < l.length ∧ l.length ≤ 1000) : ACall Try.prog 66 [aInts false e l] [] (fun v h => v = .own 0 l.length ∧ h = [rowC l.length l]) := by
  obtain ⟨m, hm⟩ : ∃ m, l.length = m + 1 := ⟨l.length - 1, by omega⟩
  (refine fcall_of mixed Try.func66 rfl (by decide) (hs := {}) ?k (ac := ?ac) ?c (rs := ?rs) ?r ?l ?H; (case k => kernel_rfl); (case c => (conv => (lhs; cbv))); (case r => (conv => (lhs; cbv))); (case l => exact Nat.le_of_ble_eq_true rfl))
  (repeat' ((try (conv => whnf)); first | (with_reducible first | refine FCond.tA ?_ | refine FCond.fA ?_) | ((with_reducible refine FCond.i (fun hq => ?_) (fun hq => ?_)) <;> (try simp only [zA, zE, zD, zJ, zB, zI, Int.not_le, Int.not_lt] at hq)) | (with_reducible first | refine Fits.in64 (by omega) ?_ | refine FIdx.nat (by omega) ?_ | refine FIdx.int (by omega) ?_ | refine FTo.nat (by omega) ?_ | refine FTo.int (by omega) ?_) | ((with_reducible refine Need.mk ?_ ?_); focus exact needA) | (with_reducible refine FApp.grow ?_)))
  (try (conv => whnf))
  rw [hm]
  (repeat' ((try (conv => whnf)); first | (with_reducible first | refine FCond.tA ?_ | refine FCond.fA ?_) | ((with_reducible refine FCond.i (fun hq => ?_) (fun hq => ?_)) <;> (try simp only [zA, zE, zD, zJ, zB, zI, Int.not_le, Int.not_lt] at hq)) | (with_reducible first | refine Fits.in64 (by omega) ?_ | refine FIdx.nat (by omega) ?_ | refine FIdx.int (by omega) ?_ | refine FTo.nat (by omega) ?_ | refine FTo.int (by omega) ?_) | ((with_reducible refine Need.mk ?_ ?_); focus exact needA) | (with_reducible refine FApp.grow ?_)))
  (try (conv => whnf))
  refine ⟨⟨.own 0 (m + 1), [rowC (m + 1) l], [0], ?_, Ln.ownE rfl (by omega), rfl, rfl⟩⟩
  exact Cut.of (Nat.le_of_ble_eq_true rfl) rfl rfl (CutL.turned rfl (LnB.rowE (by omega) fun k hk o ho => by simp [appc]) CutL.done)
end Go.Proofs.Ytomkjfhepfinhaa

namespace Go.Proofs.Ytomkjfhepfinhaa
open Go.RowKit

/-- What has been found: a rota, and its worst mistakes. -/
abbrev PSt := Option (List Int × Int)
def badOf (t : Task) (r : List Int) : Int := (cTo t true r r.length).bad
def PSt.no (s : PSt) (n : Int) : Bool := match s with
  | some (_, w) => decide (w ≤ n)
  | none => false
def dfs (t : Task) (hands : List Int) : Nat → List Int → PSt → PSt
  | 0, r, s => if PSt.no s (badOf t r) then s else some (r, badOf t r)
  | n + 1, r, s => if PSt.no s (badOf t r) then s else hands.foldl (fun s h => if followsP t r h then dfs t hands n (r ++ [h]) s else s) s
def dfsStep (t : Task) (hands : List Int) (n : Nat) (r : List Int) (s : PSt) (h : Int) : PSt := if followsP t r h then dfs t hands n (r ++ [h]) s else s
def PSt.ll (s : PSt) : List Int := match s with
  | some (l, _) => l
  | none => []
abbrev PSt.l (s : PSt) : AV := aInts s.isNone false s.ll
def PSt.w (s : PSt) : Int := match s with
  | some (_, w) => w
  | none => 0
abbrev pTs : List AV := [.ptr 0 0, .ptr 1 0, .ptr 2 0, .ptr 3 0, .ptr 4 0, .ptr 5 0]
abbrev bx (v : AV) : AB := .box 1 (ofL [v])
abbrev fNext : AV := .fn 65 6 (ofL pTs)
abbrev blk (f : TFl) (t : Task) (z e : Bool) (hands : List Int) (s : PSt) : List AB := [bx (pTask f t), bx (.bool s.isSome), bx (AI s.w), bx s.l, bx (aInts z e hands), bx fNext]
theorem PSt.l_pure (s : PSt) : s.l.pureB = true := rfl
theorem no_none {n : Int} : PSt.no none n = false := rfl

theorem allP_ok (f : TFl) (t : Task) (h1 : 0 < t.hands.length ∧ t.hands.length ≤ 1000) : ACall Try.prog 41 [pTask f t] [] (fun v h => v = aInts false false (allL t.hands.length) ∧ h = []) := by
  have := (all_ok f t h1).pub (Nat.le_refl _)
  have e : (allL t.hands.length).length = t.hands.length := by simp [allL]
  unfold aInts
  rw [e]; exact this
theorem pno {s : PSt} {m : Int} (h1 : s.isSome = true) (h2 : s.w ≤ m) : PSt.no s m = true := by
  cases s with
  | none => cases h1
  | some p => simpa [PSt.no, PSt.w] using h2
theorem pno2 {s : PSt} {m : Int} (h1 : s.isSome = true) (h2 : m < s.w) : PSt.no s m = false := by
  cases s with
  | none => cases h1
  | some p => simpa [PSt.no, PSt.w] using h2
theorem pno3 {s : PSt} {m : Int} (h1 : s.isSome = false) : PSt.no s m = false := by
  cases s with
  | none => rfl
  | some p => cases h1
theorem app1 {r : List Int} {h : Int} {k o : Nat} (hk : k < (r ++ [h]).length) : AI ((r ++ [h]).getD k 0) = appc r.length (fun k _ => AI (r.getD k 0)) (bslC (fun _ => ofL [AI 0]) [(0, AI h)]) k o := by
  rw [getD_snoc]
  simp only [appc, bslC, updRm]
  by_cases h1 : k < r.length
  · rw [if_pos h1, if_pos h1]
  · have h2 : k = r.length := by simp at hk; omega
    subst h2
    rw [if_neg h1, if_neg h1, if_pos rfl, if_pos (Nat.sub_self _)]
    rfl
theorem app2 {r : List Int} {h : Int} {k : Nat} (hk : k < r.length) : AI (r.getD k 0) = AI ((r ++ [h]).getD k 0) := by
  rw [getD_snoc, if_pos hk]
def NextC (f : TFl) (t : Task) (z e : Bool) (hands : List Int) (n : Nat) : Prop := ∀ (r : List Int) (s : PSt), 0 < r.length → r.length + n = t.parts.length → RotaIn t r →
    ACall Try.prog 65 (.own 6 r.length :: pTs) (blk f t z e hands s ++ [rowC r.length r]) (fun v h => v = .tup 0 (ofL []) ∧ h = blk f t z e hands (dfs t hands n r s) ++ [rowC r.length r])
set_option maxHeartbeats 8000000 in
set_option maxRecDepth 100000 in
theorem next_z (f : TFl) (t : Task) (z e : Bool) (hands : List Int) (k : TaskOk t) : NextC f t z e hands 0 := by
  have b1 := k.pn
  have b0 := k.hn
  intro r s h0 hl q
  obtain ⟨c1, c2, c3⟩ := cTo_bd (b := true) k q r.length (Nat.le_refl _)
  have hsl := s.l_pure
  (refine fcall_of mixed Try.func65 rfl (by decide) (hs := { ord := [(3, [(0, []), (2, []), (3, []), (4, []), (5, []), (1, [5]), (6, [5]), (7, []), (8, [])]), (8, [(0, []), (1, []), (2, []), (3, []), (4, [0]), (5, [])])] }) ?k (ac := ?ac) ?c (rs := ?rs) ?r ?l ?H; (case k => kernel_rfl); (case c => (conv => (lhs; cbv))); (case r => (conv => (lhs; cbv))); (case l => exact Nat.le_of_ble_eq_true rfl))
  (repeat' ((try (conv => whnf)); first | (with_reducible first | refine FCond.tA ?_ | refine FCond.fA ?_) | ((with_reducible refine FCond.i (fun hq => ?_) (fun hq => ?_)) <;> (try simp only [zA, zE, zD, zJ, zB, zI, Int.not_le, Int.not_lt] at hq)) | (with_reducible first | refine Fits.in64 (by omega) ?_ | refine FIdx.nat (by omega) ?_ | refine FIdx.int (by omega) ?_ | refine FTo.nat (by omega) ?_ | refine FTo.int (by omega) ?_) | ((with_reducible refine Need.mk ?_ ?_); focus exact needA) | ((refine FCall.give [] [] (begin_ok f t true (by omega)) rfl rfl True.intro ⟨Ln.A, Ln.A, True.intro⟩ ?_); rintro _ _ ⟨rfl, rfl⟩; (refine ⟨by first | exact Nat.le_of_ble_eq_true rfl | omega, .inl rfl, ?_⟩)) | ((refine FCall.give [7, 8, 6] [] (crunO_ok f t true r k q) rfl rfl ⟨⟨_, rfl, trivial, LnB.A⟩, ⟨_, rfl, trivial, LnB.A⟩, ⟨_, rfl, trivial, LnB.A⟩, True.intro⟩ ⟨Ln.A, Ln.A, True.intro⟩ ?_); rintro _ _ ⟨rfl, rfl⟩; (refine ⟨by first | exact Nat.le_of_ble_eq_true rfl | omega, .inl rfl, ?_⟩)) | ((refine FCall.give [] [6] (clone_ok false r ⟨h0, by omega⟩) rfl rfl True.intro ⟨Ln.pubE (by decide) rfl (Nat.le_refl _) rfl (fun _ _ _ _ => rfl), True.intro⟩ ?_); rintro _ _ ⟨rfl, rfl⟩; refine ⟨Nat.zero_le _, .inr ⟨trivial, flat_one (flat_row fun _ _ => trivial)⟩, ?_⟩)))
  all_goals (try (conv => whnf))
  · (repeat' ((try (conv => whnf)); first | (with_reducible first | refine FCond.tA ?_ | refine FCond.fA ?_) | ((with_reducible refine FCond.i (fun hq => ?_) (fun hq => ?_)) <;> (try simp only [zA, zE, zD, zJ, zB, zI, Int.not_le, Int.not_lt] at hq)) | (with_reducible first | refine Fits.in64 (by omega) ?_ | refine FIdx.nat (by omega) ?_ | refine FIdx.int (by omega) ?_ | refine FTo.nat (by omega) ?_ | refine FTo.int (by omega) ?_) | ((with_reducible refine Need.mk ?_ ?_); focus exact needA)))
    (try (conv => whnf))
    refine ⟨⟨.tup 0 (ofL []), blk f t z e hands s ++ [rowC r.length r], [0, 1, 2, 3, 4, 5, 6], Cut.A, Ln.sameB _ rfl, rfl, ?_⟩⟩
    have : dfs t hands 0 r s = s := by unfold dfs; rw [if_pos (pno (m := badOf t r) (by assumption) hq)]
    rw [this]
  all_goals
    have hd : dfs t hands 0 r s = some (r, badOf t r) := by
      unfold dfs
      rw [if_neg]
      first
      | rw [pno2 (m := badOf t r) (by assumption) hq]; decide
      | rw [pno3 (m := badOf t r) hq]; decide
    refine ⟨⟨.tup 0 (ofL []), blk f t z e hands (some (r, badOf t r)) ++ [rowC r.length r], [0, 1, 2, 3, 4, 5, 6], ?_, Ln.sameB _ rfl, rfl, by rw [hd]⟩⟩
    exact Cut.of (Nat.le_of_ble_eq_true rfl) rfl rfl (CutL.turned rfl LnB.A (CutL.turned rfl LnB.A (CutL.turned rfl LnB.A (CutL.turned rfl (LnB.boxN ⟨True.intro, Ln.pubE (goneB rfl) rfl (Nat.le_refl _) rfl (fun _ _ _ _ => rfl)⟩) (CutL.turned rfl LnB.A (CutL.turned rfl LnB.A (CutL.turned rfl LnB.A CutL.done)))))))
set_option maxHeartbeats 8000000 in
set_option maxRecDepth 100000 in
theorem next_s (f : TFl) (t : Task) (z e : Bool) (hands : List Int) (k : TaskOk t) (hh : hands.length ≤ 1000) (hin : ∀ j, j < hands.length → 0 ≤ hands.getD j 0 ∧ hands.getD j 0 < t.hands.length) (n : Nat) (ih : NextC f t z e hands n) : NextC f t z e hands (n + 1) := by
  have b1 := k.pn
  have b0 := k.hn
  intro r s h0 hl q
  obtain ⟨c1, c2, c3⟩ := cTo_bd (b := true) k q r.length (Nat.le_refl _)
  have hsl := s.l_pure
  (refine fcall_of mixed Try.func65 rfl (by decide) (hs := { ord := [(3, [(0, []), (2, []), (3, []), (4, []), (5, []), (1, [5]), (6, [5]), (7, []), (8, [])]), (8, [(0, []), (1, []), (2, []), (3, []), (4, [0]), (5, [])])] }) ?k (ac := ?ac) ?c (rs := ?rs) ?r ?l ?H; (case k => kernel_rfl); (case c => (conv => (lhs; cbv))); (case r => (conv => (lhs; cbv))); (case l => exact Nat.le_of_ble_eq_true rfl))
  (repeat' ((try (conv => whnf)); first | (with_reducible first | refine FCond.tA ?_ | refine FCond.fA ?_) | ((with_reducible refine FCond.i (fun hq => ?_) (fun hq => ?_)) <;> (try simp only [zA, zE, zD, zJ, zB, zI, Int.not_le, Int.not_lt] at hq)) | (with_reducible first | refine Fits.in64 (by omega) ?_ | refine FIdx.nat (by omega) ?_ | refine FIdx.int (by omega) ?_ | refine FTo.nat (by omega) ?_ | refine FTo.int (by omega) ?_) | ((with_reducible refine Need.mk ?_ ?_); focus exact needA) | ((refine FCall.give [] [] (begin_ok f t true (by omega)) rfl rfl True.intro ⟨Ln.A, Ln.A, True.intro⟩ ?_); rintro _ _ ⟨rfl, rfl⟩; (refine ⟨by first | exact Nat.le_of_ble_eq_true rfl | omega, .inl rfl, ?_⟩)) | ((refine FCall.give [7, 8, 6] [] (crunO_ok f t true r k q) rfl rfl ⟨⟨_, rfl, trivial, LnB.A⟩, ⟨_, rfl, trivial, LnB.A⟩, ⟨_, rfl, trivial, LnB.A⟩, True.intro⟩ ⟨Ln.A, Ln.A, True.intro⟩ ?_); rintro _ _ ⟨rfl, rfl⟩; (refine ⟨by first | exact Nat.le_of_ble_eq_true rfl | omega, .inl rfl, ?_⟩))))
  all_goals (try (conv => whnf))
  · (repeat' ((try (conv => whnf)); first | (with_reducible first | refine FCond.tA ?_ | refine FCond.fA ?_) | ((with_reducible refine FCond.i (fun hq => ?_) (fun hq => ?_)) <;> (try simp only [zA, zE, zD, zJ, zB, zI, Int.not_le, Int.not_lt] at hq)) | (with_reducible first | refine Fits.in64 (by omega) ?_ | refine FIdx.nat (by omega) ?_ | refine FIdx.int (by omega) ?_ | refine FTo.nat (by omega) ?_ | refine FTo.int (by omega) ?_) | ((with_reducible refine Need.mk ?_ ?_); focus exact needA)))
    (try (conv => whnf))
    refine ⟨⟨.tup 0 (ofL []), blk f t z e hands s ++ [rowC r.length r], [0, 1, 2, 3, 4, 5, 6], Cut.A, Ln.sameB _ rfl, rfl, ?_⟩⟩
    have : dfs t hands (n + 1) r s = s := by unfold dfs; rw [if_pos (pno (m := badOf t r) (by assumption) hq)]
    rw [this]
  all_goals
    have hd : dfs t hands (n + 1) r s = hands.foldl (dfsStep t hands n r) s := by
      rw [dfs, if_neg]
      · rfl
      first
      | rw [pno2 (m := badOf t r) (by assumption) hq]; decide
      | rw [pno3 (m := badOf t r) hq]; decide
    refine FLoop.of2 (ACalls.mono _) (fun (j : Nat) (s : PSt) => [(0, .own 6 r.length), (1, .ptr 0 0), (6, .ptr 5 0), (39, aInts z e hands), (40, AI hands.length), (41, AI j)]) (fun _ s => blk f t z e hands s ++ [rowC r.length r])
      (fun j s' => j ≤ hands.length ∧ dfs t hands (n + 1) r s = (hands.drop j).foldl (dfsStep t hands n r) s') (fun j _ => hands.length - j) 0 s ⟨⟨by omega, hd⟩, [0, 1, 2, 3, 4, 5, 6], Cut.A, by exact allA⟩ ?_
    rintro j s' ⟨hj, hs'⟩
    have hsl' := s'.l_pure
    by_cases hlt : j < hands.length
    · have hx := hin j hlt
      rw [drop_eq 0 hlt, List.foldl_cons] at hs'
      (repeat' ((try (conv => whnf)); first | (with_reducible first | refine FCond.tA ?_ | refine FCond.fA ?_) | ((with_reducible refine FCond.i (fun hq => ?_) (fun hq => ?_)) <;> (try simp only [zA, zE, zD, zJ, zB, zI, Int.not_le, Int.not_lt] at hq)) | (with_reducible first | refine Fits.in64 (by omega) ?_ | refine FIdx.nat (by omega) ?_ | refine FIdx.int (by omega) ?_ | refine FTo.nat (by omega) ?_ | refine FTo.int (by omega) ?_) | ((with_reducible refine Need.mk ?_ ?_); focus exact needA) | (refine FCall.lend [6] ((follows_ok f t false false r (hands.getD j 0) (by omega))) ⟨Ln.sameB _ rfl, Ln.pubE (by decide) rfl (Nat.le_refl _) rfl (fun _ _ _ _ => rfl), Ln.sameB _ rfl, True.intro⟩ rfl trivial ?_)))
      all_goals (try (conv => whnf))
      · have hst : dfsStep t hands n r s' (hands.getD j 0) = dfs t hands n (r ++ [hands.getD j 0]) s' := by unfold dfsStep; rw [if_pos hq]
        have hsl2 := (dfs t hands n (r ++ [hands.getD j 0]) s').l_pure
        rw [hst] at hs'
        have hq2 : RotaIn t (r ++ [hands.getD j 0]) := by
          refine ⟨by simp; omega, fun i hi => ?_⟩
          rw [getD_snoc]
          split
          · rename_i h; exact q.el i h
          · rw [if_pos (by simp at hi; omega)]; exact hx
        refine FApp.share ⟨Nat.le_refl _, ⟨?_, ?_⟩⟩
        · (repeat' ((try (conv => whnf)); first | (with_reducible first | refine FCond.tA ?_ | refine FCond.fA ?_) | ((with_reducible refine FCond.i (fun hq => ?_) (fun hq => ?_)) <;> (try simp only [zA, zE, zD, zJ, zB, zI, Int.not_le, Int.not_lt] at hq)) | (with_reducible first | refine Fits.in64 (by omega) ?_ | refine FIdx.nat (by omega) ?_ | refine FIdx.int (by omega) ?_ | refine FTo.nat (by omega) ?_ | refine FTo.int (by omega) ?_) | ((with_reducible refine Need.mk ?_ ?_); focus exact needA) | ((refine FCall.give [0, 1, 2, 3, 4, 5, 6] [] (ih (r ++ [hands.getD j 0]) s' (by simp) (by simp; omega) hq2) rfl rfl ⟨⟨_, rfl, trivial, LnB.A⟩, ⟨_, rfl, trivial, LnB.A⟩, ⟨_, rfl, trivial, LnB.A⟩, ⟨_, rfl, trivial, LnB.A⟩, ⟨_, rfl, trivial, LnB.A⟩, ⟨_, rfl, trivial, LnB.A⟩, ⟨_, rfl, trivial, LnB.rowE (by simp) (fun k hk o ho => app1 hk)⟩, True.intro⟩ ⟨Ln.ownE rfl (by simp), Ln.A, Ln.A, Ln.A, Ln.A, Ln.A, Ln.A, True.intro⟩ ?_); rintro _ _ ⟨rfl, rfl⟩; refine ⟨Nat.le_of_ble_eq_true rfl, .inl rfl, ?_⟩)))
          (try (conv => whnf))
          (exact ⟨⟨j + 1, dfs t hands n (r ++ [hands.getD j 0]) s', ⟨by omega, hs'⟩, (by show _ < _; omega), [0, 1, 2, 3, 4, 5, 6], (by (refine Cut.of (Nat.le_of_ble_eq_true rfl) rfl rfl ?_; repeat (first | exact CutL.done | (refine CutL.turned rfl (by first | exact LnB.rowS | exact LnB.rowE (by simp) (fun k hk o ho => app2 hk) | exact LnB.A) ?_) | (refine CutL.gone (Nat.lt_of_lt_of_le (Nat.lt_succ_self _) (Nat.le_of_ble_eq_true rfl)) ?_)))), allA⟩⟩)
        · (repeat' ((try (conv => whnf)); first | (with_reducible first | refine FCond.tA ?_ | refine FCond.fA ?_) | ((with_reducible refine FCond.i (fun hq => ?_) (fun hq => ?_)) <;> (try simp only [zA, zE, zD, zJ, zB, zI, Int.not_le, Int.not_lt] at hq)) | (with_reducible first | refine Fits.in64 (by omega) ?_ | refine FIdx.nat (by omega) ?_ | refine FIdx.int (by omega) ?_ | refine FTo.nat (by omega) ?_ | refine FTo.int (by omega) ?_) | ((with_reducible refine Need.mk ?_ ?_); focus exact needA) | ((refine FCall.give [0, 1, 2, 3, 4, 5, 7] [] (ih (r ++ [hands.getD j 0]) s' (by simp) (by simp; omega) hq2) rfl rfl ⟨⟨_, rfl, trivial, LnB.A⟩, ⟨_, rfl, trivial, LnB.A⟩, ⟨_, rfl, trivial, LnB.A⟩, ⟨_, rfl, trivial, LnB.A⟩, ⟨_, rfl, trivial, LnB.A⟩, ⟨_, rfl, trivial, LnB.A⟩, ⟨_, rfl, trivial, LnB.rowE (by simp) (fun k hk o ho => app1 hk)⟩, True.intro⟩ ⟨Ln.ownE rfl (by simp), Ln.A, Ln.A, Ln.A, Ln.A, Ln.A, Ln.A, True.intro⟩ ?_); rintro _ _ ⟨rfl, rfl⟩; refine ⟨Nat.le_of_ble_eq_true rfl, .inl rfl, ?_⟩)))
          (try (conv => whnf))
          (exact ⟨⟨j + 1, dfs t hands n (r ++ [hands.getD j 0]) s', ⟨by omega, hs'⟩, (by show _ < _; omega), [0, 1, 2, 3, 4, 5, 6], Cut.A, allA⟩⟩)
      · have hst : dfsStep t hands n r s' (hands.getD j 0) = s' := by unfold dfsStep; rw [if_neg (by rw [hq]; decide)]
        rw [hst] at hs'
        (exact ⟨⟨j + 1, s', ⟨by omega, hs'⟩, (by show _ < _; omega), [0, 1, 2, 3, 4, 5, 6], Cut.A, allA⟩⟩)
    · (repeat' ((try (conv => whnf)); first | (with_reducible first | refine FCond.tA ?_ | refine FCond.fA ?_) | ((with_reducible refine FCond.i (fun hq => ?_) (fun hq => ?_)) <;> (try simp only [zA, zE, zD, zJ, zB, zI, Int.not_le, Int.not_lt] at hq)) | (with_reducible first | refine Fits.in64 (by omega) ?_ | refine FIdx.nat (by omega) ?_ | refine FIdx.int (by omega) ?_ | refine FTo.nat (by omega) ?_ | refine FTo.int (by omega) ?_) | ((with_reducible refine Need.mk ?_ ?_); focus exact needA)))
      (try (conv => whnf))
      have hj' : j = hands.length := by omega
      rw [List.drop_eq_nil_of_le (by omega)] at hs'
      refine ⟨⟨.tup 0 (ofL []), blk f t z e hands s' ++ [rowC r.length r], [0, 1, 2, 3, 4, 5, 6], Cut.A, Ln.sameB _ rfl, rfl, ?_⟩⟩
      rw [hs']; rfl
end Go.Proofs.Ytomkjfhepfinhaa

namespace Go.Proofs.Ytomkjfhepfinhaa
open Go.RowKit

theorem next_ok (f : TFl) (t : Task) (z e : Bool) (hands : List Int) (k : TaskOk t) (hh : hands.length ≤ 1000) (hin : ∀ j, j < hands.length → 0 ≤ hands.getD j 0 ∧ hands.getD j 0 < t.hands.length) : ∀ n, NextC f t z e hands n
  | 0 => next_z f t z e hands k
  | n + 1 => next_s f t z e hands k hh hin n (next_ok f t z e hands k hh hin n)
def planS (t : Task) (hands : List Int) : PSt := dfs t hands t.parts.length [] none
theorem rota_nil (t : Task) : RotaIn t [] := ⟨Nat.zero_le _, fun i hi => absurd hi (Nat.not_lt_zero i)⟩
theorem app0 {h : Int} {k o : Nat} {c : Nat → Nat → AV} (hk : k < [h].length) : AI ([h].getD k 0) = appc 0 c (bslC (fun _ => ofL [AI 0]) [(0, AI h)]) k o := by
  have : k = 0 := by simp at hk; omega
  subst this
  simp [appc, bslC, updRm, elemC]
set_option maxHeartbeats 8000000 in
set_option maxRecDepth 100000 in
theorem next0_ok (f : TFl) (t : Task) (z e : Bool) (hands : List Int) (k : TaskOk t) (hh : hands.length ≤ 1000) (hin : ∀ j, j < hands.length → 0 ≤ hands.getD j 0 ∧ hands.getD j 0 < t.hands.length) :
    ACall Try.prog 65 (nilS :: pTs) (blk f t z e hands none) (fun v h => v = .tup 0 (ofL []) ∧ h = blk f t z e hands (planS t hands)) := by
  have b1 := k.pn
  have b0 := k.hn
  obtain ⟨n, hn⟩ : ∃ n, t.parts.length = n + 1 := ⟨t.parts.length - 1, by omega⟩
  have ih := next_ok f t z e hands k hh hin n
  have hd : planS t hands = hands.foldl (dfsStep t hands n []) none := by unfold planS; rw [hn]; rfl
  (refine fcall_of mixed Try.func65 rfl (by decide) (hs := { ord := [(3, [(0, []), (2, []), (3, []), (4, []), (5, []), (1, [5]), (6, [5]), (7, []), (8, [])]), (8, [(0, []), (1, []), (2, []), (3, []), (4, [0]), (5, [])])] }) ?k (ac := ?ac) ?c (rs := ?rs) ?r ?l ?H; (case k => kernel_rfl); (case c => (conv => (lhs; cbv))); (case r => (conv => (lhs; cbv))); (case l => exact Nat.le_of_ble_eq_true rfl))
  (repeat' ((try (conv => whnf)); first | (with_reducible first | refine FCond.tA ?_ | refine FCond.fA ?_) | ((with_reducible refine FCond.i (fun hq => ?_) (fun hq => ?_)) <;> (try simp only [zA, zE, zD, zJ, zB, zI, Int.not_le, Int.not_lt] at hq)) | (with_reducible first | refine Fits.in64 (by omega) ?_ | refine FIdx.nat (by omega) ?_ | refine FIdx.int (by omega) ?_ | refine FTo.nat (by omega) ?_ | refine FTo.int (by omega) ?_) | ((with_reducible refine Need.mk ?_ ?_); focus exact needA) | ((refine FCall.give [] [] (begin_ok f t true (by omega)) rfl rfl True.intro ⟨Ln.A, Ln.A, True.intro⟩ ?_); rintro _ _ ⟨rfl, rfl⟩; (refine ⟨by first | exact Nat.le_of_ble_eq_true rfl | omega, .inl rfl, ?_⟩)) | ((refine FCall.give [6, 7] [] (crun_ok f t true true true [] k (rota_nil t)) rfl rfl ⟨⟨_, rfl, trivial, LnB.A⟩, ⟨_, rfl, trivial, LnB.A⟩, True.intro⟩ ⟨Ln.A, Ln.A, True.intro⟩ ?_); rintro _ _ ⟨rfl, rfl⟩; (refine ⟨by first | exact Nat.le_of_ble_eq_true rfl | omega, .inl rfl, ?_⟩))))
  (try (conv => whnf))
  refine FLoop.of2 (ACalls.mono _) (fun (j : Nat) (s : PSt) => [(0, nilS), (1, .ptr 0 0), (6, .ptr 5 0), (39, aInts z e hands), (40, AI hands.length), (41, AI j)]) (fun _ s => blk f t z e hands s)
    (fun j s' => j ≤ hands.length ∧ planS t hands = (hands.drop j).foldl (dfsStep t hands n []) s') (fun j _ => hands.length - j) 0 none ⟨⟨by omega, hd⟩, [0, 1, 2, 3, 4, 5], Cut.A, by exact allA⟩ ?_
  rintro j s' ⟨hj, hs'⟩
  by_cases hlt : j < hands.length
  · have hx := hin j hlt
    rw [drop_eq 0 hlt, List.foldl_cons] at hs'
    (repeat' ((try (conv => whnf)); first | (with_reducible first | refine FCond.tA ?_ | refine FCond.fA ?_) | ((with_reducible refine FCond.i (fun hq => ?_) (fun hq => ?_)) <;> (try simp only [zA, zE, zD, zJ, zB, zI, Int.not_le, Int.not_lt] at hq)) | (with_reducible first | refine Fits.in64 (by omega) ?_ | refine FIdx.nat (by omega) ?_ | refine FIdx.int (by omega) ?_ | refine FTo.nat (by omega) ?_ | refine FTo.int (by omega) ?_) | ((with_reducible refine Need.mk ?_ ?_); focus exact needA) | (refine FCall.pure (follows_ok f t true true [] (hands.getD j 0) (by simp)) ⟨Ln.A, Ln.A, Ln.A, True.intro⟩ rfl ?_)))
    all_goals (try (conv => whnf))
    · have hst : dfsStep t hands n [] s' (hands.getD j 0) = dfs t hands n [hands.getD j 0] s' := by unfold dfsStep; rw [if_pos hq]; rfl
      rw [hst] at hs'
      have hq2 : RotaIn t [hands.getD j 0] := by
        refine ⟨by simp; omega, fun i hi => ?_⟩
        have : i = 0 := by simp at hi; omega
        subst this
        exact hx
      (repeat' ((try (conv => whnf)); first | (with_reducible first | refine FCond.tA ?_ | refine FCond.fA ?_) | ((with_reducible refine FCond.i (fun hq => ?_) (fun hq => ?_)) <;> (try simp only [zA, zE, zD, zJ, zB, zI, Int.not_le, Int.not_lt] at hq)) | (with_reducible first | refine Fits.in64 (by omega) ?_ | refine FIdx.nat (by omega) ?_ | refine FIdx.int (by omega) ?_ | refine FTo.nat (by omega) ?_ | refine FTo.int (by omega) ?_) | ((with_reducible refine Need.mk ?_ ?_); focus exact needA) | ((refine FCall.give [0, 1, 2, 3, 4, 5, 6] [] (ih [hands.getD j 0] s' (by simp) (by simp; omega) hq2) rfl rfl ⟨⟨_, rfl, trivial, LnB.A⟩, ⟨_, rfl, trivial, LnB.A⟩, ⟨_, rfl, trivial, LnB.A⟩, ⟨_, rfl, trivial, LnB.A⟩, ⟨_, rfl, trivial, LnB.A⟩, ⟨_, rfl, trivial, LnB.A⟩, ⟨_, rfl, trivial, LnB.rowE (by simp) (fun k hk o ho => app0 hk)⟩, True.intro⟩ ⟨Ln.ownE rfl (by simp), Ln.A, Ln.A, Ln.A, Ln.A, Ln.A, Ln.A, True.intro⟩ ?_); rintro _ _ ⟨rfl, rfl⟩; refine ⟨Nat.le_of_ble_eq_true rfl, .inl rfl, ?_⟩)))
      (try (conv => whnf))
      (exact ⟨⟨j + 1, dfs t hands n [hands.getD j 0] s', ⟨by omega, hs'⟩, (by show _ < _; omega), [0, 1, 2, 3, 4, 5], Cut.A, allA⟩⟩)
    · have hst : dfsStep t hands n [] s' (hands.getD j 0) = s' := by unfold dfsStep; rw [if_neg (by rw [hq]; decide)]
      rw [hst] at hs'
      (exact ⟨⟨j + 1, s', ⟨by omega, hs'⟩, (by show _ < _; omega), [0, 1, 2, 3, 4, 5], Cut.A, allA⟩⟩)
  · (repeat' ((try (conv => whnf)); first | (with_reducible first | refine FCond.tA ?_ | refine FCond.fA ?_) | ((with_reducible refine FCond.i (fun hq => ?_) (fun hq => ?_)) <;> (try simp only [zA, zE, zD, zJ, zB, zI, Int.not_le, Int.not_lt] at hq)) | (with_reducible first | refine Fits.in64 (by omega) ?_ | refine FIdx.nat (by omega) ?_ | refine FIdx.int (by omega) ?_ | refine FTo.nat (by omega) ?_ | refine FTo.int (by omega) ?_) | ((with_reducible refine Need.mk ?_ ?_); focus exact needA)))
    (try (conv => whnf))
    rw [List.drop_eq_nil_of_le (by omega)] at hs'
    refine ⟨⟨.tup 0 (ofL []), blk f t z e hands s', [0, 1, 2, 3, 4, 5], Cut.A, Ln.sameB _ rfl, rfl, ?_⟩⟩
    rw [hs']; rfl
set_option maxHeartbeats 8000000 in
set_option maxRecDepth 100000 in
theorem plan_ok (f : TFl) (t : Task) (z e : Bool) (hands : List Int) (k : TaskOk t) (hh : hands.length ≤ 1000) (hin : ∀ j, j < hands.length → 0 ≤ hands.getD j 0 ∧ hands.getD j 0 < t.hands.length) :
    ACall Try.prog 40 [pTask f t, aInts z e hands] [] (fun v h => v = .tup 3 (ofL [(planS t hands).l, AI (planS t hands).w, .bool (planS t hands).isSome]) ∧ h = []) := by
  (refine fcall_of mixed Try.func40 rfl (by decide) (hs := { ord := [(4, [(0, []), (1, []), (2, []), (3, [1, 2]), (4, [2]), (5, [])])] }) ?k (ac := ?ac) ?c (rs := ?rs) ?r ?l ?H; (case k => kernel_rfl); (case c => (conv => (lhs; cbv))); (case r => (conv => (lhs; cbv))); (case l => exact Nat.le_of_ble_eq_true rfl))
  (repeat' ((try (conv => whnf)); first | (with_reducible first | refine FCond.tA ?_ | refine FCond.fA ?_) | ((with_reducible refine FCond.i (fun hq => ?_) (fun hq => ?_)) <;> (try simp only [zA, zE, zD, zJ, zB, zI, Int.not_le, Int.not_lt] at hq)) | (with_reducible first | refine Fits.in64 (by omega) ?_ | refine FIdx.nat (by omega) ?_ | refine FIdx.int (by omega) ?_ | refine FTo.nat (by omega) ?_ | refine FTo.int (by omega) ?_) | ((with_reducible refine Need.mk ?_ ?_); focus exact needA) | ((refine FCall.give [0, 4, 3, 2, 1, 5] [] (next0_ok f t z e hands k hh hin) rfl rfl ⟨⟨_, rfl, trivial, LnB.A⟩, ⟨_, rfl, trivial, LnB.A⟩, ⟨_, rfl, trivial, LnB.A⟩, ⟨_, rfl, trivial, LnB.A⟩, ⟨_, rfl, trivial, LnB.A⟩, ⟨_, rfl, trivial, LnB.A⟩, True.intro⟩ ⟨Ln.A, Ln.A, Ln.A, Ln.A, Ln.A, Ln.A, Ln.A, True.intro⟩ ?_); rintro _ _ ⟨rfl, rfl⟩; refine ⟨Nat.le_of_ble_eq_true rfl, .inl rfl, ?_⟩)))
  (try (conv => whnf))
  (refine ⟨⟨_, [], [], Cut.nil _, Ln.sameB _ rfl, ?_, rfl⟩⟩)
  rfl
theorem all_in (n : Nat) : ∀ j, j < (allL n).length → 0 ≤ (allL n).getD j 0 ∧ (allL n).getD j 0 < n := fun j hj => by
  have : j < n := by simpa [allL] using hj
  rw [allL_get this]; omega
def planE (t : Task) : List AV := if t.ok then (if (planS t (allL t.hands.length)).isSome then [aInts false false (planS t (allL t.hands.length)).ll, AI (planS t (allL t.hands.length)).w, AI 0] else [nilS, AI 0, AI 3]) else [nilS, AI 0, AI 40]
set_option maxHeartbeats 8000000 in
set_option maxRecDepth 100000 in
theorem pPlan_ok (f : TFl) (t : Task) (h1 : t.hands.length ≤ 1000000) (h2 : t.parts.length ≤ 1000000) : ACall Try.prog 13 [aTask f t] [] (fun v h => v = .tup 3 (ofL (planE t)) ∧ h = []) := by
  (refine fcall_of mixed Try.func13 rfl (by decide) (hs := { pub := [5] }) ?k (ac := ?ac) ?c (rs := ?rs) ?r ?l ?H; (case k => kernel_rfl); (case c => (conv => (lhs; cbv))); (case r => (conv => (lhs; cbv))); (case l => exact Nat.le_of_ble_eq_true rfl))
  (repeat' ((try (conv => whnf)); first | (with_reducible first | refine FCond.tA ?_ | refine FCond.fA ?_) | ((with_reducible refine FCond.i (fun hq => ?_) (fun hq => ?_)) <;> (try simp only [zA, zE, zD, zJ, zB, zI, Int.not_le, Int.not_lt] at hq)) | (with_reducible first | refine Fits.in64 (by omega) ?_ | refine FIdx.nat (by omega) ?_ | refine FIdx.int (by omega) ?_ | refine FTo.nat (by omega) ?_ | refine FTo.int (by omega) ?_) | ((with_reducible refine Need.mk ?_ ?_); focus exact needA) | (refine FCall.pure ((check_ok _ _ h1 h2)) ⟨Ln.sameB _ rfl, True.intro⟩ rfl ?_)))
  all_goals (try (conv => whnf))
  · have hok : ¬ t.ok = true := fun h => hq (check_0 h)
    (refine ⟨⟨_, [], [], Cut.nil _, Ln.sameB _ rfl, ?_, rfl⟩⟩)
    unfold planE
    rw [if_neg hok, check_40 hok]; rfl
  · have hok : t.ok = true := by
      by_cases h : t.ok = true
      · exact h
      · rw [check_40 h] at hq; cases hq
    have k := taskOk hok
    have b1 := k.hn
    have hE : planE t = if (planS t (allL t.hands.length)).isSome then [aInts false false (planS t (allL t.hands.length)).ll, AI (planS t (allL t.hands.length)).w, AI 0] else [nilS, AI 0, AI 3] := by unfold planE; rw [if_pos hok]
    refine FWk.of [(6, pTask f t)] [] [] (Cut.nil _) ⟨Ln.boxP (m := 5) (goneB rfl) rfl (by exact allA) rfl, True.intro⟩ ?_
    (repeat' ((try (conv => whnf)); first | (with_reducible first | refine FCond.tA ?_ | refine FCond.fA ?_) | ((with_reducible refine FCond.i (fun hq => ?_) (fun hq => ?_)) <;> (try simp only [zA, zE, zD, zJ, zB, zI, Int.not_le, Int.not_lt] at hq)) | (with_reducible first | refine Fits.in64 (by omega) ?_ | refine FIdx.nat (by omega) ?_ | refine FIdx.int (by omega) ?_ | refine FTo.nat (by omega) ?_ | refine FTo.int (by omega) ?_) | ((with_reducible refine Need.mk ?_ ?_); focus exact needA) | (refine FCall.pure ((allP_ok f t (by omega))) ⟨Ln.sameB _ rfl, True.intro⟩ rfl ?_) | (refine FCall.pure ((plan_ok f t false false (allL t.hands.length) k (by simp [allL]; omega) (all_in _))) ⟨Ln.sameB _ rfl, Ln.sameB _ rfl, True.intro⟩ rfl ?_)))
    all_goals (try (conv => whnf))
    · (refine ⟨⟨_, [], [], Cut.nil _, Ln.sameB _ rfl, ?_, rfl⟩⟩)
      rw [hE, if_neg (by simpa using hq)]; rfl
    · (refine ⟨⟨_, [], [], Cut.nil _, Ln.sameB _ rfl, ?_, rfl⟩⟩)
      have hs : (planS t (allL t.hands.length)).isSome = true := by simpa using hq
      rw [hE, if_pos hs]
      have : (planS t (allL t.hands.length)).isNone = false := by cases hp : planS t (allL t.hands.length) <;> simp_all
      rw [← this]; rfl
end Go.Proofs.Ytomkjfhepfinhaa

namespace Go.Proofs.Ytomkjfhepfinhaa

theorem getD_app_l {r x : List Int} {i : Nat} (h : i < r.length) : (r ++ x).getD i 0 = r.getD i 0 := by
  simp [List.getD, List.getElem?_append_left h]
theorem cTo_app {t : Task} {b : Bool} {r x : List Int} : ∀ i, i ≤ r.length → cTo t b (r ++ x) i = cTo t b r i
  | 0, _ => rfl
  | i + 1, hi => by
    simp only [cTo]
    rw [cTo_app i (by omega), getD_app_l (by omega)]
theorem bad_step {t : Task} {r : List Int} {h : Int} (k : TaskOk t) (q : RotaIn t (r ++ [h])) : badOf t r ≤ badOf t (r ++ [h]) := by
  have hl : (r ++ [h]).length = r.length + 1 := by simp
  have hx := q.el r.length (by omega)
  have hg : (r ++ [h]).getD r.length 0 = h := by rw [getD_snoc, if_neg (by omega), if_pos rfl]
  rw [hg] at hx
  have hql := q.len
  have qr : RotaIn t r := ⟨by omega, fun i hi => by have := q.el i (by omega); rwa [getD_app_l hi] at this⟩
  obtain ⟨c1, c2, c3⟩ := cTo_bd (b := true) k qr r.length (Nat.le_refl _)
  unfold badOf
  rw [hl]
  simp only [cTo]
  rw [cTo_app r.length (Nat.le_refl _), hg]
  have h1 := k.hand h.toNat (by omega)
  have h2 := c2 h.toNat (by omega)
  have h3 := mul_bd (k.part r.length (by omega)) (q := (t.hands.getD h.toNat hd0).slip + (cTo t true r r.length).now.getD h.toNat 0) (by omega)
  have h4 := k.swap
  unfold signBad
  split <;> omega
theorem followsP_take {t : Task} {r : List Int} {h : Int} : True := trivial

def everyP (t : Task) (hands : List Int) : Nat → List Int → List (List Int)
  | 0, r => [r]
  | n + 1, r => hands.flatMap fun h => if followsP t r h then everyP t hands n (r ++ [h]) else []
def better (t : Task) (s : PSt) (x : List Int) : PSt := if PSt.no s (badOf t x) then s else some (x, badOf t x)
theorem every_mem {t : Task} {hands : List Int} : ∀ {n : Nat} {r x : List Int}, x ∈ everyP t hands n r ↔ x.length = r.length + n ∧ x.take r.length = r ∧ ∀ j, r.length ≤ j → j < x.length → x.getD j 0 ∈ hands ∧ followsP t (x.take j) (x.getD j 0) = true
  | 0, r, x => by
    simp only [everyP, List.mem_singleton]
    constructor
    · rintro rfl; exact ⟨rfl, List.take_length, fun j h1 h2 => by omega⟩
    · rintro ⟨h1, h2, _⟩
      rw [← h2, List.take_of_length_le (by omega)]
  | n + 1, r, x => by
    simp only [everyP, List.mem_flatMap]
    constructor
    · rintro ⟨h, hh, hx⟩
      split at hx
      · rename_i hf
        obtain ⟨h1, h2, h3⟩ := every_mem.1 hx
        simp only [List.length_append, List.length_singleton] at h1 h2 h3
        have h4 : x.take r.length = r := by
          have := congrArg (List.take r.length) h2
          rw [List.take_take, Nat.min_eq_left (by omega), List.take_left'] at this
          · exact this
          · rfl
        have h5 : x.getD r.length 0 = h := by
          have : (x.take (r.length + 1)).getD r.length 0 = (r ++ [h]).getD r.length 0 := by rw [h2]
          rwa [getD_take (by omega), getD_snoc, if_neg (by omega), if_pos rfl] at this
        refine ⟨by omega, h4, fun j j1 j2 => ?_⟩
        by_cases e : j = r.length
        · subst e; rw [h4, h5]; exact ⟨hh, hf⟩
        · exact h3 j (by omega) j2
      · cases hx
    · rintro ⟨h1, h2, h3⟩
      obtain ⟨a, b⟩ := h3 r.length (Nat.le_refl _) (by omega)
      rw [h2] at b
      refine ⟨_, a, ?_⟩
      rw [if_pos b]
      refine every_mem.2 ⟨by simp; omega, ?_, fun j j1 j2 => h3 j (by simp at j1; omega) j2⟩
      simp only [List.length_append, List.length_singleton]
      have : x.take (r.length + 1) = x.take r.length ++ [x.getD r.length 0] := by
        rw [List.take_add_one, List.getD, List.getElem?_eq_getElem (by omega)]; rfl
      rw [this, h2]
theorem bad_ext {t : Task} {hands : List Int} (k : TaskOk t) (hin : ∀ h ∈ hands, 0 ≤ h ∧ h < t.hands.length) : ∀ {n : Nat} {r x : List Int}, r.length + n ≤ t.parts.length → RotaIn t r → x ∈ everyP t hands n r → badOf t r ≤ badOf t x
  | 0, r, x, _, _, hx => by
    simp only [everyP, List.mem_singleton] at hx
    subst hx; exact Int.le_refl _
  | n + 1, r, x, hl, q, hx => by
    simp only [everyP, List.mem_flatMap] at hx
    obtain ⟨h, hh, hx⟩ := hx
    split at hx
    · have q2 : RotaIn t (r ++ [h]) := by
        refine ⟨by simp; omega, fun i hi => ?_⟩
        rw [getD_snoc]
        split
        · rename_i h1; exact q.el i h1
        · rw [if_pos (by simp at hi; omega)]; exact hin h hh
      exact Int.le_trans (bad_step k q2) (bad_ext k hin (by simp; omega) q2 hx)
    · cases hx
theorem better_stay {t : Task} {s : PSt} : ∀ {L : List (List Int)}, (∀ x ∈ L, PSt.no s (badOf t x) = true) → L.foldl (better t) s = s
  | [], _ => rfl
  | x :: L, h => by
    rw [List.foldl_cons]
    have : better t s x = s := by unfold better; rw [if_pos (h x List.mem_cons_self)]
    rw [this]
    exact better_stay fun y hy => h y (List.mem_cons_of_mem _ hy)
theorem no_mono {s : PSt} {a b : Int} (h : PSt.no s a = true) (hab : a ≤ b) : PSt.no s b = true := by
  cases s with
  | none => cases h
  | some p => simp only [PSt.no, decide_eq_true_eq] at h ⊢; omega
theorem dfs_eq {t : Task} {hands : List Int} (k : TaskOk t) (hin : ∀ h ∈ hands, 0 ≤ h ∧ h < t.hands.length) : ∀ {n : Nat} {r : List Int} {s : PSt}, r.length + n ≤ t.parts.length → RotaIn t r → dfs t hands n r s = (everyP t hands n r).foldl (better t) s
  | 0, r, s, _, _ => by simp only [everyP, dfs, List.foldl_cons, List.foldl_nil, better]
  | n + 1, r, s, hl, q => by
    unfold dfs
    by_cases hno : PSt.no s (badOf t r) = true
    · rw [if_pos hno, better_stay]
      intro x hx
      exact no_mono hno (bad_ext k hin hl q hx)
    · rw [if_neg hno]
      simp only [everyP]
      clear hno
      have key : ∀ (l : List Int), (∀ h ∈ l, 0 ≤ h ∧ h < t.hands.length) → ∀ s : PSt, l.foldl (fun s h => if followsP t r h then dfs t hands n (r ++ [h]) s else s) s = (l.flatMap fun h => if followsP t r h then everyP t hands n (r ++ [h]) else []).foldl (better t) s := by
        intro l
        induction l with
        | nil => intro _ s; rfl
        | cons h l ih =>
          intro hl2 s
          rw [List.foldl_cons, List.flatMap_cons, List.foldl_append, ih (fun x hx => hl2 x (List.mem_cons_of_mem _ hx))]
          congr 1
          by_cases hf : followsP t r h = true
          · rw [if_pos hf, if_pos hf]
            refine dfs_eq k hin (by simp; omega) ⟨by simp; omega, fun i hi => ?_⟩
            rw [getD_snoc]
            split
            · rename_i h1; exact q.el i h1
            · rw [if_pos (by simp at hi; omega)]; exact hl2 h List.mem_cons_self
          · rw [if_neg hf, if_neg hf]; rfl
      exact key hands hin s
/-- The least of a list, the first of several. -/
theorem best_of {t : Task} {R : List Int → List Int → Prop} : ∀ {L : List (List Int)} {l0 : List Int} {w0 : Int}, L.Pairwise R → (∀ x ∈ L, R l0 x) → w0 = badOf t l0 →
    ∃ l, L.foldl (better t) (some (l0, w0)) = some (l, badOf t l) ∧ (l = l0 ∨ l ∈ L) ∧ badOf t l ≤ w0 ∧ (l = l0 ∨ badOf t l < w0) ∧ ∀ x ∈ L, badOf t l < badOf t x ∨ (badOf t l = badOf t x ∧ (x = l ∨ R l x))
  | [], l0, w0, _, _, hw => ⟨l0, by rw [hw]; rfl, .inl rfl, by omega, .inl rfl, fun x hx => by cases hx⟩
  | y :: L, l0, w0, hp, h0, hw => by
    rw [List.pairwise_cons] at hp
    by_cases hno : w0 ≤ badOf t y
    · have e : better t (some (l0, w0)) y = some (l0, w0) := by unfold better; rw [if_pos (by simpa [PSt.no] using hno)]
      rw [List.foldl_cons, e]
      obtain ⟨l, a1, a2, a3, a4, a5⟩ := best_of hp.2 (fun x hx => h0 x (List.mem_cons_of_mem _ hx)) hw
      refine ⟨l, a1, a2.imp id (List.mem_cons_of_mem _), a3, a4, fun x hx => ?_⟩
      rcases List.mem_cons.1 hx with rfl | hx
      · rcases a4 with rfl | h
        · by_cases e1 : badOf t l = badOf t x
          · exact .inr ⟨e1, .inr (h0 x List.mem_cons_self)⟩
          · left; omega
        · left; omega
      · exact a5 x hx
    · have e : better t (some (l0, w0)) y = some (y, badOf t y) := by unfold better; rw [if_neg (by simpa [PSt.no] using hno)]
      rw [List.foldl_cons, e]
      obtain ⟨l, a1, a2, a3, a4, a5⟩ := best_of hp.2 hp.1 rfl
      refine ⟨l, a1, .inr (by rcases a2 with rfl | h <;> simp_all), by omega, .inr (by omega), fun x hx => ?_⟩
      rcases List.mem_cons.1 hx with rfl | hx
      · rcases a4 with rfl | h
        · exact .inr ⟨rfl, .inl rfl⟩
        · exact .inl h
      · exact a5 x hx
theorem best_none {t : Task} {R : List Int → List Int → Prop} {L : List (List Int)} (hp : L.Pairwise R) :
    (L = [] ∧ L.foldl (better t) none = none) ∨ ∃ l, L.foldl (better t) none = some (l, badOf t l) ∧ l ∈ L ∧ ∀ x ∈ L, badOf t l < badOf t x ∨ (badOf t l = badOf t x ∧ (x = l ∨ R l x)) := by
  cases L with
  | nil => exact .inl ⟨rfl, rfl⟩
  | cons y L =>
    right
    rw [List.pairwise_cons] at hp
    obtain ⟨l, a1, a2, a3, a4, a5⟩ := best_of (t := t) hp.2 hp.1 rfl
    refine ⟨l, by rw [List.foldl_cons]; exact a1, by rcases a2 with rfl | h <;> simp_all, fun x hx => ?_⟩
    rcases List.mem_cons.1 hx with rfl | hx
    · rcases a4 with rfl | h
      · exact .inr ⟨rfl, .inl rfl⟩
      · exact .inl h
    · exact a5 x hx
theorem lower_app {a x y : List Int} : lowerL (a ++ x) (a ++ y) = lowerL x y := by
  induction a with
  | nil => rfl
  | cons z a ih => simp only [List.cons_append, lowerL, if_true]; exact ih
theorem every_pre {t : Task} {hands : List Int} {n : Nat} {r x : List Int} (h : x ∈ everyP t hands n r) : ∃ y, x = r ++ y := by
  obtain ⟨_, h2, _⟩ := every_mem.1 h
  exact ⟨x.drop r.length, by conv => lhs; rw [← List.take_append_drop r.length x, h2]⟩
theorem every_sorted {t : Task} {hands : List Int} (hs : hands.Pairwise (· < ·)) : ∀ (n : Nat) (r : List Int), (everyP t hands n r).Pairwise (fun a b => lowerL a b = true)
  | 0, r => by simp [everyP]
  | n + 1, r => by
    simp only [everyP]
    rw [List.pairwise_flatMap]
    refine ⟨fun h hh => ?_, ?_⟩
    · split
      · exact every_sorted hs n _
      · exact List.Pairwise.nil
    · refine hs.imp fun {a b} hab x hx y hy => ?_
      split at hx
      · split at hy
        · obtain ⟨x', rfl⟩ := every_pre hx
          obtain ⟨y', rfl⟩ := every_pre hy
          rw [List.append_assoc, List.append_assoc, lower_app]
          simp only [List.singleton_append, lowerL]
          rw [if_neg (by omega)]
          simpa using hab
        · cases hy
      · cases hx
theorem lower_irr : ∀ {a b : List Int}, lowerL a b = true → lowerL b a = false
  | [], b, h => by cases b <;> cases h
  | x :: a, [], h => by cases h
  | x :: a, y :: b, h => by
    simp only [lowerL] at h ⊢
    by_cases e : x = y
    · subst e; rw [if_pos rfl] at h ⊢; exact lower_irr h
    · rw [if_neg e] at h
      rw [if_neg (Ne.symm e)]
      simp only [decide_eq_true_eq] at h
      simp; omega
theorem lower_self : ∀ {a : List Int}, lowerL a a = false
  | [] => rfl
  | x :: a => by simp only [lowerL, if_true]; exact lower_self
theorem allL_sorted (n : Nat) : (allL n).Pairwise (· < ·) := by
  unfold allL
  rw [List.pairwise_map]
  exact List.pairwise_lt_range.imp fun h => by omega
theorem allL_mem {n : Nat} {h : Int} : h ∈ allL n ↔ 0 ≤ h ∧ h < n := by
  unfold allL
  rw [List.mem_map]
  constructor
  · rintro ⟨i, hi, rfl⟩; have := List.mem_range.1 hi; omega
  · intro hh; exact ⟨h.toNat, List.mem_range.2 (by omega), by omega⟩
/-- What plan finds. -/
theorem planS_spec {t : Task} {hands : List Int} (k : TaskOk t) (hin : ∀ h ∈ hands, 0 ≤ h ∧ h < t.hands.length) (hs : hands.Pairwise (· < ·)) :
    (planS t hands = none ∧ everyP t hands t.parts.length [] = []) ∨ ∃ l, planS t hands = some (l, badOf t l) ∧ l ∈ everyP t hands t.parts.length [] ∧ ∀ x ∈ everyP t hands t.parts.length [], badOf t l < badOf t x ∨ (badOf t l = badOf t x ∧ lowerL x l = false) := by
  unfold planS
  rw [dfs_eq k hin (by simp) (rota_nil t)]
  rcases best_none (t := t) (every_sorted (t := t) hs t.parts.length []) with ⟨h1, h2⟩ | ⟨l, h1, h2, h3⟩
  · exact .inl ⟨h2, h1⟩
  · refine .inr ⟨l, h1, h2, fun x hx => (h3 x hx).imp id fun ⟨a, b⟩ => ⟨a, ?_⟩⟩
    rcases b with rfl | b
    · exact lower_self
    · exact lower_irr b
end Go.Proofs.Ytomkjfhepfinhaa

namespace Go.Proofs.Ytomkjfhepfinhaa

/-- A hand's row and rest behind some parts. -/
def stH (t : Task) (h : Int) : List Int → Int × Int → Int × Int
  | [], s => s
  | x :: xs, (row, rest) => stH t h xs (if x = h then (row + 1, 0) else (0, rest + 1))
theorem stH_snoc {t : Task} {h x : Int} : ∀ {b : List Int} {s : Int × Int}, stH t h (b ++ [x]) s = (if x = h then ((stH t h b s).1 + 1, 0) else (0, (stH t h b s).2 + 1))
  | [], (a, c) => by simp [stH]
  | y :: b, (a, c) => by simp only [List.cons_append, stH]; exact stH_snoc
theorem rightH_snoc {t : Task} {h x : Int} : ∀ {b : List Int} {row rest : Int}, rightH t h (b ++ [x]) row rest = (rightH t h b row rest && (if x = h then !decide (((stH t h b (row, rest)).1 = 0 ∧ (stH t h b (row, rest)).2 < t.rest) ∨ (stH t h b (row, rest)).1 = t.limit) else true))
  | [], row, rest => by
    simp only [List.nil_append, rightH, Bool.true_and]
    show _ = (if x = h then !decide ((row = 0 ∧ rest < t.rest) ∨ row = t.limit) else true)
    by_cases e : x = h
    · rw [if_pos e, if_pos e]
      by_cases e2 : (row = 0 ∧ rest < t.rest) ∨ row = t.limit
      · rw [if_pos e2, decide_eq_true e2]; rfl
      · rw [if_neg e2, decide_eq_false e2]; rfl
    · rw [if_neg e, if_neg e]
  | y :: b, row, rest => by
    simp only [List.cons_append, rightH, stH]
    by_cases e : y = h
    · simp only [if_pos e]
      split
      · simp
      · exact rightH_snoc
    · simp only [if_neg e]; exact rightH_snoc
theorem trail_snoc {h x : Int} {b : List Int} : trailTo h (b ++ [x]) (b ++ [x]).length = if x = h then trailTo h b b.length + 1 else 0 := by
  have e : (b ++ [x]).length = b.length + 1 := by simp
  rw [e, trailTo]
  have : (b ++ [x]).getD b.length 0 = x := by rw [getD_snoc, if_neg (by omega), if_pos rfl]
  rw [this]
  have key : ∀ i, i ≤ b.length → trailTo h (b ++ [x]) i = trailTo h b i := by
    intro i
    induction i with
    | zero => intro _; rfl
    | succ i ih => intro hi; rw [trailTo, trailTo, getD_app_l (by omega), ih (by omega)]
  rw [key _ (Nat.le_refl _)]
theorem last_snoc {h x : Int} {b : List Int} : lastTo h (b ++ [x]) (b ++ [x]).length = if x = h then (b.length : Int) else lastTo h b b.length := by
  have e : (b ++ [x]).length = b.length + 1 := by simp
  rw [e, lastTo]
  have : (b ++ [x]).getD b.length 0 = x := by rw [getD_snoc, if_neg (by omega), if_pos rfl]
  rw [this]
  have key : ∀ i, i ≤ b.length → lastTo h (b ++ [x]) i = lastTo h b i := by
    intro i
    induction i with
    | zero => intro _; rfl
    | succ i ih => intro hi; rw [lastTo, lastTo, getD_app_l (by omega), ih (by omega)]
  rw [key _ (Nat.le_refl _)]
theorem snoc_ind {p : List Int → Prop} (h0 : p []) (h1 : ∀ b x, p b → p (b ++ [x])) : ∀ b, p b := by
  intro b
  have : ∀ n (b : List Int), b.length = n → p b := by
    intro n
    induction n with
    | zero => intro b hb; rw [List.length_eq_zero_iff.1 hb]; exact h0
    | succ n ih =>
      intro b hb
      have hne : b ≠ [] := by intro e; subst e; simp at hb
      rw [← List.dropLast_concat_getLast hne]
      exact h1 _ _ (ih _ (by simp; omega))
  exact this _ b rfl
theorem stH_eq {t : Task} {h : Int} : ∀ (b : List Int), (stH t h b (0, t.rest)).1 = trailTo h b b.length ∧ (stH t h b (0, t.rest)).2 = if lastTo h b b.length < 0 then t.rest + b.length else (b.length : Int) - 1 - lastTo h b b.length := by
  refine snoc_ind ⟨rfl, by simp [stH, lastTo]⟩ fun b x ih => ?_
  rw [stH_snoc, trail_snoc, last_snoc]
  by_cases e : x = h
  · simp only [if_pos e]
    refine ⟨by rw [ih.1]; simp, ?_⟩
    rw [if_neg (by omega)]; simp
  · simp only [if_neg e]
    refine ⟨by simp, ?_⟩
    rw [ih.2]
    split <;> simp <;> omega
theorem trail_last {h : Int} {b : List Int} (h0 : 0 < b.length) : (0 < trailTo h b b.length ↔ lastTo h b b.length = (b.length : Int) - 1) := by
  obtain ⟨n, hn⟩ : ∃ n, b.length = n + 1 := ⟨b.length - 1, by omega⟩
  rw [hn, trailTo, lastTo]
  have := lastTo_bd h b n
  by_cases e : b.getD n 0 = h
  · rw [if_pos e, if_pos e]; constructor <;> intro <;> omega
  · rw [if_neg e, if_neg e]; constructor <;> intro <;> omega
/-- The row of a hand at the end of a right rota. -/
theorem right_trail {t : Task} {h : Int} (h1 : 1 ≤ t.limit) : ∀ (b : List Int), rightH t h b 0 t.rest = true → (trailTo h b b.length : Int) ≤ t.limit := by
  refine snoc_ind (fun _ => by simp [trailTo]; omega) fun b x ih hr => ?_
  rw [rightH_snoc, Bool.and_eq_true] at hr
  have := ih hr.1
  rw [trail_snoc]
  by_cases e : x = h
  · rw [if_pos e]
    have h2 := hr.2
    rw [if_pos e, (stH_eq b).1] at h2
    simp only [Bool.not_eq_true', decide_eq_false_iff_not] at h2
    omega
  · rw [if_neg e]; omega
theorem step_follows {t : Task} {b : List Int} {x : Int} (h1 : 1 ≤ t.limit) (h2 : 1 ≤ t.rest) (hr : rightH t x b 0 t.rest = true) : rightH t x (b ++ [x]) 0 t.rest = followsP t b x := by
  rw [rightH_snoc, hr, Bool.true_and, if_pos rfl, (stH_eq b).1, (stH_eq b).2]
  have hb := lastTo_bd x b b.length
  have ht := right_trail (h := x) h1 b hr
  unfold followsP
  by_cases hb0 : b.length = 0
  · have e0 : b = [] := List.length_eq_zero_iff.1 hb0
    subst e0
    have e1 : trailTo x [] ([] : List Int).length = 0 := rfl
    have e2 : lastTo x [] ([] : List Int).length = -1 := rfl
    have h3 : ¬ (0 ≤ (-1 : Int) ∧ 0 < ((([] : List Int).length : Nat) : Int) - 1 - -1) := by simp
    rw [e1, e2, if_pos (show (-1 : Int) < 0 by omega), if_neg h3, Bool.eq_iff_iff]
    simp only [Bool.not_eq_true', decide_eq_false_iff_not, decide_eq_true_eq, List.length_nil]
    omega
  · have htl := trail_last (h := x) (b := b) (by omega)
    by_cases hc : 0 ≤ lastTo x b b.length ∧ 0 < (b.length : Int) - 1 - lastTo x b b.length
    · rw [if_pos hc, if_neg (by omega)]
      have : trailTo x b b.length = 0 := by
        rcases Nat.eq_zero_or_pos (trailTo x b b.length) with h | h
        · exact h
        · have := htl.1 h; omega
      rw [this, Bool.eq_iff_iff]
      simp only [Bool.not_eq_true', decide_eq_false_iff_not, decide_eq_true_eq]
      omega
    · rw [if_neg hc, Bool.eq_iff_iff]
      simp only [Bool.not_eq_true', decide_eq_false_iff_not, decide_eq_true_eq]
      split
      · have : trailTo x b b.length = 0 := by
          rcases Nat.eq_zero_or_pos (trailTo x b b.length) with h | h
          · exact h
          · have := htl.1 h; omega
        rw [this]
        omega
      · have := htl.2 (by omega)
        omega
theorem isRight_all {t : Task} {r : List Int} : isRight t r = true ↔ ∀ h : Int, 0 ≤ h → h < t.hands.length → rightH t h r 0 t.rest = true := by
  unfold isRight
  rw [List.all_eq_true]
  constructor
  · intro h x hx0 hx
    have := h x.toNat (List.mem_range.2 (by omega))
    rwa [show ((x.toNat : Nat) : Int) = x by omega] at this
  · intro h x hx
    exact h x (by omega) (by have := List.mem_range.1 hx; omega)
theorem isRight_snoc {t : Task} {b : List Int} {x : Int} (k : TaskOk t) (hx : 0 ≤ x ∧ x < t.hands.length) : isRight t (b ++ [x]) = (isRight t b && followsP t b x) := by
  have k1 := k.lim
  have k2 := k.rest
  rw [Bool.eq_iff_iff, Bool.and_eq_true, isRight_all, isRight_all]
  constructor
  · intro h
    have hb : ∀ h' : Int, 0 ≤ h' → h' < t.hands.length → rightH t h' b 0 t.rest = true := fun h' a b' => by
      have := h h' a b'
      rw [rightH_snoc, Bool.and_eq_true] at this
      exact this.1
    exact ⟨hb, by rw [← step_follows (by omega) (by omega) (hb x hx.1 hx.2)]; exact h x hx.1 hx.2⟩
  · rintro ⟨h1, h2⟩ h' a b'
    by_cases e : x = h'
    · subst e
      rw [step_follows (by omega) (by omega) (h1 x a b')]; exact h2
    · rw [rightH_snoc, if_neg e, h1 h' a b']; rfl
theorem rightP_snoc {t : Task} {b : List Int} {x : Int} : rightP t (b ++ [x]) = (rightP t b && followsP t b x) := by
  unfold rightP rightTo
  rw [show (b ++ [x]).length = b.length + 1 by simp, List.range_succ, List.all_append, List.all_cons, List.all_nil, Bool.and_true]
  congr 1
  · rw [Bool.eq_iff_iff, List.all_eq_true, List.all_eq_true]
    have : ∀ j, j < b.length → followsP t ((b ++ [x]).take j) ((b ++ [x]).getD j 0) = followsP t (b.take j) (b.getD j 0) := fun j hj => by
      rw [getD_app_l hj, List.take_append_of_le_length (by omega)]
    constructor
    · intro h j hj; rw [← this j (List.mem_range.1 hj)]; exact h j hj
    · intro h j hj; rw [this j (List.mem_range.1 hj)]; exact h j hj
  · rw [List.take_left', getD_snoc, if_neg (by omega), if_pos rfl]
    rfl
theorem rightP_eq {t : Task} (k : TaskOk t) : ∀ (b : List Int), (∀ i, i < b.length → 0 ≤ b.getD i 0 ∧ b.getD i 0 < t.hands.length) → rightP t b = isRight t b := by
  refine snoc_ind (fun _ => by
    have : isRight t [] = true := isRight_all.2 fun h _ _ => rfl
    rw [this]; rfl) fun b x ih hb => ?_
  have hx := hb b.length (by simp)
  rw [getD_snoc, if_neg (by omega), if_pos rfl] at hx
  rw [rightP_snoc, isRight_snoc k hx, ih fun i hi => by have := hb i (by simp; omega); rwa [getD_app_l hi] at this]
/-- The rotas of the search are the right ones. -/
theorem every_right {t : Task} {x : List Int} (k : TaskOk t) : x ∈ everyP t (allL t.hands.length) t.parts.length [] ↔ isRota t x = true ∧ isRight t x = true := by
  rw [every_mem]
  simp only [List.length_nil, List.take_zero, true_and, Nat.zero_add, Nat.zero_le, forall_const, allL_mem]
  have hro : isRota t x = true ↔ x.length = t.parts.length ∧ ∀ j, j < x.length → 0 ≤ x.getD j 0 ∧ x.getD j 0 < t.hands.length := by
    unfold isRota
    rw [Bool.and_eq_true, all_getD2 (0 : Int)]
    simp only [decide_eq_true_eq]
    constructor
    · rintro ⟨a, b⟩; exact ⟨b, fun j hj => by have := a j hj; omega⟩
    · rintro ⟨a, b⟩; exact ⟨fun j hj => by have := b j hj; omega, a⟩
  rw [hro]
  constructor
  · rintro ⟨a, b⟩
    refine ⟨⟨a, fun j hj => (b j hj).1⟩, ?_⟩
    rw [← rightP_eq k x fun j hj => (b j hj).1]
    unfold rightP rightTo
    rw [List.all_eq_true]
    exact fun j hj => (b j (List.mem_range.1 hj)).2
  · rintro ⟨⟨a, b⟩, c⟩
    rw [← rightP_eq k x b] at c
    unfold rightP rightTo at c
    rw [List.all_eq_true] at c
    exact ⟨a, fun j hj => ⟨b j hj, c j (List.mem_range.2 hj)⟩⟩
end Go.Proofs.Ytomkjfhepfinhaa

namespace Go.Proofs.Ytomkjfhepfinhaa
open Go.RowKit

theorem same_step {a b : List Int} {i : Nat} (hl : a.length = b.length) (hi : i < a.length) (h : a.take i = b.take i) (e : a.getD i 0 = b.getD i 0) : a.take (i + 1) = b.take (i + 1) := by
  have hb : i < b.length := by omega
  rw [List.take_add_one, List.take_add_one, h]
  simp only [List.getD, List.getElem?_eq_getElem hi, List.getElem?_eq_getElem hb, Option.getD_some] at e
  rw [List.getElem?_eq_getElem hi, List.getElem?_eq_getElem hb, e]
set_option maxHeartbeats 4000000 in
set_option maxRecDepth 100000 in
theorem sameInts_ok (z e z2 e2 : Bool) (a b : List Int) (h1 : a.length ≤ 1000000) : ACall Try.prog 33 [aInts z e a, aInts z2 e2 b] [] (fun r h => r = .bool (decide (a = b)) ∧ h = []) := by
  (refine fcall_of mixed Try.func33 rfl (by decide) (hs := {}) ?k (ac := ?ac) ?c (rs := ?rs) ?r ?l ?H; (case k => kernel_rfl); (case c => (conv => (lhs; cbv))); (case r => (conv => (lhs; cbv))); (case l => exact Nat.le_of_ble_eq_true rfl))
  (repeat' ((try (conv => whnf)); first | (with_reducible first | refine FCond.tA ?_ | refine FCond.fA ?_) | ((with_reducible refine FCond.i (fun hq => ?_) (fun hq => ?_)) <;> (try simp only [zA, zE, zD, zJ, zB, zI, Int.not_le, Int.not_lt] at hq)) | (with_reducible first | refine Fits.in64 (by omega) ?_ | refine FIdx.nat (by omega) ?_ | refine FIdx.int (by omega) ?_ | refine FTo.nat (by omega) ?_ | refine FTo.int (by omega) ?_) | ((with_reducible refine Need.mk ?_ ?_); focus exact needA) | (with_reducible refine FApp.grow ?_)))
  all_goals (try (conv => whnf))
  · (refine ⟨⟨_, [], [], Cut.nil _, Ln.sameB _ rfl, ?_, rfl⟩⟩)
    rw [decide_eq_false fun h => hq (by rw [h])]
  · have hl : a.length = b.length := by omega
    refine FLoop.of (ACalls.mono _) (X := Nat) (fun i => [(0, aInts z e a), (1, aInts z2 e2 b), (5, AI i)]) (fun _ => []) (fun i => i ≤ a.length ∧ a.take i = b.take i) (fun i => a.length - i) 0 ⟨⟨by omega, rfl⟩, [], Cut.nil _, by exact allA⟩ ?_
    rintro i ⟨hi, hL⟩
    by_cases hlt : i < a.length
    · (repeat' ((try (conv => whnf)); first | (with_reducible first | refine FCond.tA ?_ | refine FCond.fA ?_) | ((with_reducible refine FCond.i (fun hq => ?_) (fun hq => ?_)) <;> (try simp only [zA, zE, zD, zJ, zB, zI, Int.not_le, Int.not_lt] at hq)) | (with_reducible first | refine Fits.in64 (by omega) ?_ | refine FIdx.nat (by omega) ?_ | refine FIdx.int (by omega) ?_ | refine FTo.nat (by omega) ?_ | refine FTo.int (by omega) ?_) | ((with_reducible refine Need.mk ?_ ?_); focus exact needA) | (with_reducible refine FApp.grow ?_)))
      all_goals (try (conv => whnf))
      · (refine ⟨⟨_, [], [], Cut.nil _, Ln.sameB _ rfl, ?_, rfl⟩⟩)
        rw [decide_eq_false fun h => hq (by rw [h])]
      · (refine ⟨⟨(i + 1), ?inv, ?mu, [], Cut.nil _, allA⟩⟩)
        case inv => exact ⟨by omega, same_step hl hlt hL hq⟩
        case mu => show _ < _; omega
    · (repeat' ((try (conv => whnf)); first | (with_reducible first | refine FCond.tA ?_ | refine FCond.fA ?_) | ((with_reducible refine FCond.i (fun hq => ?_) (fun hq => ?_)) <;> (try simp only [zA, zE, zD, zJ, zB, zI, Int.not_le, Int.not_lt] at hq)) | (with_reducible first | refine Fits.in64 (by omega) ?_ | refine FIdx.nat (by omega) ?_ | refine FIdx.int (by omega) ?_ | refine FTo.nat (by omega) ?_ | refine FTo.int (by omega) ?_) | ((with_reducible refine Need.mk ?_ ?_); focus exact needA) | (with_reducible refine FApp.grow ?_)))
      (try (conv => whnf))
      (refine ⟨⟨_, [], [], Cut.nil _, Ln.sameB _ rfl, ?_, rfl⟩⟩)
      rw [List.take_of_length_le (by omega), List.take_of_length_le (by omega)] at hL
      rw [decide_eq_true hL]
def farP (t : Task) : Bool := decide (20 < t.hands.length ∨ 20 < t.parts.length ∨ (t.check = 0 ∧ 6 < t.parts.length))
def validP (t : Task) : Bool := decide (t.hands.length ≤ 20 ∧ t.parts.length ≤ 6 ∧ t.ok = true)
theorem check_iff {t : Task} : t.check = 0 ↔ t.ok = true := by
  constructor
  · intro h
    by_cases e : t.ok = true
    · exact e
    · rw [check_40 e] at h; cases h
  · exact check_0
set_option maxHeartbeats 4000000 in
set_option maxRecDepth 100000 in
theorem far_ok (f : TFl) (t : Task) : ACall Try.prog 27 [aTask f t] [] (fun r h => r = .bool (farP t) ∧ h = []) := by
  (refine fcall_of mixed Try.func27 rfl (by decide) (hs := {}) ?k (ac := ?ac) ?c (rs := ?rs) ?r ?l ?H; (case k => kernel_rfl); (case c => (conv => (lhs; cbv))); (case r => (conv => (lhs; cbv))); (case l => exact Nat.le_of_ble_eq_true rfl))
  (repeat' ((try (conv => whnf)); first | (with_reducible first | refine FCond.tA ?_ | refine FCond.fA ?_) | ((with_reducible refine FCond.i (fun hq => ?_) (fun hq => ?_)) <;> (try simp only [zA, zE, zD, zJ, zB, zI, Int.not_le, Int.not_lt] at hq)) | (with_reducible first | refine Fits.in64 (by omega) ?_ | refine FIdx.nat (by omega) ?_ | refine FIdx.int (by omega) ?_ | refine FTo.nat (by omega) ?_ | refine FTo.int (by omega) ?_) | ((with_reducible refine Need.mk ?_ ?_); focus exact needA) | (with_reducible refine FApp.grow ?_) | (refine FCall.pure ((refCheck_ok _ _ (by omega) (by omega))) ⟨Ln.sameB _ rfl, True.intro⟩ rfl ?_)))
  all_goals (try (conv => whnf))
  all_goals
    (refine ⟨⟨_, [], [], Cut.nil _, Ln.sameB _ rfl, ?_, rfl⟩⟩)
    refine congrArg AV.bool ?_
    unfold farP
    rw [Bool.eq_iff_iff]
    simp only [decide_eq_true_eq, Bool.false_eq_true, true_iff, false_iff]
    omega
set_option maxHeartbeats 4000000 in
set_option maxRecDepth 100000 in
theorem valid_ok (f : TFl) (t : Task) : ACall Try.prog 11 [aTask f t] [] (fun r h => r = .bool (validP t) ∧ h = []) := by
  have hF : farP t = false → t.hands.length ≤ 20 ∧ t.parts.length ≤ 20 ∧ (t.ok = true → t.parts.length ≤ 6) := fun h => by
    unfold farP at h
    simp only [decide_eq_false_iff_not] at h
    refine ⟨by omega, by omega, fun hk => ?_⟩
    by_cases e : 6 < t.parts.length
    · exact absurd (.inr (.inr ⟨check_0 hk, e⟩)) h
    · omega
  have hV : farP t = true → validP t = false := fun h => by
    unfold farP at h
    unfold validP
    simp only [decide_eq_true_eq, decide_eq_false_iff_not] at h ⊢
    rintro ⟨h1, h2, h3⟩
    have := check_0 h3
    omega
  (refine fcall_of mixed Try.func11 rfl (by decide) (hs := {}) ?k (ac := ?ac) ?c (rs := ?rs) ?r ?l ?H; (case k => kernel_rfl); (case c => (conv => (lhs; cbv))); (case r => (conv => (lhs; cbv))); (case l => exact Nat.le_of_ble_eq_true rfl))
  cases hf : farP t
  · obtain ⟨f1, f2, f3⟩ := hF hf
    have hcon := far_ok f t
    rw [hf] at hcon
    (repeat' ((try (conv => whnf)); first | (with_reducible first | refine FCond.tA ?_ | refine FCond.fA ?_) | ((with_reducible refine FCond.i (fun hq => ?_) (fun hq => ?_)) <;> (try simp only [zA, zE, zD, zJ, zB, zI, Int.not_le, Int.not_lt] at hq)) | (with_reducible first | refine Fits.in64 (by omega) ?_ | refine FIdx.nat (by omega) ?_ | refine FIdx.int (by omega) ?_ | refine FTo.nat (by omega) ?_ | refine FTo.int (by omega) ?_) | ((with_reducible refine Need.mk ?_ ?_); focus exact needA) | (with_reducible refine FApp.grow ?_) | (refine FCall.pure (hcon) ⟨Ln.sameB _ rfl, True.intro⟩ rfl ?_) | (refine FCall.pure ((refCheck_ok _ _ (by omega) (by omega))) ⟨Ln.sameB _ rfl, True.intro⟩ rfl ?_)))
    all_goals (try (conv => whnf))
    all_goals
      (refine ⟨⟨_, [], [], Cut.nil _, Ln.sameB _ rfl, ?_, rfl⟩⟩)
      refine congrArg AV.bool ?_
      unfold validP
      rw [Bool.eq_iff_iff]
      simp only [decide_eq_true_eq, check_iff]
      exact ⟨fun h => ⟨f1, f3 h, h⟩, fun h => h.2.2⟩
  · have hcon := far_ok f t
    rw [hf] at hcon
    (repeat' ((try (conv => whnf)); first | (with_reducible first | refine FCond.tA ?_ | refine FCond.fA ?_) | ((with_reducible refine FCond.i (fun hq => ?_) (fun hq => ?_)) <;> (try simp only [zA, zE, zD, zJ, zB, zI, Int.not_le, Int.not_lt] at hq)) | (with_reducible first | refine Fits.in64 (by omega) ?_ | refine FIdx.nat (by omega) ?_ | refine FIdx.int (by omega) ?_ | refine FTo.nat (by omega) ?_ | refine FTo.int (by omega) ?_) | ((with_reducible refine Need.mk ?_ ?_); focus exact needA) | (with_reducible refine FApp.grow ?_) | (refine FCall.pure (hcon) ⟨Ln.sameB _ rfl, True.intro⟩ rfl ?_)))
    all_goals (try (conv => whnf))
    all_goals
      (refine ⟨⟨_, [], [], Cut.nil _, Ln.sameB _ rfl, ?_, rfl⟩⟩)
      rw [hV hf]
end Go.Proofs.Ytomkjfhepfinhaa
