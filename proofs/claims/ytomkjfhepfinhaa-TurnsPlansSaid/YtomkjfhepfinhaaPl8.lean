/- Turns: slices.Compare; the program's Hands. / Turns: the reference's With. / Turns: the reference's Copy; what Plan gives. / Turns: the plan over some hands is the plan of the task with just these hands / Turns: with_plan: the worst mistakes of the plan over some hands are those of Plan of With / Turns: what Hands finds / Turns: the reference's members. / Turns: Hands of the reference. / Turns: the reference's plan is the program's -/
import Derived.Test.YtomkjfhepfinhaaPl7
set_option linter.unusedSimpArgs false
set_option linter.unusedVariables false
namespace Go.Proofs.Ytomkjfhepfinhaa
open Go.RowKit

def cmpL : List Int → List Int → Int
  | [], [] => 0
  | [], _ :: _ => -1
  | _ :: _, [] => 1
  | x :: xs, y :: ys => if cmpI x y ≠ 0 then cmpI x y else cmpL xs ys
theorem cmpL_lower : ∀ {a b : List Int}, a.length = b.length → (cmpL a b < 0 ↔ lowerL a b = true)
  | [], [], _ => by simp [cmpL, lowerL]
  | [], _ :: _, h => by simp at h
  | _ :: _, [], h => by simp at h
  | x :: xs, y :: ys, h => by
    have ih := cmpL_lower (a := xs) (b := ys) (by simpa using h)
    rw [cmpL, lowerL]
    unfold cmpI
    by_cases e : x = y
    · subst e
      rw [if_pos rfl, if_neg (Int.lt_irrefl _), if_neg (Int.lt_irrefl _), if_neg (fun h => h rfl)]; exact ih
    · rw [if_neg e]
      by_cases g : x < y
      · rw [if_pos g]; simp [g]
      · rw [if_neg g, if_pos (by omega)]; simp; omega
set_option maxHeartbeats 4000000 in
set_option maxRecDepth 100000 in
theorem compare_ok (z e z2 e2 : Bool) (a b : List Int) (ha : a.length ≤ 1000) (hb : b.length ≤ 1000) : ACall Try.prog 61 [aInts z e a, aInts z2 e2 b] [] (fun r h => r = AI (cmpL a b) ∧ h = []) := by
  (refine fcall_of mixed Try.func61 rfl (by decide) (hs := {}) ?k (ac := ?ac) ?c (rs := ?rs) ?r ?l ?H; (case k => kernel_rfl); (case c => (conv => (lhs; cbv))); (case r => (conv => (lhs; cbv))); (case l => exact Nat.le_of_ble_eq_true rfl))
  (repeat' ((try (conv => whnf)); first | (with_reducible first | refine FCond.tA ?_ | refine FCond.fA ?_) | ((with_reducible refine FCond.i (fun hq => ?_) (fun hq => ?_)) <;> (try simp only [zA, zE, zD, zJ, zB, zI, Int.not_le, Int.not_lt] at hq)) | (with_reducible first | refine Fits.in64 (by omega) ?_ | refine FIdx.nat (by omega) ?_ | refine FIdx.int (by omega) ?_ | refine FTo.nat (by omega) ?_ | refine FTo.int (by omega) ?_) | ((with_reducible refine Need.mk ?_ ?_); focus exact needA) | (with_reducible refine FApp.grow ?_)))
  (try (conv => whnf))
  refine FLoop.of (ACalls.mono _) (X := Nat) (fun i => [(0, aInts z e a), (1, aInts z2 e2 b), (9, aInts z e a), (10, AI a.length), (11, AI i)]) (fun _ => []) (fun i => i ≤ a.length ∧ i ≤ b.length ∧ cmpL a b = cmpL (a.drop i) (b.drop i)) (fun i => a.length - i) 0 ⟨⟨by omega, by omega, rfl⟩, [], Cut.nil _, by exact allA⟩ ?_
  rintro i ⟨hi, hi2, hL⟩
  by_cases hlt : i < a.length
  · by_cases hlt2 : i < b.length
    · rw [drop_eq 0 hlt, drop_eq 0 hlt2, cmpL] at hL
      (repeat' ((try (conv => whnf)); first | (with_reducible first | refine FCond.tA ?_ | refine FCond.fA ?_) | ((with_reducible refine FCond.i (fun hq => ?_) (fun hq => ?_)) <;> (try simp only [zA, zE, zD, zJ, zB, zI, Int.not_le, Int.not_lt] at hq)) | (with_reducible first | refine Fits.in64 (by omega) ?_ | refine FIdx.nat (by omega) ?_ | refine FIdx.int (by omega) ?_ | refine FTo.nat (by omega) ?_ | refine FTo.int (by omega) ?_) | ((with_reducible refine Need.mk ?_ ?_); focus exact needA) | (with_reducible refine FApp.grow ?_) | (refine FCall.pure ((cmpI_ok _ _)) ⟨Ln.sameB _ rfl, Ln.sameB _ rfl, True.intro⟩ rfl ?_)))
      all_goals (try (conv => whnf))
      · (refine ⟨⟨_, [], [], Cut.nil _, Ln.sameB _ rfl, ?_, rfl⟩⟩)
        rw [hL, if_pos hq]
      · (refine ⟨⟨(i + 1), ?inv, ?mu, [], Cut.nil _, allA⟩⟩)
        case inv => exact ⟨by omega, by omega, by rw [hL, if_neg (fun h => h hq)]⟩
        case mu => show _ < _; omega
    · rw [drop_eq 0 hlt, List.drop_eq_nil_of_le (by omega : b.length ≤ i), cmpL] at hL
      (repeat' ((try (conv => whnf)); first | (with_reducible first | refine FCond.tA ?_ | refine FCond.fA ?_) | ((with_reducible refine FCond.i (fun hq => ?_) (fun hq => ?_)) <;> (try simp only [zA, zE, zD, zJ, zB, zI, Int.not_le, Int.not_lt] at hq)) | (with_reducible first | refine Fits.in64 (by omega) ?_ | refine FIdx.nat (by omega) ?_ | refine FIdx.int (by omega) ?_ | refine FTo.nat (by omega) ?_ | refine FTo.int (by omega) ?_) | ((with_reducible refine Need.mk ?_ ?_); focus exact needA) | (with_reducible refine FApp.grow ?_)))
      all_goals (try (conv => whnf))
      (refine ⟨⟨_, [], [], Cut.nil _, Ln.sameB _ rfl, ?_, rfl⟩⟩)
      rw [hL]
  · rw [List.drop_eq_nil_of_le (by omega : a.length ≤ i)] at hL
    (repeat' ((try (conv => whnf)); first | (with_reducible first | refine FCond.tA ?_ | refine FCond.fA ?_) | ((with_reducible refine FCond.i (fun hq => ?_) (fun hq => ?_)) <;> (try simp only [zA, zE, zD, zJ, zB, zI, Int.not_le, Int.not_lt] at hq)) | (with_reducible first | refine Fits.in64 (by omega) ?_ | refine FIdx.nat (by omega) ?_ | refine FIdx.int (by omega) ?_ | refine FTo.nat (by omega) ?_ | refine FTo.int (by omega) ?_) | ((with_reducible refine Need.mk ?_ ?_); focus exact needA) | (with_reducible refine FApp.grow ?_)))
    all_goals (try (conv => whnf))
    · (refine ⟨⟨_, [], [], Cut.nil _, Ln.sameB _ rfl, ?_, rfl⟩⟩)
      rw [drop_eq 0 (by omega), cmpL] at hL
      rw [hL]
    · (refine ⟨⟨_, [], [], Cut.nil _, Ln.sameB _ rfl, ?_, rfl⟩⟩)
      rw [List.drop_eq_nil_of_le (by omega), cmpL] at hL
      rw [hL]
/-- The hands of a set. -/
def setL (n s : Nat) : List Int := (allL n).filter (keepB s)
def betterP (L : List Int) (w : Int) : PSt → Bool
  | none => true
  | some (b, f) => decide (L.length < b.length) || (decide (b.length = L.length) && (if w = f then decide (cmpL L b < 0) else decide (w < f)))
/-- One set more. -/
def hstep (t : Task) (most : Int) (s : Nat) (st : PSt) : PSt :=
  match planS t (setL t.hands.length s) with
  | none => st
  | some (_, w) => if w ≤ most ∧ betterP (setL t.hands.length s) w st = true then some (setL t.hands.length s, w) else st
def hS (t : Task) (most : Int) : Nat → PSt
  | 0 => none
  | i + 1 => hstep t most i (hS t most i)
def handsE (t : Task) (most : Int) : List AV := if t.ok then (if most < 0 then [nilS, AI 1] else match hS t most (2 ^ t.hands.length) with | none => [nilS, AI 3] | some (l, _) => [aInts false false l, AI 0]) else [nilS, AI 40]
theorem setL_len (n s : Nat) : (setL n s).length ≤ n := by
  unfold setL
  have := List.length_filter_le (keepB s) (allL n)
  simpa [allL] using this
theorem setL_in (n s : Nat) : ∀ j, j < (setL n s).length → 0 ≤ (setL n s).getD j 0 ∧ (setL n s).getD j 0 < (n : Int) := fun j hj => by
  have hm : (setL n s).getD j 0 ∈ setL n s := by
    simp only [List.getD, List.getElem?_eq_getElem hj, Option.getD_some]; exact List.getElem_mem hj
  exact allL_mem.1 (List.mem_filter.1 hm |>.1)
theorem hS_bd (t : Task) (most : Int) : ∀ i, (hS t most i).ll.length ≤ t.hands.length
  | 0 => by simp [hS, PSt.ll]
  | i + 1 => by
    rw [hS, hstep]
    split
    · exact hS_bd t most i
    · split
      · exact setL_len _ _
      · exact hS_bd t most i
theorem hstep_none {t : Task} {most : Int} {s : Nat} {st : PSt} (hp : planS t (setL t.hands.length s) = none) : hstep t most s st = st := by
  rw [hstep, hp]
theorem hstep_big {t : Task} {most : Int} {s : Nat} {st : PSt} {l : List Int} {w : Int} (hp : planS t (setL t.hands.length s) = some (l, w)) (hw : ¬ w ≤ most) : hstep t most s st = st := by
  rw [hstep, hp]; exact if_neg fun h => hw h.1
theorem hstep_no {t : Task} {most : Int} {s : Nat} {st : PSt} {l : List Int} {w : Int} (hp : planS t (setL t.hands.length s) = some (l, w)) (hb : betterP (setL t.hands.length s) w st = false) : hstep t most s st = st := by
  rw [hstep, hp]; exact if_neg fun h => by rw [hb] at h; exact Bool.noConfusion h.2
theorem hstep_yes {t : Task} {most : Int} {s : Nat} {st : PSt} {l : List Int} {w : Int} (hp : planS t (setL t.hands.length s) = some (l, w)) (hw : w ≤ most) (hb : betterP (setL t.hands.length s) w st = true) : hstep t most s st = some (setL t.hands.length s, w) := by
  rw [hstep, hp]; exact if_pos ⟨hw, hb⟩
theorem better_gt {L b : List Int} {w f : Int} (h : b.length < L.length) : betterP L w (some (b, f)) = false := by
  show (decide (L.length < b.length) || (decide (b.length = L.length) && (if w = f then decide (cmpL L b < 0) else decide (w < f)))) = false
  rw [decide_eq_false (by omega : ¬ L.length < b.length), decide_eq_false (by omega : ¬ b.length = L.length)]; rfl
theorem better_lt {L b : List Int} {w f : Int} (h : L.length < b.length) : betterP L w (some (b, f)) = true := by
  show (decide (L.length < b.length) || (decide (b.length = L.length) && (if w = f then decide (cmpL L b < 0) else decide (w < f)))) = true
  rw [decide_eq_true h]; rfl
theorem better_eq {L b : List Int} {w f : Int} (h : b.length = L.length) (e : w = f) : betterP L w (some (b, f)) = decide (cmpL L b < 0) := by
  show (decide (L.length < b.length) || (decide (b.length = L.length) && (if w = f then decide (cmpL L b < 0) else decide (w < f)))) = _
  rw [decide_eq_false (by omega : ¬ L.length < b.length), decide_eq_true h, if_pos e]; rfl
theorem better_ne {L b : List Int} {w f : Int} (h : b.length = L.length) (e : ¬ w = f) : betterP L w (some (b, f)) = decide (w < f) := by
  show (decide (L.length < b.length) || (decide (b.length = L.length) && (if w = f then decide (cmpL L b < 0) else decide (w < f)))) = _
  rw [decide_eq_false (by omega : ¬ L.length < b.length), decide_eq_true h, if_neg e]; rfl
set_option maxHeartbeats 8000000 in
set_option maxRecDepth 100000 in
theorem hands_ok (f : TFl) (t : Task) (most : Int) (h1 : t.hands.length ≤ 1000000) (h2 : t.parts.length ≤ 1000000) : ACall Try.prog 34 [aTask f t, AI most] [] (fun v h => v = .tup 2 (ofL (handsE t most)) ∧ h = []) := by
  have cC := check_ok f t h1 h2
  (refine fcall_of mixed Try.func34 rfl (by decide) (hs := { pub := [7, 12, 13] }) ?k (ac := ?ac) ?c (rs := ?rs) ?r ?l ?H; (case k => kernel_rfl); (case c => (conv => (lhs; cbv))); (case r => (conv => (lhs; cbv))); (case l => exact Nat.le_of_ble_eq_true rfl))
  by_cases hok : t.ok = true
  case neg =>
    rw [check_40 hok] at cC
    (repeat' ((try (conv => whnf)); first | (with_reducible first | refine FCond.tA ?_ | refine FCond.fA ?_) | ((with_reducible refine FCond.i (fun hq => ?_) (fun hq => ?_)) <;> (try simp only [zA, zE, zD, zJ, zB, zI, Int.not_le, Int.not_lt] at hq)) | (with_reducible first | refine Fits.in64 (by omega) ?_ | refine FIdx.nat (by omega) ?_ | refine FIdx.int (by omega) ?_ | refine FTo.nat (by omega) ?_ | refine FTo.int (by omega) ?_) | ((with_reducible refine Need.mk ?_ ?_); focus exact needA) | (with_reducible refine FApp.grow ?_) | (refine FCall.pure (cC) ⟨Ln.sameB _ rfl, True.intro⟩ rfl ?_)))
    all_goals (try (conv => whnf))
    all_goals ((refine ⟨⟨_, [], [], Cut.nil _, Ln.sameB _ rfl, ?_, rfl⟩⟩); unfold handsE; rw [if_neg hok]; rfl)
  rw [check_0 hok] at cC
  by_cases hm : most < 0
  · (repeat' ((try (conv => whnf)); first | (with_reducible first | refine FCond.tA ?_ | refine FCond.fA ?_) | ((with_reducible refine FCond.i (fun hq => ?_) (fun hq => ?_)) <;> (try simp only [zA, zE, zD, zJ, zB, zI, Int.not_le, Int.not_lt] at hq)) | (with_reducible first | refine Fits.in64 (by omega) ?_ | refine FIdx.nat (by omega) ?_ | refine FIdx.int (by omega) ?_ | refine FTo.nat (by omega) ?_ | refine FTo.int (by omega) ?_) | ((with_reducible refine Need.mk ?_ ?_); focus exact needA) | (with_reducible refine FApp.grow ?_) | (refine FCall.pure (cC) ⟨Ln.sameB _ rfl, True.intro⟩ rfl ?_)))
    all_goals (try (conv => whnf))
    all_goals ((refine ⟨⟨_, [], [], Cut.nil _, Ln.sameB _ rfl, ?_, rfl⟩⟩); unfold handsE; rw [if_pos hok, if_pos hm]; rfl)
  have k := taskOk hok
  have k2 := k.hn
  have k3 := k.pn
  (repeat' ((try (conv => whnf)); first | (with_reducible first | refine FCond.tA ?_ | refine FCond.fA ?_) | ((with_reducible refine FCond.i (fun hq => ?_) (fun hq => ?_)) <;> (try simp only [zA, zE, zD, zJ, zB, zI, Int.not_le, Int.not_lt] at hq)) | (with_reducible first | refine Fits.in64 (by omega) ?_ | refine FIdx.nat (by omega) ?_ | refine FIdx.int (by omega) ?_ | refine FTo.nat (by omega) ?_ | refine FTo.int (by omega) ?_) | ((with_reducible refine Need.mk ?_ ?_); focus exact needA) | (with_reducible refine FApp.grow ?_) | (refine FCall.pure (cC) ⟨Ln.sameB _ rfl, True.intro⟩ rfl ?_)))
  (try (conv => whnf))
  refine FWk.of [(1, AI most), (2, .ptr 0 0), (7, pTask f t)] [.box 5 (cTask f t)] [0] Cut.A ⟨Ln.A, Ln.A, Ln.boxP (m := 5) (goneB rfl) rfl ⟨⟨⟨⟨⟨True.intro, Ln.sameB _ rfl⟩, Ln.sameB _ rfl⟩, Ln.sameB _ rfl⟩, Ln.sameB _ rfl⟩, Ln.sameB _ rfl⟩ rfl, True.intro⟩ ?_
  obtain ⟨P, hP, hP2, hP3⟩ : ∃ P : Nat, 2 ^ t.hands.length = P ∧ 1 * 2 ^ min ((t.hands.length : Int)).toNat IntKind.i64.bits = (P : Int) ∧ P ≤ 8 := by
    rcases (show t.hands.length = 1 ∨ t.hands.length = 2 ∨ t.hands.length = 3 by omega) with h | h | h <;> rw [h]
    · exact ⟨2, rfl, rfl, by decide⟩
    · exact ⟨4, rfl, rfl, by decide⟩
    · exact ⟨8, rfl, rfl, by decide⟩
  (repeat' ((try (conv => whnf)); first | (with_reducible first | refine FCond.tA ?_ | refine FCond.fA ?_) | ((with_reducible refine FCond.i (fun hq => ?_) (fun hq => ?_)) <;> (try simp only [zA, zE, zD, zJ, zB, zI, Int.not_le, Int.not_lt] at hq)) | (with_reducible first | refine Fits.in64 (by omega) ?_ | refine FIdx.nat (by omega) ?_ | refine FIdx.int (by omega) ?_ | refine FTo.nat (by omega) ?_ | refine FTo.int (by omega) ?_) | ((with_reducible refine Need.mk ?_ ?_); focus exact needA) | (with_reducible refine FApp.grow ?_)))
  (try (conv => whnf))
  refine FLoop.of (ACalls.mono _) (X := Nat × PSt) (fun x => [(1, AI most), (7, pTask f t), (8, x.2.l), (9, AI x.2.w), (29, AI P), (30, AI x.1)]) (fun _ => []) (fun x => x.1 ≤ P ∧ x.2 = hS t most x.1) (fun x => P - x.1) (0, none) ⟨⟨Nat.zero_le _, rfl⟩, [], Cut.nil _, by exact allA⟩ ?_
  rintro ⟨i, st⟩ ⟨hi, hst⟩
  change i ≤ P at hi
  change st = hS t most i at hst
  dsimp only
  by_cases hlt : i < P
  · have cA := all_ok f t (by omega)
    have la : (allL t.hands.length).length = t.hands.length := by simp [allL]
    have cD := delete_ok i (allL t.hands.length) (by omega) (by omega) (fun j hj => by rw [allL_get (by omega)]; omega)
    rw [la] at cD
    have hb := hS_bd t most i
    rw [← hst] at hb
    have hsl := setL_len t.hands.length i
    have cP := plan_ok f t false false (setL t.hands.length i) k (by omega) (setL_in t.hands.length i)
    (repeat' ((try (conv => whnf)); first | (with_reducible first | refine FCond.tA ?_ | refine FCond.fA ?_) | ((with_reducible refine FCond.i (fun hq => ?_) (fun hq => ?_)) <;> (try simp only [zA, zE, zD, zJ, zB, zI, Int.not_le, Int.not_lt] at hq)) | (with_reducible first | refine Fits.in64 (by omega) ?_ | refine FIdx.nat (by omega) ?_ | refine FIdx.int (by omega) ?_ | refine FTo.nat (by omega) ?_ | refine FTo.int (by omega) ?_) | ((with_reducible refine Need.mk ?_ ?_); focus exact needA) | (with_reducible refine FApp.grow ?_)))
    (try (conv => whnf))
    rcases st with _ | ⟨b, fw⟩
    · refine FWk.of [(1, AI most), (7, pTask f t), (8, aInts true false []), (9, AI 0), (29, AI P), (30, AI i), (10, iSet i)] [] [] Cut.A ⟨Ln.A, Ln.A, Ln.A, Ln.A, Ln.A, Ln.A, Ln.boxP (m := 1) (goneB rfl) rfl ⟨True.intro, Ln.sameB _ rfl⟩ rfl, True.intro⟩ ?_
      (repeat' ((try (conv => whnf)); first | (with_reducible first | refine FCond.tA ?_ | refine FCond.fA ?_) | ((with_reducible refine FCond.i (fun hq => ?_) (fun hq => ?_)) <;> (try simp only [zA, zE, zD, zJ, zB, zI, Int.not_le, Int.not_lt] at hq)) | (with_reducible first | refine Fits.in64 (by omega) ?_ | refine FIdx.nat (by omega) ?_ | refine FIdx.int (by omega) ?_ | refine FTo.nat (by omega) ?_ | refine FTo.int (by omega) ?_) | ((with_reducible refine Need.mk ?_ ?_); focus exact needA) | (with_reducible refine FApp.grow ?_) | ((refine FCall.give [] [] (cA) rfl rfl True.intro ⟨Ln.A, True.intro⟩ ?_); rintro _ _ ⟨rfl, rfl⟩; (refine ⟨by first | exact Nat.le_of_ble_eq_true rfl | omega, .inl rfl, ?_⟩)) | ((refine FCall.give [0] [] (cD) rfl rfl ⟨⟨_, rfl, trivial, LnB.A⟩, True.intro⟩ ⟨Ln.A, Ln.A, True.intro⟩ ?_); rintro _ _ ⟨rfl, rfl⟩; (refine ⟨by first | exact Nat.le_of_ble_eq_true rfl | omega, .inl rfl, ?_⟩))))
      (try (conv => whnf))
      refine FWk.of [(1, AI most), (7, pTask f t), (8, aInts true false []), (9, AI 0), (29, AI P), (30, AI i), (11, aInts false false (setL t.hands.length i))] [] [] Cut.A ⟨Ln.A, Ln.A, Ln.A, Ln.A, Ln.A, Ln.A, Ln.pubE (goneB rfl) rfl (Nat.le_refl _) rfl (fun _ _ _ _ => rfl), True.intro⟩ ?_

      rcases hp : planS t (setL t.hands.length i) with _ | ⟨l, w⟩
      · rw [hp] at cP
        replace cP : ACall Try.prog 40 [pTask f t, aInts false false (setL t.hands.length i)] [] (fun v h => v = .tup 3 (ofL [aInts true false [], AI 0, .bool false]) ∧ h = []) := cP
        (repeat' ((try (conv => whnf)); first | (with_reducible first | refine FCond.tA ?_ | refine FCond.fA ?_) | ((with_reducible refine FCond.i (fun hq => ?_) (fun hq => ?_)) <;> (try simp only [zA, zE, zD, zJ, zB, zI, Int.not_le, Int.not_lt] at hq)) | (with_reducible first | refine Fits.in64 (by omega) ?_ | refine FIdx.nat (by omega) ?_ | refine FIdx.int (by omega) ?_ | refine FTo.nat (by omega) ?_ | refine FTo.int (by omega) ?_) | ((with_reducible refine Need.mk ?_ ?_); focus exact needA) | (with_reducible refine FApp.grow ?_) | (refine FCall.pure (cP) ⟨Ln.sameB _ rfl, Ln.sameB _ rfl, True.intro⟩ rfl ?_) | (refine FCall.pure (cK) ⟨Ln.sameB _ rfl, Ln.sameB _ rfl, True.intro⟩ rfl ?_)))
        all_goals (try (conv => whnf))
        (exact ⟨⟨(i + 1, none), ⟨by show i + 1 ≤ P; omega, by show _ = hS t most (i + 1); rw [hS, ← hst, hstep_none hp]⟩, by show P - (i + 1) < P - i; omega, [], Cut.A, allA⟩⟩)
      · rw [hp] at cP
        replace cP : ACall Try.prog 40 [pTask f t, aInts false false (setL t.hands.length i)] [] (fun v h => v = .tup 3 (ofL [aInts false false l, AI w, .bool true]) ∧ h = []) := cP
        by_cases hw : w ≤ most
        · (repeat' ((try (conv => whnf)); first | (with_reducible first | refine FCond.tA ?_ | refine FCond.fA ?_) | ((with_reducible refine FCond.i (fun hq => ?_) (fun hq => ?_)) <;> (try simp only [zA, zE, zD, zJ, zB, zI, Int.not_le, Int.not_lt] at hq)) | (with_reducible first | refine Fits.in64 (by omega) ?_ | refine FIdx.nat (by omega) ?_ | refine FIdx.int (by omega) ?_ | refine FTo.nat (by omega) ?_ | refine FTo.int (by omega) ?_) | ((with_reducible refine Need.mk ?_ ?_); focus exact needA) | (with_reducible refine FApp.grow ?_) | (refine FCall.pure (cP) ⟨Ln.sameB _ rfl, Ln.sameB _ rfl, True.intro⟩ rfl ?_) | (refine FCall.pure (cK) ⟨Ln.sameB _ rfl, Ln.sameB _ rfl, True.intro⟩ rfl ?_)))
          all_goals (try (conv => whnf))
          (exact ⟨⟨(i + 1, some (setL t.hands.length i, w)), ⟨by show i + 1 ≤ P; omega, by show _ = hS t most (i + 1); rw [hS, ← hst, hstep_yes hp hw rfl]⟩, by show P - (i + 1) < P - i; omega, [], Cut.A, allA⟩⟩)
        · (repeat' ((try (conv => whnf)); first | (with_reducible first | refine FCond.tA ?_ | refine FCond.fA ?_) | ((with_reducible refine FCond.i (fun hq => ?_) (fun hq => ?_)) <;> (try simp only [zA, zE, zD, zJ, zB, zI, Int.not_le, Int.not_lt] at hq)) | (with_reducible first | refine Fits.in64 (by omega) ?_ | refine FIdx.nat (by omega) ?_ | refine FIdx.int (by omega) ?_ | refine FTo.nat (by omega) ?_ | refine FTo.int (by omega) ?_) | ((with_reducible refine Need.mk ?_ ?_); focus exact needA) | (with_reducible refine FApp.grow ?_) | (refine FCall.pure (cP) ⟨Ln.sameB _ rfl, Ln.sameB _ rfl, True.intro⟩ rfl ?_) | (refine FCall.pure (cK) ⟨Ln.sameB _ rfl, Ln.sameB _ rfl, True.intro⟩ rfl ?_)))
          all_goals (try (conv => whnf))
          (exact ⟨⟨(i + 1, none), ⟨by show i + 1 ≤ P; omega, by show _ = hS t most (i + 1); rw [hS, ← hst, hstep_big hp hw]⟩, by show P - (i + 1) < P - i; omega, [], Cut.A, allA⟩⟩)
    · change b.length ≤ t.hands.length at hb
      refine FWk.of [(1, AI most), (7, pTask f t), (8, aInts false false b), (9, AI fw), (29, AI P), (30, AI i), (10, iSet i)] [] [] Cut.A ⟨Ln.A, Ln.A, Ln.A, Ln.A, Ln.A, Ln.A, Ln.boxP (m := 1) (goneB rfl) rfl ⟨True.intro, Ln.sameB _ rfl⟩ rfl, True.intro⟩ ?_
      (repeat' ((try (conv => whnf)); first | (with_reducible first | refine FCond.tA ?_ | refine FCond.fA ?_) | ((with_reducible refine FCond.i (fun hq => ?_) (fun hq => ?_)) <;> (try simp only [zA, zE, zD, zJ, zB, zI, Int.not_le, Int.not_lt] at hq)) | (with_reducible first | refine Fits.in64 (by omega) ?_ | refine FIdx.nat (by omega) ?_ | refine FIdx.int (by omega) ?_ | refine FTo.nat (by omega) ?_ | refine FTo.int (by omega) ?_) | ((with_reducible refine Need.mk ?_ ?_); focus exact needA) | (with_reducible refine FApp.grow ?_) | ((refine FCall.give [] [] (cA) rfl rfl True.intro ⟨Ln.A, True.intro⟩ ?_); rintro _ _ ⟨rfl, rfl⟩; (refine ⟨by first | exact Nat.le_of_ble_eq_true rfl | omega, .inl rfl, ?_⟩)) | ((refine FCall.give [0] [] (cD) rfl rfl ⟨⟨_, rfl, trivial, LnB.A⟩, True.intro⟩ ⟨Ln.A, Ln.A, True.intro⟩ ?_); rintro _ _ ⟨rfl, rfl⟩; (refine ⟨by first | exact Nat.le_of_ble_eq_true rfl | omega, .inl rfl, ?_⟩))))
      (try (conv => whnf))
      refine FWk.of [(1, AI most), (7, pTask f t), (8, aInts false false b), (9, AI fw), (29, AI P), (30, AI i), (11, aInts false false (setL t.hands.length i))] [] [] Cut.A ⟨Ln.A, Ln.A, Ln.A, Ln.A, Ln.A, Ln.A, Ln.pubE (goneB rfl) rfl (Nat.le_refl _) rfl (fun _ _ _ _ => rfl), True.intro⟩ ?_

      by_cases l1 : b.length < (setL t.hands.length i).length
      · rcases hp : planS t (setL t.hands.length i) with _ | ⟨l, w⟩
        all_goals (repeat' ((try (conv => whnf)); first | (with_reducible first | refine FCond.tA ?_ | refine FCond.fA ?_) | ((with_reducible refine FCond.i (fun hq => ?_) (fun hq => ?_)) <;> (try simp only [zA, zE, zD, zJ, zB, zI, Int.not_le, Int.not_lt] at hq)) | (with_reducible first | refine Fits.in64 (by omega) ?_ | refine FIdx.nat (by omega) ?_ | refine FIdx.int (by omega) ?_ | refine FTo.nat (by omega) ?_ | refine FTo.int (by omega) ?_) | ((with_reducible refine Need.mk ?_ ?_); focus exact needA) | (with_reducible refine FApp.grow ?_) | (refine FCall.pure (cP) ⟨Ln.sameB _ rfl, Ln.sameB _ rfl, True.intro⟩ rfl ?_) | (refine FCall.pure (cK) ⟨Ln.sameB _ rfl, Ln.sameB _ rfl, True.intro⟩ rfl ?_)))
        all_goals (try (conv => whnf))
        · (exact ⟨⟨(i + 1, some (b, fw)), ⟨by show i + 1 ≤ P; omega, by show _ = hS t most (i + 1); rw [hS, ← hst, hstep_none hp]⟩, by show P - (i + 1) < P - i; omega, [], Cut.A, allA⟩⟩)
        · (exact ⟨⟨(i + 1, some (b, fw)), ⟨by show i + 1 ≤ P; omega, by show _ = hS t most (i + 1); rw [hS, ← hst, hstep_no hp (better_gt l1)]⟩, by show P - (i + 1) < P - i; omega, [], Cut.A, allA⟩⟩)
      rcases hp : planS t (setL t.hands.length i) with _ | ⟨l, w⟩
      · rw [hp] at cP
        replace cP : ACall Try.prog 40 [pTask f t, aInts false false (setL t.hands.length i)] [] (fun v h => v = .tup 3 (ofL [aInts true false [], AI 0, .bool false]) ∧ h = []) := cP
        (repeat' ((try (conv => whnf)); first | (with_reducible first | refine FCond.tA ?_ | refine FCond.fA ?_) | ((with_reducible refine FCond.i (fun hq => ?_) (fun hq => ?_)) <;> (try simp only [zA, zE, zD, zJ, zB, zI, Int.not_le, Int.not_lt] at hq)) | (with_reducible first | refine Fits.in64 (by omega) ?_ | refine FIdx.nat (by omega) ?_ | refine FIdx.int (by omega) ?_ | refine FTo.nat (by omega) ?_ | refine FTo.int (by omega) ?_) | ((with_reducible refine Need.mk ?_ ?_); focus exact needA) | (with_reducible refine FApp.grow ?_) | (refine FCall.pure (cP) ⟨Ln.sameB _ rfl, Ln.sameB _ rfl, True.intro⟩ rfl ?_) | (refine FCall.pure (cK) ⟨Ln.sameB _ rfl, Ln.sameB _ rfl, True.intro⟩ rfl ?_)))
        all_goals (try (conv => whnf))
        (exact ⟨⟨(i + 1, some (b, fw)), ⟨by show i + 1 ≤ P; omega, by show _ = hS t most (i + 1); rw [hS, ← hst, hstep_none hp]⟩, by show P - (i + 1) < P - i; omega, [], Cut.A, allA⟩⟩)
      rw [hp] at cP
      replace cP : ACall Try.prog 40 [pTask f t, aInts false false (setL t.hands.length i)] [] (fun v h => v = .tup 3 (ofL [aInts false false l, AI w, .bool true]) ∧ h = []) := cP
      by_cases hw : w ≤ most
      case neg =>
        (repeat' ((try (conv => whnf)); first | (with_reducible first | refine FCond.tA ?_ | refine FCond.fA ?_) | ((with_reducible refine FCond.i (fun hq => ?_) (fun hq => ?_)) <;> (try simp only [zA, zE, zD, zJ, zB, zI, Int.not_le, Int.not_lt] at hq)) | (with_reducible first | refine Fits.in64 (by omega) ?_ | refine FIdx.nat (by omega) ?_ | refine FIdx.int (by omega) ?_ | refine FTo.nat (by omega) ?_ | refine FTo.int (by omega) ?_) | ((with_reducible refine Need.mk ?_ ?_); focus exact needA) | (with_reducible refine FApp.grow ?_) | (refine FCall.pure (cP) ⟨Ln.sameB _ rfl, Ln.sameB _ rfl, True.intro⟩ rfl ?_) | (refine FCall.pure (cK) ⟨Ln.sameB _ rfl, Ln.sameB _ rfl, True.intro⟩ rfl ?_)))
        all_goals (try (conv => whnf))
        (exact ⟨⟨(i + 1, some (b, fw)), ⟨by show i + 1 ≤ P; omega, by show _ = hS t most (i + 1); rw [hS, ← hst, hstep_big hp hw]⟩, by show P - (i + 1) < P - i; omega, [], Cut.A, allA⟩⟩)
      by_cases l2 : (setL t.hands.length i).length < b.length
      · (repeat' ((try (conv => whnf)); first | (with_reducible first | refine FCond.tA ?_ | refine FCond.fA ?_) | ((with_reducible refine FCond.i (fun hq => ?_) (fun hq => ?_)) <;> (try simp only [zA, zE, zD, zJ, zB, zI, Int.not_le, Int.not_lt] at hq)) | (with_reducible first | refine Fits.in64 (by omega) ?_ | refine FIdx.nat (by omega) ?_ | refine FIdx.int (by omega) ?_ | refine FTo.nat (by omega) ?_ | refine FTo.int (by omega) ?_) | ((with_reducible refine Need.mk ?_ ?_); focus exact needA) | (with_reducible refine FApp.grow ?_) | (refine FCall.pure (cP) ⟨Ln.sameB _ rfl, Ln.sameB _ rfl, True.intro⟩ rfl ?_) | (refine FCall.pure (cK) ⟨Ln.sameB _ rfl, Ln.sameB _ rfl, True.intro⟩ rfl ?_)))
        all_goals (try (conv => whnf))
        (exact ⟨⟨(i + 1, some (setL t.hands.length i, w)), ⟨by show i + 1 ≤ P; omega, by show _ = hS t most (i + 1); rw [hS, ← hst, hstep_yes hp hw (better_lt l2)]⟩, by show P - (i + 1) < P - i; omega, [], Cut.A, allA⟩⟩)
      have l3 : b.length = (setL t.hands.length i).length := by omega
      by_cases e : w = fw
      · have cK := compare_ok false false false false (setL t.hands.length i) b (by omega) (by omega)
        by_cases e2 : cmpL (setL t.hands.length i) b < 0
        · (repeat' ((try (conv => whnf)); first | (with_reducible first | refine FCond.tA ?_ | refine FCond.fA ?_) | ((with_reducible refine FCond.i (fun hq => ?_) (fun hq => ?_)) <;> (try simp only [zA, zE, zD, zJ, zB, zI, Int.not_le, Int.not_lt] at hq)) | (with_reducible first | refine Fits.in64 (by omega) ?_ | refine FIdx.nat (by omega) ?_ | refine FIdx.int (by omega) ?_ | refine FTo.nat (by omega) ?_ | refine FTo.int (by omega) ?_) | ((with_reducible refine Need.mk ?_ ?_); focus exact needA) | (with_reducible refine FApp.grow ?_) | (refine FCall.pure (cP) ⟨Ln.sameB _ rfl, Ln.sameB _ rfl, True.intro⟩ rfl ?_) | (refine FCall.pure (cK) ⟨Ln.sameB _ rfl, Ln.sameB _ rfl, True.intro⟩ rfl ?_)))
          all_goals (try (conv => whnf))
          (exact ⟨⟨(i + 1, some (setL t.hands.length i, w)), ⟨by show i + 1 ≤ P; omega, by show _ = hS t most (i + 1); rw [hS, ← hst, hstep_yes hp hw ((better_eq l3 e).trans (decide_eq_true e2))]⟩, by show P - (i + 1) < P - i; omega, [], Cut.A, allA⟩⟩)
        · (repeat' ((try (conv => whnf)); first | (with_reducible first | refine FCond.tA ?_ | refine FCond.fA ?_) | ((with_reducible refine FCond.i (fun hq => ?_) (fun hq => ?_)) <;> (try simp only [zA, zE, zD, zJ, zB, zI, Int.not_le, Int.not_lt] at hq)) | (with_reducible first | refine Fits.in64 (by omega) ?_ | refine FIdx.nat (by omega) ?_ | refine FIdx.int (by omega) ?_ | refine FTo.nat (by omega) ?_ | refine FTo.int (by omega) ?_) | ((with_reducible refine Need.mk ?_ ?_); focus exact needA) | (with_reducible refine FApp.grow ?_) | (refine FCall.pure (cP) ⟨Ln.sameB _ rfl, Ln.sameB _ rfl, True.intro⟩ rfl ?_) | (refine FCall.pure (cK) ⟨Ln.sameB _ rfl, Ln.sameB _ rfl, True.intro⟩ rfl ?_)))
          all_goals (try (conv => whnf))
          (exact ⟨⟨(i + 1, some (b, fw)), ⟨by show i + 1 ≤ P; omega, by show _ = hS t most (i + 1); rw [hS, ← hst, hstep_no hp ((better_eq l3 e).trans (decide_eq_false e2))]⟩, by show P - (i + 1) < P - i; omega, [], Cut.A, allA⟩⟩)
      · by_cases e2 : w < fw
        · (repeat' ((try (conv => whnf)); first | (with_reducible first | refine FCond.tA ?_ | refine FCond.fA ?_) | ((with_reducible refine FCond.i (fun hq => ?_) (fun hq => ?_)) <;> (try simp only [zA, zE, zD, zJ, zB, zI, Int.not_le, Int.not_lt] at hq)) | (with_reducible first | refine Fits.in64 (by omega) ?_ | refine FIdx.nat (by omega) ?_ | refine FIdx.int (by omega) ?_ | refine FTo.nat (by omega) ?_ | refine FTo.int (by omega) ?_) | ((with_reducible refine Need.mk ?_ ?_); focus exact needA) | (with_reducible refine FApp.grow ?_) | (refine FCall.pure (cP) ⟨Ln.sameB _ rfl, Ln.sameB _ rfl, True.intro⟩ rfl ?_) | (refine FCall.pure (cK) ⟨Ln.sameB _ rfl, Ln.sameB _ rfl, True.intro⟩ rfl ?_)))
          all_goals (try (conv => whnf))
          (exact ⟨⟨(i + 1, some (setL t.hands.length i, w)), ⟨by show i + 1 ≤ P; omega, by show _ = hS t most (i + 1); rw [hS, ← hst, hstep_yes hp hw ((better_ne l3 e).trans (decide_eq_true e2))]⟩, by show P - (i + 1) < P - i; omega, [], Cut.A, allA⟩⟩)
        · (repeat' ((try (conv => whnf)); first | (with_reducible first | refine FCond.tA ?_ | refine FCond.fA ?_) | ((with_reducible refine FCond.i (fun hq => ?_) (fun hq => ?_)) <;> (try simp only [zA, zE, zD, zJ, zB, zI, Int.not_le, Int.not_lt] at hq)) | (with_reducible first | refine Fits.in64 (by omega) ?_ | refine FIdx.nat (by omega) ?_ | refine FIdx.int (by omega) ?_ | refine FTo.nat (by omega) ?_ | refine FTo.int (by omega) ?_) | ((with_reducible refine Need.mk ?_ ?_); focus exact needA) | (with_reducible refine FApp.grow ?_) | (refine FCall.pure (cP) ⟨Ln.sameB _ rfl, Ln.sameB _ rfl, True.intro⟩ rfl ?_) | (refine FCall.pure (cK) ⟨Ln.sameB _ rfl, Ln.sameB _ rfl, True.intro⟩ rfl ?_)))
          all_goals (try (conv => whnf))
          (exact ⟨⟨(i + 1, some (b, fw)), ⟨by show i + 1 ≤ P; omega, by show _ = hS t most (i + 1); rw [hS, ← hst, hstep_no hp ((better_ne l3 e).trans (decide_eq_false e2))]⟩, by show P - (i + 1) < P - i; omega, [], Cut.A, allA⟩⟩)
  · obtain rfl : P = i := by omega
    rcases st with _ | ⟨b, fw⟩
    · have hE : handsE t most = [nilS, AI 3] := by unfold handsE; rw [if_pos hok, if_neg hm, hP, ← hst]
      rw [hE]
      (repeat' ((try (conv => whnf)); first | (with_reducible first | refine FCond.tA ?_ | refine FCond.fA ?_) | ((with_reducible refine FCond.i (fun hq => ?_) (fun hq => ?_)) <;> (try simp only [zA, zE, zD, zJ, zB, zI, Int.not_le, Int.not_lt] at hq)) | (with_reducible first | refine Fits.in64 (by omega) ?_ | refine FIdx.nat (by omega) ?_ | refine FIdx.int (by omega) ?_ | refine FTo.nat (by omega) ?_ | refine FTo.int (by omega) ?_) | ((with_reducible refine Need.mk ?_ ?_); focus exact needA) | (with_reducible refine FApp.grow ?_)))
      all_goals (try (conv => whnf))
      (refine ⟨⟨_, [], [], Cut.nil _, Ln.sameB _ rfl, ?_, rfl⟩⟩)
      rfl
    · have hE : handsE t most = [aInts false false b, AI 0] := by unfold handsE; rw [if_pos hok, if_neg hm, hP, ← hst]
      rw [hE]
      (repeat' ((try (conv => whnf)); first | (with_reducible first | refine FCond.tA ?_ | refine FCond.fA ?_) | ((with_reducible refine FCond.i (fun hq => ?_) (fun hq => ?_)) <;> (try simp only [zA, zE, zD, zJ, zB, zI, Int.not_le, Int.not_lt] at hq)) | (with_reducible first | refine Fits.in64 (by omega) ?_ | refine FIdx.nat (by omega) ?_ | refine FIdx.int (by omega) ?_ | refine FTo.nat (by omega) ?_ | refine FTo.int (by omega) ?_) | ((with_reducible refine Need.mk ?_ ?_); focus exact needA) | (with_reducible refine FApp.grow ?_)))
      all_goals (try (conv => whnf))
      · simp at hq
      · (refine ⟨⟨_, [], [], Cut.nil _, Ln.sameB _ rfl, ?_, rfl⟩⟩)
        rfl
end Go.Proofs.Ytomkjfhepfinhaa

namespace Go.Proofs.Ytomkjfhepfinhaa
open Go.RowKit

/-- A task with just some hands. -/
def withT (t : Task) (l : List Int) : Task := ⟨l.map fun i => t.hands.getD i.toNat hd0, t.parts, t.limit, t.rest, t.swap⟩
theorem withT_get {t : Task} {l : List Int} {k : Nat} (hk : k < l.length) : (withT t l).hands.getD k hd0 = t.hands.getD (l.getD k 0).toNat hd0 := by
  simp only [withT]
  rw [getD_map (d := 0) hk]
theorem withT_len (t : Task) (l : List Int) : (withT t l).hands.length = l.length := by simp [withT]
set_option maxHeartbeats 4000000 in
set_option maxRecDepth 100000 in
theorem with_ok (f : TFl) (t : Task) (z e : Bool) (l : List Int) (h1 : 0 < l.length ∧ l.length ≤ 1000) (hi : ∀ i, i < l.length → 0 ≤ l.getD i 0 ∧ l.getD i 0 < t.hands.length) : ACall Try.prog 35 [aTask f t, aInts z e l] [] (fun v h => v = aTask ⟨false, false, f.zp, f.ep⟩ (withT t l) ∧ h = []) := by
  (refine fcall_of mixed Try.func35 rfl (by decide) (hs := {}) ?k (ac := ?ac) ?c (rs := ?rs) ?r ?l ?H; (case k => kernel_rfl); (case c => (conv => (lhs; cbv))); (case r => (conv => (lhs; cbv))); (case l => exact Nat.le_of_ble_eq_true rfl))
  (repeat' ((try (conv => whnf)); first | (with_reducible first | refine FCond.tA ?_ | refine FCond.fA ?_) | ((with_reducible refine FCond.i (fun hq => ?_) (fun hq => ?_)) <;> (try simp only [zA, zE, zD, zJ, zB, zI, Int.not_le, Int.not_lt] at hq)) | (with_reducible first | refine Fits.in64 (by omega) ?_ | refine FIdx.nat (by omega) ?_ | refine FIdx.int (by omega) ?_ | refine FTo.nat (by omega) ?_ | refine FTo.int (by omega) ?_) | ((with_reducible refine Need.mk ?_ ?_); focus exact needA) | (with_reducible refine FApp.grow ?_)))
  (try (conv => whnf))
  refine FLoop.of (ACalls.mono _) (X := Nat) (fun i => [(1, aInts z e l), (2, .ptr 0 0), (4, .ptr 1 0), (5, .ptr 2 0), (6, AI i)])
    (fun i => match i with
      | 0 => [.box 5 (cTask f t), .box 5 (ofL [nilS, nilS, AI 0, AI 0, AI 0]), .box 5 (ofL [nilS, aInts f.zp f.ep t.parts, AI t.limit, AI t.rest, AI t.swap])]
      | i + 1 => [.box 5 (cTask f t), .box 5 (ofL [nilS, nilS, AI 0, AI 0, AI 0]), .box 5 (ofL [.own 3 (i + 1), aInts f.zp f.ep t.parts, AI t.limit, AI t.rest, AI t.swap]), .row (i + 1) 7 (fun k => cHand (t.hands.getD (l.getD k 0).toNat hd0))])
    (fun i => i ≤ l.length) (fun i => l.length - i) 0 ⟨by omega, [0, 1, 2], Cut.A, allA⟩ ?_
  intro i hil
  rcases i with _ | i
  · have hb := hi 0 (by omega)
    (repeat' ((try (conv => whnf)); first | (with_reducible first | refine FCond.tA ?_ | refine FCond.fA ?_) | ((with_reducible refine FCond.i (fun hq => ?_) (fun hq => ?_)) <;> (try simp only [zA, zE, zD, zJ, zB, zI, Int.not_le, Int.not_lt] at hq)) | (with_reducible first | refine Fits.in64 (by omega) ?_ | refine FIdx.nat (by omega) ?_ | refine FIdx.int (by omega) ?_ | refine FTo.nat (by omega) ?_ | refine FTo.int (by omega) ?_) | ((with_reducible refine Need.mk ?_ ?_); focus exact needA) | (with_reducible refine FApp.grow ?_)))
    (try (conv => whnf))
    (exact ⟨⟨1, by omega, by show _ < _; omega, [0, 1, 2, 3], Cut.A, allA⟩⟩)
  · by_cases hlt : i + 1 < l.length
    · have hb := hi (i + 1) hlt
      (repeat' ((try (conv => whnf)); first | (with_reducible first | refine FCond.tA ?_ | refine FCond.fA ?_) | ((with_reducible refine FCond.i (fun hq => ?_) (fun hq => ?_)) <;> (try simp only [zA, zE, zD, zJ, zB, zI, Int.not_le, Int.not_lt] at hq)) | (with_reducible first | refine Fits.in64 (by omega) ?_ | refine FIdx.nat (by omega) ?_ | refine FIdx.int (by omega) ?_ | refine FTo.nat (by omega) ?_ | refine FTo.int (by omega) ?_) | ((with_reducible refine Need.mk ?_ ?_); focus exact needA) | (with_reducible refine FApp.grow ?_)))
      all_goals (try (conv => whnf))
      (exact ⟨⟨(i + 2), by omega, by show _ < _; omega, [0, 1, 2, 4], Cut.A, allA⟩⟩)
    · have hn : i + 1 = l.length := by omega
      (repeat' ((try (conv => whnf)); first | (with_reducible first | refine FCond.tA ?_ | refine FCond.fA ?_) | ((with_reducible refine FCond.i (fun hq => ?_) (fun hq => ?_)) <;> (try simp only [zA, zE, zD, zJ, zB, zI, Int.not_le, Int.not_lt] at hq)) | (with_reducible first | refine Fits.in64 (by omega) ?_ | refine FIdx.nat (by omega) ?_ | refine FIdx.int (by omega) ?_ | refine FTo.nat (by omega) ?_ | refine FTo.int (by omega) ?_) | ((with_reducible refine Need.mk ?_ ?_); focus exact needA) | (with_reducible refine FApp.grow ?_)))
      (try (conv => whnf))
      refine ⟨⟨aTask ⟨false, false, f.zp, f.ep⟩ (withT t l), [], [], Cut.nil _, Ln.aggN ⟨⟨⟨⟨⟨True.intro, Ln.pubE (goneB rfl) rfl (Nat.le_refl _) (by rw [withT_len]; exact hn) (fun k hk o ho => by rw [withT_get (by omega)])⟩, Ln.A⟩, Ln.A⟩, Ln.A⟩, Ln.A⟩, rfl, rfl⟩⟩
end Go.Proofs.Ytomkjfhepfinhaa

namespace Go.Proofs.Ytomkjfhepfinhaa
open Go.RowKit
abbrev rowH (l : List Hand) : AB := .row l.length 7 (fun k => cHand (l.getD k hd0))
abbrev fl0 : TFl := ⟨false, false, false, false⟩
set_option maxHeartbeats 4000000 in
set_option maxRecDepth 100000 in
theorem copy_own (f : TFl) (t : Task) (h1 : 0 < t.hands.length ∧ t.hands.length ≤ 1000) (h2 : 0 < t.parts.length ∧ t.parts.length ≤ 1000) : ACall Try.prog 23 [aTask f t] [] (fun v h => v = .agg 5 (ofL [.own 0 t.hands.length, .own 1 t.parts.length, AI t.limit, AI t.rest, AI t.swap]) ∧ h = [rowH t.hands, rowC t.parts.length t.parts]) := by
  obtain ⟨a, ha⟩ : ∃ a, t.hands.length = a + 1 := ⟨t.hands.length - 1, by omega⟩
  obtain ⟨b, hb⟩ : ∃ b, t.parts.length = b + 1 := ⟨t.parts.length - 1, by omega⟩
  (refine fcall_of mixed Try.func23 rfl (by decide) (hs := {}) ?k (ac := ?ac) ?c (rs := ?rs) ?r ?l ?H; (case k => kernel_rfl); (case c => (conv => (lhs; cbv))); (case r => (conv => (lhs; cbv))); (case l => exact Nat.le_of_ble_eq_true rfl))
  (repeat' ((try (conv => whnf)); first | (with_reducible first | refine FCond.tA ?_ | refine FCond.fA ?_) | ((with_reducible refine FCond.i (fun hq => ?_) (fun hq => ?_)) <;> (try simp only [zA, zE, zD, zJ, zB, zI, Int.not_le, Int.not_lt] at hq)) | (with_reducible first | refine Fits.in64 (by omega) ?_ | refine FIdx.nat (by omega) ?_ | refine FIdx.int (by omega) ?_ | refine FTo.nat (by omega) ?_ | refine FTo.int (by omega) ?_) | ((with_reducible refine Need.mk ?_ ?_); focus exact needA) | (with_reducible refine FApp.grow ?_)))
  (try (conv => whnf))
  rw [ha]
  (repeat' ((try (conv => whnf)); first | (with_reducible first | refine FCond.tA ?_ | refine FCond.fA ?_) | ((with_reducible refine FCond.i (fun hq => ?_) (fun hq => ?_)) <;> (try simp only [zA, zE, zD, zJ, zB, zI, Int.not_le, Int.not_lt] at hq)) | (with_reducible first | refine Fits.in64 (by omega) ?_ | refine FIdx.nat (by omega) ?_ | refine FIdx.int (by omega) ?_ | refine FTo.nat (by omega) ?_ | refine FTo.int (by omega) ?_) | ((with_reducible refine Need.mk ?_ ?_); focus exact needA) | (with_reducible refine FApp.grow ?_)))
  (try (conv => whnf))
  rw [hb]
  (repeat' ((try (conv => whnf)); first | (with_reducible first | refine FCond.tA ?_ | refine FCond.fA ?_) | ((with_reducible refine FCond.i (fun hq => ?_) (fun hq => ?_)) <;> (try simp only [zA, zE, zD, zJ, zB, zI, Int.not_le, Int.not_lt] at hq)) | (with_reducible first | refine Fits.in64 (by omega) ?_ | refine FIdx.nat (by omega) ?_ | refine FIdx.int (by omega) ?_ | refine FTo.nat (by omega) ?_ | refine FTo.int (by omega) ?_) | ((with_reducible refine Need.mk ?_ ?_); focus exact needA) | (with_reducible refine FApp.grow ?_)))
  (try (conv => whnf))
  refine ⟨⟨.agg 5 (ofL [.own 0 (a + 1), .own 1 (b + 1), AI t.limit, AI t.rest, AI t.swap]), [.row (a + 1) 7 (fun k => cHand (t.hands.getD k hd0)), rowC (b + 1) t.parts], [3, 4], ?_, ?_, rfl, by rw [show rowH t.hands = .row (a + 1) 7 (fun k => cHand (t.hands.getD k hd0)) by unfold rowH; rw [ha]]⟩⟩
  · exact Cut.of (Nat.le_of_ble_eq_true rfl) rfl rfl (CutL.turned rfl (LnB.rowE (by omega) fun k hk o ho => by simp [appc]) (CutL.turned rfl (LnB.rowE (by omega) fun k hk o ho => by simp [appc]) CutL.done))
  · refine Ln.aggN ⟨⟨⟨⟨⟨True.intro, Ln.ownE rfl (by omega)⟩, Ln.ownE rfl (by omega)⟩, Ln.A⟩, Ln.A⟩, Ln.A⟩
theorem rightH_none {t : Task} {h : Int} : ∀ {r : List Int} {row rest : Int}, (∀ i, i < r.length → r.getD i 0 ≠ h) → rightH t h r row rest = true
  | [], _, _, _ => rfl
  | x :: xs, row, rest, hr => by
    have h0 : x ≠ h := hr 0 (by simp)
    rw [rightH, if_neg h0]
    exact rightH_none fun i hi => hr (i + 1) (by simpa using hi)
theorem planE_no {t : Task} (hok : t.ok = true) (h : planS t (allL t.hands.length) = none) : planE t = [nilS, AI 0, AI 3] := by unfold planE; rw [if_pos hok, h]; rfl
theorem planE_yes {t : Task} {l : List Int} {w : Int} (hok : t.ok = true) (h : planS t (allL t.hands.length) = some (l, w)) : planE t = [aInts false false l, AI w, AI 0] := by unfold planE; rw [if_pos hok, h]; rfl
theorem plan_two {t : Task} (k : TaskOk t) : (planS t (allL t.hands.length) = none ∧ ∀ x, isRota t x = true → isRight t x = true → False) ∨ ∃ l, planS t (allL t.hands.length) = some (l, badOf t l) ∧ isRota t l = true ∧ isRight t l = true ∧ ∀ x, isRota t x = true → isRight t x = true → badOf t l < badOf t x ∨ (badOf t l = badOf t x ∧ lowerL x l = false) := by
  rcases planS_spec (t := t) (hands := allL t.hands.length) k (fun h hh => allL_mem.1 hh) (allL_sorted _) with ⟨s1, s2⟩ | ⟨l, s1, s2, s3⟩
  · refine .inl ⟨s1, fun x a b => ?_⟩
    have := (every_right k).2 ⟨a, b⟩
    rw [s2] at this; cases this
  · exact .inr ⟨l, s1, ((every_right k).1 s2).1, ((every_right k).1 s2).2, fun x a b => s3 x ((every_right k).2 ⟨a, b⟩)⟩
end Go.Proofs.Ytomkjfhepfinhaa

namespace Go.Proofs.Ytomkjfhepfinhaa
open Go.RowKit

/-- Some hands of a task. -/
structure SubL (t : Task) (l : List Int) : Prop where
  pos : 0 < l.length ∧ l.length ≤ 3
  inr : ∀ i, i < l.length → 0 ≤ l.getD i 0 ∧ l.getD i 0 < t.hands.length
  inj : ∀ i j, i < l.length → j < l.length → l.getD i 0 = l.getD j 0 → i = j
def mpL (l r : List Int) : List Int := r.map fun i => l.getD i.toNat 0
theorem mp_get {l r : List Int} {j : Nat} (hj : j < r.length) : (mpL l r).getD j 0 = l.getD (r.getD j 0).toNat 0 := by
  unfold mpL; rw [getD_map (d := 0) hj]
theorem mp_len {l r : List Int} : (mpL l r).length = r.length := by simp [mpL]
theorem withT_ok {t : Task} {l : List Int} (k : TaskOk t) (S : SubL t l) : TaskOk (withT t l) := by
  refine ⟨by rw [withT_len]; have := S.pos; omega, k.pn, k.lim, k.rest, k.swap, fun h hh => ?_, k.part⟩
  rw [withT_len] at hh
  rw [withT_get hh]
  have := S.inr h hh
  exact k.hand _ (by omega)
theorem with_in {t : Task} {l r : List Int} (S : SubL t l) (q : RotaIn (withT t l) r) : RotaIn t (mpL l r) :=
  ⟨by rw [mp_len]; exact q.len, fun i hi => by
    rw [mp_len] at hi
    have := q.el i hi
    rw [withT_len] at this
    rw [mp_get hi]
    exact S.inr _ (by omega)⟩
theorem cTo_with {t : Task} {l r : List Int} {b : Bool} (k : TaskOk t) (S : SubL t l) (q : RotaIn (withT t l) r) : ∀ i, i ≤ r.length → (cTo (withT t l) b r i).bad = (cTo t b (mpL l r) i).bad ∧ ∀ h, h < l.length → (cTo (withT t l) b r i).now.getD h 0 = (cTo t b (mpL l r) i).now.getD (l.getD h 0).toNat 0
  | 0, _ => by
    refine ⟨rfl, fun h hh => ?_⟩
    have := S.inr h hh
    simp only [cTo, startL]
    rw [getD_map (d := hd0) (by rw [withT_len]; exact hh), getD_map (d := hd0) (by omega), withT_get hh]
  | i + 1, hi => by
    obtain ⟨h1, h2⟩ := cTo_with (b := b) k S q i (by omega)
    have q2 := with_in S q
    have hx := q.el i (by omega)
    rw [withT_len] at hx
    have hm : (mpL l r).getD i 0 = l.getD (r.getD i 0).toNat 0 := mp_get (by omega)
    have hxi := S.inr (r.getD i 0).toNat (by omega)
    obtain ⟨c1, _⟩ := cTo_bd (b := b) (withT_ok k S) q i (by omega)
    obtain ⟨c2, _⟩ := cTo_bd (b := b) k q2 i (by rw [mp_len]; omega)
    obtain ⟨_, _, e1⟩ := cTo_eq (b := b) q i (by omega)
    obtain ⟨_, _, e2⟩ := cTo_eq (b := b) q2 i (by rw [mp_len]; omega)
    refine ⟨?_, fun h hh => ?_⟩
    · simp only [cTo, signBad, h1, e1, e2, hm]
      rw [withT_get (by omega), h2 _ (by omega)]
      congr 1
      by_cases e0 : i = 0
      · subst e0; simp
      · have hy := q.el (i - 1) (by omega)
        rw [withT_len] at hy
        have hyi := S.inr (r.getD (i - 1) 0).toNat (by omega)
        rw [if_neg e0, if_neg e0, mp_get (by omega)]
        by_cases e : r.getD (i - 1) 0 = r.getD i 0
        · rw [if_neg (fun h => h.2 e), if_neg (fun h => h.2 (by rw [e]))]
        · rw [if_pos ⟨by omega, e⟩, if_pos ⟨by omega, fun h => e (by have := S.inj _ _ (by omega) (by omega) h; omega)⟩]; rfl
    · have hhi := S.inr h hh
      simp only [cTo, signNow]
      rw [nextW_get (by rw [c1, withT_len]; exact hh), nextW_get (by rw [c2]; omega), h2 h hh]
      have s1 : (stepsOf (withT t l) (r.getD i 0) b).getD h 0 = stepAt (withT t l) (r.getD i 0) b h := by rw [stepsOf, getD_range (by rw [withT_len]; exact hh)]
      have s2 : (stepsOf t ((mpL l r).getD i 0) b).getD (l.getD h 0).toNat 0 = stepAt t ((mpL l r).getD i 0) b (l.getD h 0).toNat := by rw [stepsOf, getD_range (by omega)]
      have ex : r.getD i 0 = (h : Int) ↔ (mpL l r).getD i 0 = (((l.getD h 0).toNat : Nat) : Int) := by
        rw [hm]
        constructor
        · intro e; rw [e]; simp only [Int.toNat_natCast]; omega
        · intro e
          have := S.inj (r.getD i 0).toNat h (by omega) hh (by omega)
          omega
      rw [s1, s2]
      unfold stepAt
      rw [withT_get hh]
      by_cases e : r.getD i 0 = (h : Int)
      · rw [if_pos e, if_pos (ex.1 e), if_pos e, if_pos (ex.1 e)]
      · rw [if_neg e, if_neg (fun a => e (ex.2 a)), if_neg e, if_neg (fun a => e (ex.2 a))]
theorem bad_with {t : Task} {l r : List Int} (k : TaskOk t) (S : SubL t l) (q : RotaIn (withT t l) r) : badOf (withT t l) r = badOf t (mpL l r) := by
  unfold badOf
  rw [mp_len]
  exact (cTo_with (b := true) k S q r.length (Nat.le_refl _)).1
theorem rightH_map {t : Task} {l : List Int} {h : Nat} (S : SubL t l) (hh : h < l.length) : ∀ {r : List Int} {row rest : Int}, (∀ x ∈ r, 0 ≤ x ∧ x < (l.length : Int)) → rightH t (l.getD h 0) (mpL l r) row rest = rightH (withT t l) (h : Int) r row rest
  | [], _, _, _ => rfl
  | x :: xs, row, rest, H => by
    have hx := H x List.mem_cons_self
    have ih := fun row rest => rightH_map (row := row) (rest := rest) S hh (r := xs) fun y hy => H y (List.mem_cons_of_mem _ hy)
    have ex : l.getD x.toNat 0 = l.getD h 0 ↔ x = (h : Int) := by
      constructor
      · intro e; have := S.inj _ _ (by omega) hh e; omega
      · intro e; rw [e]; rfl
    show rightH t (l.getD h 0) (l.getD x.toNat 0 :: mpL l xs) row rest = _
    rw [rightH, rightH, ih, ih]
    by_cases e : x = (h : Int)
    · rw [if_pos e, if_pos (ex.2 e)]; rfl
    · rw [if_neg e, if_neg (fun a => e (ex.1 a))]
theorem right_with {t : Task} {l r : List Int} (S : SubL t l) (q : RotaIn (withT t l) r) : isRight (withT t l) r = true ↔ isRight t (mpL l r) = true := by
  have hr : ∀ x ∈ r, 0 ≤ x ∧ x < (l.length : Int) := fun x hx => by
    obtain ⟨i, hi, rfl⟩ := List.getElem_of_mem hx
    have := q.el i hi
    rw [withT_len] at this
    simpa [List.getD, List.getElem?_eq_getElem hi] using this
  rw [isRight_all, isRight_all, withT_len]
  constructor
  · intro H h h0 h1
    by_cases e : ∃ j, j < l.length ∧ l.getD j 0 = h
    · obtain ⟨j, hj, rfl⟩ := e
      rw [rightH_map S hj hr]
      exact H j (by omega) (by omega)
    · refine rightH_none fun i hi a => e ⟨(r.getD i 0).toNat, ?_, ?_⟩
      · rw [mp_len] at hi
        have := q.el i hi
        rw [withT_len] at this
        omega
      · rw [mp_len] at hi
        rw [← mp_get hi]; exact a
  · intro H h h0 h1
    obtain ⟨j, rfl⟩ : ∃ j : Nat, h = j := ⟨h.toNat, by omega⟩
    rw [← rightH_map S (by omega) hr]
    have := S.inr j (by omega)
    exact H _ this.1 this.2
end Go.Proofs.Ytomkjfhepfinhaa

namespace Go.Proofs.Ytomkjfhepfinhaa
open Go.RowKit

theorem getD_memI {l : List Int} {i : Nat} (h : i < l.length) : l.getD i 0 ∈ l := by
  simp only [List.getD, List.getElem?_eq_getElem h, Option.getD_some]; exact List.getElem_mem h
theorem subl_mem {t : Task} {l : List Int} (S : SubL t l) {v : Int} (h : v ∈ l) : 0 ≤ v ∧ v < t.hands.length := by
  obtain ⟨i, hi, rfl⟩ := List.getElem_of_mem h
  have := S.inr i hi
  simpa [List.getD, List.getElem?_eq_getElem hi] using this
theorem every_sub {t : Task} {l x : List Int} (k : TaskOk t) (S : SubL t l) : x ∈ everyP t l t.parts.length [] ↔ x.length = t.parts.length ∧ (∀ j, j < x.length → x.getD j 0 ∈ l) ∧ isRight t x = true := by
  rw [every_mem]
  simp only [List.length_nil, List.take_zero, true_and, Nat.zero_add, Nat.zero_le, forall_const]
  constructor
  · rintro ⟨a, b⟩
    refine ⟨a, fun j hj => (b j hj).1, ?_⟩
    rw [← rightP_eq k x fun j hj => subl_mem S (b j hj).1]
    unfold rightP rightTo
    rw [List.all_eq_true]
    intro j hj
    exact (b j (List.mem_range.1 hj)).2
  · rintro ⟨a, b, c⟩
    refine ⟨a, fun j hj => ⟨b j hj, ?_⟩⟩
    rw [← rightP_eq k x fun j hj => subl_mem S (b j hj)] at c
    unfold rightP rightTo at c
    rw [List.all_eq_true] at c
    exact c j (List.mem_range.2 hj)
theorem rota_in {t : Task} {l r : List Int} (h : isRota (withT t l) r = true) : r.length = t.parts.length ∧ RotaIn (withT t l) r := isRota_e h
theorem mp_every {t : Task} {l r : List Int} (k : TaskOk t) (S : SubL t l) (h1 : isRota (withT t l) r = true) (h2 : isRight (withT t l) r = true) : mpL l r ∈ everyP t l t.parts.length [] := by
  obtain ⟨a, q⟩ := rota_in h1
  refine (every_sub k S).2 ⟨by rw [mp_len, a], fun j hj => ?_, (right_with S q).1 h2⟩
  rw [mp_len] at hj
  have := q.el j hj
  rw [withT_len] at this
  rw [mp_get hj]
  have hj2 : (r.getD j 0).toNat < l.length := by omega
  exact getD_memI hj2
theorem every_mp {t : Task} {l x : List Int} (k : TaskOk t) (S : SubL t l) (h : x ∈ everyP t l t.parts.length []) : ∃ r, isRota (withT t l) r = true ∧ isRight (withT t l) r = true ∧ mpL l r = x := by
  obtain ⟨a, b, c⟩ := (every_sub k S).1 h
  have hx : ∀ v ∈ x, ∃ i : Nat, i < l.length ∧ l.getD i 0 = v := fun v hv => by
    obtain ⟨j, hj, rfl⟩ := List.getElem_of_mem hv
    have := b j hj
    simp only [List.getD, List.getElem?_eq_getElem hj, Option.getD_some] at this
    obtain ⟨i, hi, e⟩ := List.getElem_of_mem this
    exact ⟨i, hi, by simp only [List.getD, List.getElem?_eq_getElem hi, Option.getD_some]; exact e⟩
  obtain ⟨r, hr1, hr2⟩ : ∃ r : List Int, (∀ v ∈ r, 0 ≤ v ∧ v < (l.length : Int)) ∧ mpL l r = x := by
    clear a b c h
    induction x with
    | nil => exact ⟨[], fun v hv => by (cases hv), rfl⟩
    | cons v xs ih =>
      obtain ⟨r, h1, h2⟩ := ih fun w hw => hx w (List.mem_cons_of_mem _ hw)
      obtain ⟨i, hi, e⟩ := hx v List.mem_cons_self
      refine ⟨(i : Int) :: r, fun w hw => ?_, ?_⟩
      · rcases List.mem_cons.1 hw with rfl | hw
        · omega
        · exact h1 w hw
      · show l.getD ((i : Int)).toNat 0 :: mpL l r = _
        rw [h2, Int.toNat_natCast, e]
  have hl : r.length = t.parts.length := by rw [← a, ← hr2, mp_len]
  have hro : isRota (withT t l) r = true := by
    unfold isRota
    rw [Bool.and_eq_true, List.all_eq_true, withT_len]
    refine ⟨fun v hv => ?_, decide_eq_true (show r.length = (withT t l).parts.length from hl)⟩
    have := hr1 v hv
    simp only [decide_eq_true_eq]
    omega
  exact ⟨r, hro, (right_with S (isRota_e hro).2).2 (by rw [hr2]; exact c), hr2⟩
theorem task_ok {t : Task} (k : TaskOk t) : t.ok = true := by
  simp only [Task.ok, Bool.and_eq_true, decide_eq_true_eq]
  refine ⟨⟨⟨⟨⟨⟨k.hn, k.pn⟩, k.lim⟩, k.rest⟩, k.swap⟩, ?_⟩, ?_⟩
  · rw [List.all_eq_true]
    intro x hx
    obtain ⟨h, hh, rfl⟩ := List.getElem_of_mem hx
    have := k.hand h hh
    simp only [List.getD, List.getElem?_eq_getElem hh, Option.getD_some] at this
    simp only [Hand.ok, spanOk, Bool.and_eq_true, decide_eq_true_eq]
    omega
  · rw [List.all_eq_true]
    intro x hx
    obtain ⟨h, hh, rfl⟩ := List.getElem_of_mem hx
    have := k.part h hh
    simp only [List.getD, List.getElem?_eq_getElem hh, Option.getD_some] at this
    simpa using this
theorem with_plan {t : Task} {l : List Int} (k : TaskOk t) (S : SubL t l) (hs : l.Pairwise (· < ·)) : (planS t l = none ∧ planE (withT t l) = [nilS, AI 0, AI 3]) ∨ ∃ r w l', planS t l = some (r, w) ∧ planE (withT t l) = [aInts false false l', AI w, AI 0] := by
  have kw := withT_ok k S
  have okw : (withT t l).ok = true := task_ok kw
  rcases planS_spec k (fun h hh => subl_mem S hh) hs with ⟨p1, p2⟩ | ⟨r0, p1, p2, p3⟩
  · refine .inl ⟨p1, ?_⟩
    rcases plan_two kw with ⟨u1, _⟩ | ⟨l', _, m1, m2, _⟩
    · exact planE_no okw u1
    · have := mp_every k S m1 m2
      rw [p2] at this; cases this
  · refine .inr ?_
    obtain ⟨r, e1, e2, e3⟩ := every_mp k S p2
    rcases plan_two kw with ⟨_, u2⟩ | ⟨l', u1, m1, m2, m3⟩
    · exact (u2 r e1 e2).elim
    · refine ⟨r0, badOf t r0, l', p1, ?_⟩
      have a1 := p3 _ (mp_every k S m1 m2)
      have a2 := m3 r e1 e2
      rw [bad_with k S (isRota_e m1).2] at a2
      rw [bad_with k S (isRota_e e1).2, e3] at a2
      have : badOf (withT t l) l' = badOf t r0 := by rw [bad_with k S (isRota_e m1).2]; omega
      rw [← this]
      exact planE_yes okw u1
end Go.Proofs.Ytomkjfhepfinhaa

namespace Go.Proofs.Ytomkjfhepfinhaa
open Go.RowKit

theorem lower_trans : ∀ {a b c : List Int}, a.length = b.length → b.length = c.length → lowerL a b = true → lowerL b c = true → lowerL a c = true
  | [], _, _, _, _, h, _ => by simp [lowerL] at h
  | _ :: _, [], _, h, _, _, _ => by simp at h
  | _ :: _, _ :: _, [], _, h, _, _ => by simp at h
  | x :: xs, y :: ys, z :: zs, h1, h2, h3, h4 => by
    rw [lowerL] at h3 h4 ⊢
    by_cases e1 : x = y
    · rw [if_pos e1] at h3
      by_cases e2 : y = z
      · rw [if_pos e2] at h4
        rw [if_pos (e1.trans e2)]
        exact lower_trans (by simpa using h1) (by simpa using h2) h3 h4
      · rw [if_neg e2] at h4
        rw [if_neg (by rw [e1]; exact e2), e1]; exact h4
    · rw [if_neg e1] at h3
      have h3' := of_decide_eq_true h3
      by_cases e2 : y = z
      · subst e2; rw [if_neg e1]; exact h3
      · rw [if_neg e2] at h4
        have h4' := of_decide_eq_true h4
        rw [if_neg (by omega)]
        exact decide_eq_true (by omega)
/-- One set is better than another. -/
def Beats (L : List Int) (w : Int) (b : List Int) (f : Int) : Prop := L.length < b.length ∨ (L.length = b.length ∧ (w < f ∨ (w = f ∧ lowerL L b = true)))
theorem beats_iff {L b : List Int} {w f : Int} : betterP L w (some (b, f)) = true ↔ Beats L w b f := by
  unfold Beats
  by_cases h1 : L.length < b.length
  · rw [better_lt h1]; exact ⟨fun _ => .inl h1, fun _ => rfl⟩
  by_cases h2 : b.length < L.length
  · rw [better_gt h2]
    constructor
    · intro h; cases h
    · rintro (h | h) <;> omega
  have h3 : b.length = L.length := by omega
  by_cases e : w = f
  · rw [better_eq h3 e, decide_eq_true_eq, cmpL_lower h3.symm]
    constructor
    · intro h; exact .inr ⟨h3.symm, .inr ⟨e, h⟩⟩
    · rintro (h | ⟨_, h | h⟩)
      · omega
      · omega
      · exact h.2
  · rw [better_ne h3 e, decide_eq_true_eq]
    constructor
    · intro h; exact .inr ⟨h3.symm, .inl h⟩
    · rintro (h | ⟨_, h | h⟩)
      · omega
      · exact h
      · exact absurd h.1 e
theorem beats_trans {a b c : List Int} {x y z : Int} (h1 : Beats a x b y) (h2 : Beats b y c z) : Beats a x c z := by
  unfold Beats at *
  rcases h1 with h1 | ⟨e1, h1⟩
  · rcases h2 with h2 | ⟨e2, h2⟩
    · exact .inl (by omega)
    · exact .inl (by omega)
  · rcases h2 with h2 | ⟨e2, h2⟩
    · exact .inl (by omega)
    · refine .inr ⟨by omega, ?_⟩
      rcases h1 with h1 | ⟨f1, h1⟩
      · rcases h2 with h2 | ⟨f2, h2⟩ <;> exact .inl (by omega)
      · rcases h2 with h2 | ⟨f2, h2⟩
        · exact .inl (by omega)
        · exact .inr ⟨by omega, lower_trans e1 e2 h1 h2⟩
theorem beats_irr {a : List Int} {x : Int} : ¬ Beats a x a x := by
  unfold Beats
  rintro (h | ⟨_, h | h⟩)
  · omega
  · omega
  · rw [lower_self] at h; exact Bool.noConfusion h.2
/-- What has been found among the first sets. -/
def HandsI (t : Task) (most : Int) (i : Nat) : PSt → Prop
  | none => ∀ s, s < i → ∀ r w, planS t (setL t.hands.length s) = some (r, w) → most < w
  | some (b, f) => f ≤ most ∧ (∃ s r, s < i ∧ b = setL t.hands.length s ∧ planS t b = some (r, f)) ∧ ∀ s, s < i → ∀ r w, planS t (setL t.hands.length s) = some (r, w) → w ≤ most → ¬ Beats (setL t.hands.length s) w b f
theorem hS_in (t : Task) (most : Int) : ∀ i, HandsI t most i (hS t most i)
  | 0 => fun s hs => absurd hs (Nat.not_lt_zero s)
  | i + 1 => by
    have ih := hS_in t most i
    rw [hS]
    generalize hS t most i = st at ih
    rcases hp : planS t (setL t.hands.length i) with _ | ⟨r0, w0⟩
    · rw [hstep_none hp]
      rcases st with _ | ⟨b, f⟩
      · intro s hs r w e
        rcases Nat.lt_succ_iff_lt_or_eq.1 hs with a | rfl
        · exact ih s a r w e
        · rw [hp] at e; cases e
      · obtain ⟨h1, ⟨s0, r1, h2, h3⟩, h4⟩ := ih
        refine ⟨h1, ⟨s0, r1, by omega, h3⟩, fun s hs r w e => ?_⟩
        rcases Nat.lt_succ_iff_lt_or_eq.1 hs with a | rfl
        · exact h4 s a r w e
        · rw [hp] at e; cases e
    · by_cases hw : w0 ≤ most
      case neg =>
        rw [hstep_big hp hw]
        rcases st with _ | ⟨b, f⟩
        · intro s hs r w e
          rcases Nat.lt_succ_iff_lt_or_eq.1 hs with a | rfl
          · exact ih s a r w e
          · rw [hp] at e; cases e; omega
        · obtain ⟨h1, ⟨s0, r1, h2, h3⟩, h4⟩ := ih
          refine ⟨h1, ⟨s0, r1, by omega, h3⟩, fun s hs r w e hle => ?_⟩
          rcases Nat.lt_succ_iff_lt_or_eq.1 hs with a | rfl
          · exact h4 s a r w e hle
          · rw [hp] at e; cases e; exact absurd hle hw
      rcases st with _ | ⟨b, f⟩
      · rw [hstep_yes hp hw rfl]
        refine ⟨hw, ⟨i, r0, by omega, rfl, hp⟩, fun s hs r w e hle => ?_⟩
        rcases Nat.lt_succ_iff_lt_or_eq.1 hs with a | rfl
        · have := ih s a r w e; omega
        · rw [hp] at e; cases e; exact beats_irr
      · obtain ⟨h1, ⟨s0, r1, h2, h3⟩, h4⟩ := ih
        by_cases hb : betterP (setL t.hands.length i) w0 (some (b, f)) = true
        · rw [hstep_yes hp hw hb]
          have hb' := beats_iff.1 hb
          refine ⟨hw, ⟨i, r0, by omega, rfl, hp⟩, fun s hs r w e hle hB => ?_⟩
          rcases Nat.lt_succ_iff_lt_or_eq.1 hs with a | rfl
          · exact h4 s a r w e hle (beats_trans hB hb')
          · rw [hp] at e; cases e; exact beats_irr hB
        · rw [hstep_no hp (by simpa using hb)]
          refine ⟨h1, ⟨s0, r1, by omega, h3⟩, fun s hs r w e hle => ?_⟩
          rcases Nat.lt_succ_iff_lt_or_eq.1 hs with a | rfl
          · exact h4 s a r w e hle
          · rw [hp] at e; cases e; exact fun hB => hb (beats_iff.2 hB)
theorem setL_sorted (n s : Nat) : (setL n s).Pairwise (· < ·) := (allL_sorted n).filter _
theorem sorted_inj {l : List Int} (h : l.Pairwise (· < ·)) {i j : Nat} (hi : i < l.length) (hj : j < l.length) (e : l.getD i 0 = l.getD j 0) : i = j := by
  rw [List.pairwise_iff_getElem] at h
  simp only [List.getD, List.getElem?_eq_getElem hi, List.getElem?_eq_getElem hj, Option.getD_some] at e
  rcases Nat.lt_trichotomy i j with a | a | a
  · have := h i j hi hj a; omega
  · exact a
  · have := h j i hj hi a; omega
theorem setL_sub {t : Task} {s : Nat} (k : TaskOk t) (h : 0 < (setL t.hands.length s).length) : SubL t (setL t.hands.length s) :=
  ⟨⟨h, by have := setL_len t.hands.length s; have := k.hn; omega⟩, setL_in _ _, fun _ _ hi hj e => sorted_inj (setL_sorted _ _) hi hj e⟩
theorem plan_nil {t : Task} (k : TaskOk t) : planS t [] = none := by
  rcases planS_spec (t := t) (hands := []) k (fun h hh => by cases hh) List.Pairwise.nil with ⟨a, _⟩ | ⟨r, _, b, _⟩
  · exact a
  · have hp := k.pn
    rw [every_mem] at b
    have := (b.2.2 0 (Nat.zero_le _) (by have := b.1; simp at this; omega)).1
    cases this
end Go.Proofs.Ytomkjfhepfinhaa

namespace Go.Proofs.Ytomkjfhepfinhaa
open Go.RowKit

theorem setL_up (n s : Nat) : setL (n + 1) s = setL n s ++ if keepB s (n : Int) = true then [(n : Int)] else [] := by
  unfold setL
  have : allL (n + 1) = allL n ++ [(n : Int)] := by unfold allL; rw [List.range_succ, List.map_append]; rfl
  rw [this, List.filter_append, List.filter_cons, List.filter_nil]
theorem bit_s {s i : Nat} (hs : s < 8) (hi : i < 3) : (IntKind.i64.wrap ((BitVec.ofInt IntKind.i64.bits ((s : Int).fdiv (2 ^ min ((i : Int)).toNat IntKind.i64.bits)) &&& BitVec.ofInt IntKind.i64.bits 1).toNat : Int) = 1) ↔ keepB s (i : Int) = true := by
  rcases (show i = 0 ∨ i = 1 ∨ i = 2 by omega) with rfl | rfl | rfl
  all_goals rcases (show s = 0 ∨ s = 1 ∨ s = 2 ∨ s = 3 ∨ s = 4 ∨ s = 5 ∨ s = 6 ∨ s = 7 by omega) with rfl | rfl | rfl | rfl | rfl | rfl | rfl | rfl
  all_goals decide
theorem fits3 {i : Nat} {K : Int → Prop} (hi : i < 3) (h : K (i : Int)) : Fits .u64 (i : Int) K := ⟨by
  have : IntKind.u64.wrap (i : Int) = i := by
    rcases (show i = 0 ∨ i = 1 ∨ i = 2 by omega) with rfl | rfl | rfl <;> decide
  rw [this]; exact h⟩
set_option maxHeartbeats 4000000 in
set_option maxRecDepth 100000 in
theorem members_ok (s : Nat) (hs : s < 8) (h0 : 0 < (setL 3 s).length) : ACall Try.prog 63 [AI s] [] (fun v h => v = aInts false false (setL 3 s) ∧ h = []) := by
  (refine fcall_of mixed Try.func63 rfl (by decide) (hs := {}) ?k (ac := ?ac) ?c (rs := ?rs) ?r ?l ?H; (case k => kernel_rfl); (case c => (conv => (lhs; cbv))); (case r => (conv => (lhs; cbv))); (case l => exact Nat.le_of_ble_eq_true rfl))
  (repeat' ((try (conv => whnf)); first | (with_reducible first | refine FCond.tA ?_ | refine FCond.fA ?_) | ((with_reducible refine FCond.i (fun hq => ?_) (fun hq => ?_)) <;> (try simp only [zA, zE, zD, zJ, zB, zI, Int.not_le, Int.not_lt] at hq)) | (with_reducible first | refine Fits.in64 (by omega) ?_ | refine FIdx.nat (by omega) ?_ | refine FIdx.int (by omega) ?_ | refine FTo.nat (by omega) ?_ | refine FTo.int (by omega) ?_) | ((with_reducible refine Need.mk ?_ ?_); focus exact needA) | (with_reducible refine FApp.grow ?_)))
  (try (conv => whnf))
  refine FLoop.of (ACalls.mono _) (X := Nat × Nat × List Int) (fun x => [(0, AI s), (3, match x.2.1 with | 0 => nilS | m + 1 => .own 0 (m + 1)), (4, AI x.1)])
    (fun x => match x.2.1 with
      | 0 => []
      | m + 1 => [rowC (m + 1) x.2.2])
    (fun x => x.1 ≤ 3 ∧ x.2.1 = x.2.2.length ∧ x.2.2 = setL x.1 s) (fun x => 3 - x.1) (0, 0, []) ⟨⟨Nat.zero_le _, rfl, rfl⟩, [], Cut.A, allA⟩ ?_
  rintro ⟨i, m, l⟩ ⟨hi, hm, hl⟩
  change i ≤ 3 at hi
  change m = l.length at hm
  change l = setL i s at hl
  dsimp only
  have hsb : l.length ≤ i := by rw [hl]; exact setL_len i s
  by_cases hlt : i < 3
  · have hbit := bit_s hs hlt
    by_cases hk : keepB s (i : Int) = true
    · have hs2 : l ++ [(i : Int)] = setL (i + 1) s := by rw [setL_up, if_pos hk, hl]
      have hml : m + 1 = (l ++ [(i : Int)]).length := by rw [List.length_append, hm]; rfl
      rw [hk, eq_true (rfl : true = true), iff_true] at hbit
      rcases m with _ | m
      · obtain rfl : l = [] := List.length_eq_zero_iff.1 hm.symm
        (repeat' ((try (conv => whnf)); first | (with_reducible first | refine FCond.tA ?_ | refine FCond.fA ?_) | ((with_reducible refine FCond.i (fun hq => ?_) (fun hq => ?_)) <;> (try simp only [zA, zE, zD, zJ, zB, zI, Int.not_le, Int.not_lt] at hq)) | (with_reducible first | refine Fits.in64 (by omega) ?_ | refine FIdx.nat (by omega) ?_ | refine FIdx.int (by omega) ?_ | refine FTo.nat (by omega) ?_ | refine FTo.int (by omega) ?_) | ((with_reducible refine Need.mk ?_ ?_); focus exact needA) | (with_reducible refine FApp.grow ?_) | (refine fits3 (by omega) ?_)))
        all_goals (try (conv => whnf))
        (exact ⟨⟨(i + 1, 1, [] ++ [(i : Int)]), ⟨by show i + 1 ≤ 3; omega, hml, hs2⟩, by show 3 - (i + 1) < 3 - i; omega, [0], (by (refine Cut.of (Nat.le_of_ble_eq_true rfl) rfl rfl ?_; repeat (first | exact CutL.done | (refine CutL.turned rfl (by first | exact LnB.rowS | exact LnB.app (fun k hk => absurd hk (Nat.not_lt_zero k)) (fun _ _ => rfl) | exact LnB.A) ?_) | (refine CutL.gone (Nat.lt_of_lt_of_le (Nat.lt_succ_self _) (Nat.le_of_ble_eq_true rfl)) ?_)))), allA⟩⟩)
      · (repeat' ((try (conv => whnf)); first | (with_reducible first | refine FCond.tA ?_ | refine FCond.fA ?_) | ((with_reducible refine FCond.i (fun hq => ?_) (fun hq => ?_)) <;> (try simp only [zA, zE, zD, zJ, zB, zI, Int.not_le, Int.not_lt] at hq)) | (with_reducible first | refine Fits.in64 (by omega) ?_ | refine FIdx.nat (by omega) ?_ | refine FIdx.int (by omega) ?_ | refine FTo.nat (by omega) ?_ | refine FTo.int (by omega) ?_) | ((with_reducible refine Need.mk ?_ ?_); focus exact needA) | (with_reducible refine FApp.grow ?_) | (refine fits3 (by omega) ?_)))
        all_goals (try (conv => whnf))
        (exact ⟨⟨(i + 1, m + 1 + 1, l ++ [(i : Int)]), ⟨by show i + 1 ≤ 3; omega, hml, hs2⟩, by show 3 - (i + 1) < 3 - i; omega, [1], (by (refine Cut.of (Nat.le_of_ble_eq_true rfl) rfl rfl ?_; repeat (first | exact CutL.done | (refine CutL.turned rfl (by first | exact LnB.rowS | exact LnB.app (fun k hk o ho => int_eq (by rw [getD_snoc, if_pos (by omega)])) (fun o ho => by show AI _ = AI _; exact int_eq (by rw [getD_snoc, if_neg (by omega), if_pos (by omega)])) | exact LnB.A) ?_) | (refine CutL.gone (Nat.lt_of_lt_of_le (Nat.lt_succ_self _) (Nat.le_of_ble_eq_true rfl)) ?_)))), allA⟩⟩)
    · have hs2 : l = setL (i + 1) s := by rw [setL_up, if_neg hk, List.append_nil, hl]
      rw [show (keepB s (i : Int) = true) = False from eq_false hk, iff_false] at hbit
      rcases m with _ | m
      · (repeat' ((try (conv => whnf)); first | (with_reducible first | refine FCond.tA ?_ | refine FCond.fA ?_) | ((with_reducible refine FCond.i (fun hq => ?_) (fun hq => ?_)) <;> (try simp only [zA, zE, zD, zJ, zB, zI, Int.not_le, Int.not_lt] at hq)) | (with_reducible first | refine Fits.in64 (by omega) ?_ | refine FIdx.nat (by omega) ?_ | refine FIdx.int (by omega) ?_ | refine FTo.nat (by omega) ?_ | refine FTo.int (by omega) ?_) | ((with_reducible refine Need.mk ?_ ?_); focus exact needA) | (with_reducible refine FApp.grow ?_) | (refine fits3 (by omega) ?_)))
        all_goals (try (conv => whnf))
        (exact ⟨⟨(i + 1, 0, l), ⟨by show i + 1 ≤ 3; omega, hm, hs2⟩, by show 3 - (i + 1) < 3 - i; omega, [], Cut.A, allA⟩⟩)
      · (repeat' ((try (conv => whnf)); first | (with_reducible first | refine FCond.tA ?_ | refine FCond.fA ?_) | ((with_reducible refine FCond.i (fun hq => ?_) (fun hq => ?_)) <;> (try simp only [zA, zE, zD, zJ, zB, zI, Int.not_le, Int.not_lt] at hq)) | (with_reducible first | refine Fits.in64 (by omega) ?_ | refine FIdx.nat (by omega) ?_ | refine FIdx.int (by omega) ?_ | refine FTo.nat (by omega) ?_ | refine FTo.int (by omega) ?_) | ((with_reducible refine Need.mk ?_ ?_); focus exact needA) | (with_reducible refine FApp.grow ?_) | (refine fits3 (by omega) ?_)))
        all_goals (try (conv => whnf))
        (exact ⟨⟨(i + 1, m + 1, l), ⟨by show i + 1 ≤ 3; omega, hm, hs2⟩, by show 3 - (i + 1) < 3 - i; omega, [0], Cut.A, allA⟩⟩)
  · obtain rfl : i = 3 := by omega
    rw [← hl] at h0 ⊢
    rcases m with _ | m
    · omega
    · (repeat' ((try (conv => whnf)); first | (with_reducible first | refine FCond.tA ?_ | refine FCond.fA ?_) | ((with_reducible refine FCond.i (fun hq => ?_) (fun hq => ?_)) <;> (try simp only [zA, zE, zD, zJ, zB, zI, Int.not_le, Int.not_lt] at hq)) | (with_reducible first | refine Fits.in64 (by omega) ?_ | refine FIdx.nat (by omega) ?_ | refine FIdx.int (by omega) ?_ | refine FTo.nat (by omega) ?_ | refine FTo.int (by omega) ?_) | ((with_reducible refine Need.mk ?_ ?_); focus exact needA) | (with_reducible refine FApp.grow ?_)))
      all_goals (try (conv => whnf))
      exact ⟨⟨aInts false false l, [], [], Cut.nil _, Ln.pubE (goneB rfl) rfl (Nat.le_refl _) hm (fun _ _ _ _ => rfl), rfl, rfl⟩⟩
end Go.Proofs.Ytomkjfhepfinhaa

namespace Go.Proofs.Ytomkjfhepfinhaa
open Go.RowKit

theorem fits4 {i : Nat} {K : Int → Prop} (hi : i < 4) (h : K (i : Int)) : Fits .u64 (i : Int) K := ⟨by
  have : IntKind.u64.wrap (i : Int) = i := by
    rcases (show i = 0 ∨ i = 1 ∨ i = 2 ∨ i = 3 by omega) with rfl | rfl | rfl | rfl <;> decide
  rw [this]; exact h⟩
theorem setL_3 {n s : Nat} (hn : n ≤ 3) (hs : s < 2 ^ n) : setL 3 s = setL n s := by
  have h : ∀ j, n ≤ j → setL (j + 1) s = setL j s := fun j hj => by
    rw [setL_up, if_neg, List.append_nil]
    unfold keepB
    rw [Int.toNat_natCast, Nat.testBit_lt_two_pow (Nat.lt_of_lt_of_le hs (Nat.pow_le_pow_right (by decide) hj))]
    decide
  rcases (show n = 0 ∨ n = 1 ∨ n = 2 ∨ n = 3 by omega) with rfl | rfl | rfl | rfl
  · rw [h 2 (by omega), h 1 (by omega), h 0 (by omega)]
  · rw [h 2 (by omega), h 1 (by omega)]
  · rw [h 2 (by omega)]
  · rfl
theorem setL_pos {s : Nat} (h0 : 0 < s) (hs : s < 8) : 0 < (setL 3 s).length := by
  rcases (show s = 1 ∨ s = 2 ∨ s = 3 ∨ s = 4 ∨ s = 5 ∨ s = 6 ∨ s = 7 by omega) with rfl | rfl | rfl | rfl | rfl | rfl | rfl <;> decide
def rBeats (L : List Int) (w : Int) : PSt → Prop
  | none => True
  | some (b, f) => Beats L w b f
open Classical in
noncomputable def rhstep (t : Task) (most : Int) (s : Nat) (st : PSt) : PSt :=
  match rPlan (withT t (setL t.hands.length s)) with
  | none => st
  | some (_, w) => if w ≤ most ∧ rBeats (setL t.hands.length s) w st then some (setL t.hands.length s, w) else st
noncomputable def rhS (t : Task) (most : Int) : Nat → PSt
  | 0 => none
  | i + 1 => rhstep t most (i + 1) (rhS t most i)
theorem rh_none {t : Task} {most : Int} {s : Nat} {st : PSt} (hp : rPlan (withT t (setL t.hands.length s)) = none) : rhstep t most s st = st := by
  rw [rhstep, hp]
theorem rh_big {t : Task} {most : Int} {s : Nat} {st : PSt} {l : List Int} {w : Int} (hp : rPlan (withT t (setL t.hands.length s)) = some (l, w)) (hw : ¬ w ≤ most) : rhstep t most s st = st := by
  rw [rhstep, hp]; exact if_neg fun h => hw h.1
theorem rh_no {t : Task} {most : Int} {s : Nat} {st : PSt} {l : List Int} {w : Int} (hp : rPlan (withT t (setL t.hands.length s)) = some (l, w)) (hb : ¬ rBeats (setL t.hands.length s) w st) : rhstep t most s st = st := by
  rw [rhstep, hp]; exact if_neg fun h => hb h.2
theorem rh_yes {t : Task} {most : Int} {s : Nat} {st : PSt} {l : List Int} {w : Int} (hp : rPlan (withT t (setL t.hands.length s)) = some (l, w)) (hw : w ≤ most) (hb : rBeats (setL t.hands.length s) w st) : rhstep t most s st = some (setL t.hands.length s, w) := by
  rw [rhstep, hp]; exact if_pos ⟨hw, hb⟩
theorem nb_gt {L b : List Int} {w f : Int} (h : b.length < L.length) : ¬ rBeats L w (some (b, f)) := by
  rintro (a | a) <;> omega
theorem nb_w {L b : List Int} {w f : Int} (h : b.length = L.length) (e : f < w) : ¬ rBeats L w (some (b, f)) := by
  rintro (a | ⟨_, a | a⟩) <;> omega
theorem nb_l {L b : List Int} {w f : Int} (h : b.length = L.length) (e : w = f) (g : lowerL L b = false) : ¬ rBeats L w (some (b, f)) := by
  rintro (a | ⟨_, a | a⟩)
  · omega
  · omega
  · rw [g] at a; exact Bool.noConfusion a.2
theorem yb_no {L : List Int} {w : Int} : rBeats L w none := True.intro
theorem yb_lt {L b : List Int} {w f : Int} (h : L.length < b.length) : rBeats L w (some (b, f)) := Or.inl h
theorem yb_w {L b : List Int} {w f : Int} (h : b.length = L.length) (e : w < f) : rBeats L w (some (b, f)) := Or.inr ⟨h.symm, Or.inl e⟩
theorem yb_l {L b : List Int} {w f : Int} (h : b.length = L.length) (e : w = f) (g : lowerL L b = true) : rBeats L w (some (b, f)) := Or.inr ⟨h.symm, Or.inr ⟨e, g⟩⟩
theorem rhS_bd (t : Task) (most : Int) : ∀ i, (rhS t most i).ll.length ≤ t.hands.length
  | 0 => by simp [rhS, PSt.ll]
  | i + 1 => by
    rw [rhS, rhstep]
    split
    · exact rhS_bd t most i
    · split
      · exact setL_len _ _
      · exact rhS_bd t most i
noncomputable def rhandsE (t : Task) (most : Int) : List AV := if t.ok then (if most < 0 then [nilS, AI 1] else match rhS t most (2 ^ t.hands.length - 1) with | none => [nilS, AI 3] | some (l, _) => [aInts false false l, AI 0]) else [nilS, AI 40]
set_option maxHeartbeats 8000000 in
set_option maxRecDepth 100000 in
theorem refHands_ok (f : TFl) (t : Task) (most : Int) (h1 : t.hands.length ≤ 1000000) (h2 : t.parts.length ≤ 1000000) : ACall Try.prog 37 [aTask f t, AI most] [] (fun v h => v = .tup 2 (ofL (rhandsE t most)) ∧ h = []) := by
  have cC := refCheck_ok f t h1 h2
  (refine fcall_of mixed Try.func37 rfl (by decide) (hs := { pub := [8] }) ?k (ac := ?ac) ?c (rs := ?rs) ?r ?l ?H; (case k => kernel_rfl); (case c => (conv => (lhs; cbv))); (case r => (conv => (lhs; cbv))); (case l => exact Nat.le_of_ble_eq_true rfl))
  by_cases hok : t.ok = true
  case neg =>
    rw [check_40 hok] at cC
    (repeat' ((try (conv => whnf)); first | (with_reducible first | refine FCond.tA ?_ | refine FCond.fA ?_) | ((with_reducible refine FCond.i (fun hq => ?_) (fun hq => ?_)) <;> (try simp only [zA, zE, zD, zJ, zB, zI, Int.not_le, Int.not_lt] at hq)) | (with_reducible first | refine Fits.in64 (by omega) ?_ | refine FIdx.nat (by omega) ?_ | refine FIdx.int (by omega) ?_ | refine FTo.nat (by omega) ?_ | refine FTo.int (by omega) ?_) | ((with_reducible refine Need.mk ?_ ?_); focus exact needA) | (with_reducible refine FApp.grow ?_) | (refine FCall.pure (cC) ⟨Ln.sameB _ rfl, True.intro⟩ rfl ?_)))
    all_goals (try (conv => whnf))
    all_goals ((refine ⟨⟨_, [], [], Cut.nil _, Ln.sameB _ rfl, ?_, rfl⟩⟩); unfold rhandsE; rw [if_neg hok]; rfl)
  rw [check_0 hok] at cC
  by_cases hm : most < 0
  · (repeat' ((try (conv => whnf)); first | (with_reducible first | refine FCond.tA ?_ | refine FCond.fA ?_) | ((with_reducible refine FCond.i (fun hq => ?_) (fun hq => ?_)) <;> (try simp only [zA, zE, zD, zJ, zB, zI, Int.not_le, Int.not_lt] at hq)) | (with_reducible first | refine Fits.in64 (by omega) ?_ | refine FIdx.nat (by omega) ?_ | refine FIdx.int (by omega) ?_ | refine FTo.nat (by omega) ?_ | refine FTo.int (by omega) ?_) | ((with_reducible refine Need.mk ?_ ?_); focus exact needA) | (with_reducible refine FApp.grow ?_) | (refine FCall.pure (cC) ⟨Ln.sameB _ rfl, True.intro⟩ rfl ?_)))
    all_goals (try (conv => whnf))
    all_goals ((refine ⟨⟨_, [], [], Cut.nil _, Ln.sameB _ rfl, ?_, rfl⟩⟩); unfold rhandsE; rw [if_pos hok, if_pos hm]; rfl)
  have k := taskOk hok
  have k2 := k.hn
  have k3 := k.pn
  obtain ⟨P, hP, hP2, hP3, hP4⟩ : ∃ P : Nat, 2 ^ t.hands.length = P ∧ 1 * 2 ^ min ((t.hands.length : Int)).toNat IntKind.i64.bits = (P : Int) ∧ P ≤ 8 ∧ 2 ≤ P := by
    rcases (show t.hands.length = 1 ∨ t.hands.length = 2 ∨ t.hands.length = 3 by omega) with h | h | h <;> rw [h]
    · exact ⟨2, rfl, rfl, by decide, by decide⟩
    · exact ⟨4, rfl, rfl, by decide, by decide⟩
    · exact ⟨8, rfl, rfl, by decide, by decide⟩
  (repeat' ((try (conv => whnf)); first | (with_reducible first | refine FCond.tA ?_ | refine FCond.fA ?_) | ((with_reducible refine FCond.i (fun hq => ?_) (fun hq => ?_)) <;> (try simp only [zA, zE, zD, zJ, zB, zI, Int.not_le, Int.not_lt] at hq)) | (with_reducible first | refine Fits.in64 (by omega) ?_ | refine FIdx.nat (by omega) ?_ | refine FIdx.int (by omega) ?_ | refine FTo.nat (by omega) ?_ | refine FTo.int (by omega) ?_) | ((with_reducible refine Need.mk ?_ ?_); focus exact needA) | (with_reducible refine FApp.grow ?_) | (refine FCall.pure (cC) ⟨Ln.sameB _ rfl, True.intro⟩ rfl ?_)))
  (try (conv => whnf))
  refine FLoop.of (ACalls.mono _) (X := Nat × PSt) (fun x => [(1, AI most), (2, .ptr 0 0), (6, x.2.l), (7, AI x.2.w), (8, AI ((x.1 + 1 : Nat) : Int))]) (fun _ => [.box 5 (cTask f t)]) (fun x => x.1 + 1 ≤ P ∧ x.2 = rhS t most x.1) (fun x => P - x.1) (0, none) ⟨⟨by show 0 + 1 ≤ P; omega, rfl⟩, [0], Cut.A, allA⟩ ?_
  rintro ⟨i, st⟩ ⟨hi, hst⟩
  change i + 1 ≤ P at hi
  change st = rhS t most i at hst
  dsimp only
  by_cases hlt : i + 1 < P
  · have hsl := setL_len t.hands.length (i + 1)
    have h3 : setL 3 (i + 1) = setL t.hands.length (i + 1) := setL_3 (by omega) (by rw [hP]; exact hlt)
    have hpos := setL_pos (s := i + 1) (by omega) (by omega)
    have cM := members_ok (i + 1) (by omega) hpos
    rw [h3] at cM hpos
    have S := setL_sub (t := t) (s := i + 1) k hpos
    have cW := with_ok f t false false (setL t.hands.length (i + 1)) (by omega) S.inr
    have cP := rplan_ok ⟨false, false, f.zp, f.ep⟩ (withT t (setL t.hands.length (i + 1))) (withT_ok k S)
    have hb := rhS_bd t most i
    rw [← hst] at hb
    clear h3
    rcases st with _ | ⟨b, fw⟩
    · (repeat' ((try (conv => whnf)); first | (with_reducible first | refine FCond.tA ?_ | refine FCond.fA ?_) | ((with_reducible refine FCond.i (fun hq => ?_) (fun hq => ?_)) <;> (try simp only [zA, zE, zD, zJ, zB, zI, Int.not_le, Int.not_lt] at hq)) | (with_reducible first | refine Fits.in64 (by omega) ?_ | refine FIdx.nat (by omega) ?_ | refine FIdx.int (by omega) ?_ | refine FTo.nat (by omega) ?_ | refine FTo.int (by omega) ?_) | ((with_reducible refine Need.mk ?_ ?_); focus exact needA) | (with_reducible refine FApp.grow ?_)))
      (try (conv => whnf))
      refine FWk.of [(1, AI most), (2, .ptr 0 0), (6, aInts true false []), (7, AI 0), (8, AI ((i + 1 : Nat) : Int))] [.box 5 (cTask f t)] [0] Cut.A ⟨Ln.A, Ln.A, Ln.A, Ln.A, Ln.A, True.intro⟩ ?_
      rcases hp : rPlan (withT t (setL t.hands.length (i + 1))) with _ | ⟨l, w⟩
      · rw [hp] at cP
        replace cP : ACall Try.prog 62 [aTask ⟨false, false, f.zp, f.ep⟩ (withT t (setL t.hands.length (i + 1)))] [] (fun v h => v = .tup 3 (ofL [aInts true false [], AI 0, .bool false]) ∧ h = []) := cP
        (repeat' ((try (conv => whnf)); first | (with_reducible first | refine FCond.tA ?_ | refine FCond.fA ?_) | ((with_reducible refine FCond.i (fun hq => ?_) (fun hq => ?_)) <;> (try simp only [zA, zE, zD, zJ, zB, zI, Int.not_le, Int.not_lt] at hq)) | (with_reducible first | refine Fits.in64 (by omega) ?_ | refine FIdx.nat (by omega) ?_ | refine FIdx.int (by omega) ?_ | refine FTo.nat (by omega) ?_ | refine FTo.int (by omega) ?_) | ((with_reducible refine Need.mk ?_ ?_); focus exact needA) | (with_reducible refine FApp.grow ?_) | (refine fits4 (by omega) ?_) | (refine FCall.pure (cM) ⟨Ln.sameB _ rfl, True.intro⟩ rfl ?_) | (refine FCall.pure (cW) ⟨Ln.sameB _ rfl, Ln.sameB _ rfl, True.intro⟩ rfl ?_) | (refine FCall.pure (cP) ⟨Ln.sameB _ rfl, True.intro⟩ rfl ?_) | (refine FCall.pure (cK) ⟨Ln.sameB _ rfl, Ln.sameB _ rfl, True.intro⟩ rfl ?_)))
        all_goals (try (conv => whnf))
        (exact ⟨⟨(i + 1, none), ⟨by show i + 1 + 1 ≤ P; omega, by show _ = rhS t most (i + 1); rw [rhS, ← hst, rh_none hp]⟩, by show P - (i + 1) < P - i; omega, [0], Cut.A, allA⟩⟩)
      · rw [hp] at cP
        replace cP : ACall Try.prog 62 [aTask ⟨false, false, f.zp, f.ep⟩ (withT t (setL t.hands.length (i + 1)))] [] (fun v h => v = .tup 3 (ofL [aInts false false l, AI w, .bool true]) ∧ h = []) := cP
        by_cases hw : w ≤ most
        · (repeat' ((try (conv => whnf)); first | (with_reducible first | refine FCond.tA ?_ | refine FCond.fA ?_) | ((with_reducible refine FCond.i (fun hq => ?_) (fun hq => ?_)) <;> (try simp only [zA, zE, zD, zJ, zB, zI, Int.not_le, Int.not_lt] at hq)) | (with_reducible first | refine Fits.in64 (by omega) ?_ | refine FIdx.nat (by omega) ?_ | refine FIdx.int (by omega) ?_ | refine FTo.nat (by omega) ?_ | refine FTo.int (by omega) ?_) | ((with_reducible refine Need.mk ?_ ?_); focus exact needA) | (with_reducible refine FApp.grow ?_) | (refine fits4 (by omega) ?_) | (refine FCall.pure (cM) ⟨Ln.sameB _ rfl, True.intro⟩ rfl ?_) | (refine FCall.pure (cW) ⟨Ln.sameB _ rfl, Ln.sameB _ rfl, True.intro⟩ rfl ?_) | (refine FCall.pure (cP) ⟨Ln.sameB _ rfl, True.intro⟩ rfl ?_) | (refine FCall.pure (cK) ⟨Ln.sameB _ rfl, Ln.sameB _ rfl, True.intro⟩ rfl ?_)))
          all_goals (try (conv => whnf))
          (exact ⟨⟨(i + 1, some (setL t.hands.length (i + 1), w)), ⟨by show i + 1 + 1 ≤ P; omega, by show _ = rhS t most (i + 1); rw [rhS, ← hst, rh_yes hp hw yb_no]⟩, by show P - (i + 1) < P - i; omega, [0], Cut.A, allA⟩⟩)
        · (repeat' ((try (conv => whnf)); first | (with_reducible first | refine FCond.tA ?_ | refine FCond.fA ?_) | ((with_reducible refine FCond.i (fun hq => ?_) (fun hq => ?_)) <;> (try simp only [zA, zE, zD, zJ, zB, zI, Int.not_le, Int.not_lt] at hq)) | (with_reducible first | refine Fits.in64 (by omega) ?_ | refine FIdx.nat (by omega) ?_ | refine FIdx.int (by omega) ?_ | refine FTo.nat (by omega) ?_ | refine FTo.int (by omega) ?_) | ((with_reducible refine Need.mk ?_ ?_); focus exact needA) | (with_reducible refine FApp.grow ?_) | (refine fits4 (by omega) ?_) | (refine FCall.pure (cM) ⟨Ln.sameB _ rfl, True.intro⟩ rfl ?_) | (refine FCall.pure (cW) ⟨Ln.sameB _ rfl, Ln.sameB _ rfl, True.intro⟩ rfl ?_) | (refine FCall.pure (cP) ⟨Ln.sameB _ rfl, True.intro⟩ rfl ?_) | (refine FCall.pure (cK) ⟨Ln.sameB _ rfl, Ln.sameB _ rfl, True.intro⟩ rfl ?_)))
          all_goals (try (conv => whnf))
          (exact ⟨⟨(i + 1, none), ⟨by show i + 1 + 1 ≤ P; omega, by show _ = rhS t most (i + 1); rw [rhS, ← hst, rh_big hp hw]⟩, by show P - (i + 1) < P - i; omega, [0], Cut.A, allA⟩⟩)
    · (repeat' ((try (conv => whnf)); first | (with_reducible first | refine FCond.tA ?_ | refine FCond.fA ?_) | ((with_reducible refine FCond.i (fun hq => ?_) (fun hq => ?_)) <;> (try simp only [zA, zE, zD, zJ, zB, zI, Int.not_le, Int.not_lt] at hq)) | (with_reducible first | refine Fits.in64 (by omega) ?_ | refine FIdx.nat (by omega) ?_ | refine FIdx.int (by omega) ?_ | refine FTo.nat (by omega) ?_ | refine FTo.int (by omega) ?_) | ((with_reducible refine Need.mk ?_ ?_); focus exact needA) | (with_reducible refine FApp.grow ?_)))
      (try (conv => whnf))
      refine FWk.of [(1, AI most), (2, .ptr 0 0), (6, aInts false false b), (7, AI fw), (8, AI ((i + 1 : Nat) : Int))] [.box 5 (cTask f t)] [0] Cut.A ⟨Ln.A, Ln.A, Ln.A, Ln.A, Ln.A, True.intro⟩ ?_
      change b.length ≤ t.hands.length at hb
      rcases hp : rPlan (withT t (setL t.hands.length (i + 1))) with _ | ⟨l, w⟩
      · rw [hp] at cP
        replace cP : ACall Try.prog 62 [aTask ⟨false, false, f.zp, f.ep⟩ (withT t (setL t.hands.length (i + 1)))] [] (fun v h => v = .tup 3 (ofL [aInts true false [], AI 0, .bool false]) ∧ h = []) := cP
        (repeat' ((try (conv => whnf)); first | (with_reducible first | refine FCond.tA ?_ | refine FCond.fA ?_) | ((with_reducible refine FCond.i (fun hq => ?_) (fun hq => ?_)) <;> (try simp only [zA, zE, zD, zJ, zB, zI, Int.not_le, Int.not_lt] at hq)) | (with_reducible first | refine Fits.in64 (by omega) ?_ | refine FIdx.nat (by omega) ?_ | refine FIdx.int (by omega) ?_ | refine FTo.nat (by omega) ?_ | refine FTo.int (by omega) ?_) | ((with_reducible refine Need.mk ?_ ?_); focus exact needA) | (with_reducible refine FApp.grow ?_) | (refine fits4 (by omega) ?_) | (refine FCall.pure (cM) ⟨Ln.sameB _ rfl, True.intro⟩ rfl ?_) | (refine FCall.pure (cW) ⟨Ln.sameB _ rfl, Ln.sameB _ rfl, True.intro⟩ rfl ?_) | (refine FCall.pure (cP) ⟨Ln.sameB _ rfl, True.intro⟩ rfl ?_) | (refine FCall.pure (cK) ⟨Ln.sameB _ rfl, Ln.sameB _ rfl, True.intro⟩ rfl ?_)))
        all_goals (try (conv => whnf))
        (exact ⟨⟨(i + 1, some (b, fw)), ⟨by show i + 1 + 1 ≤ P; omega, by show _ = rhS t most (i + 1); rw [rhS, ← hst, rh_none hp]⟩, by show P - (i + 1) < P - i; omega, [0], Cut.A, allA⟩⟩)
      · rw [hp] at cP
        replace cP : ACall Try.prog 62 [aTask ⟨false, false, f.zp, f.ep⟩ (withT t (setL t.hands.length (i + 1)))] [] (fun v h => v = .tup 3 (ofL [aInts false false l, AI w, .bool true]) ∧ h = []) := cP
        by_cases hw : w ≤ most
        case neg =>
          (repeat' ((try (conv => whnf)); first | (with_reducible first | refine FCond.tA ?_ | refine FCond.fA ?_) | ((with_reducible refine FCond.i (fun hq => ?_) (fun hq => ?_)) <;> (try simp only [zA, zE, zD, zJ, zB, zI, Int.not_le, Int.not_lt] at hq)) | (with_reducible first | refine Fits.in64 (by omega) ?_ | refine FIdx.nat (by omega) ?_ | refine FIdx.int (by omega) ?_ | refine FTo.nat (by omega) ?_ | refine FTo.int (by omega) ?_) | ((with_reducible refine Need.mk ?_ ?_); focus exact needA) | (with_reducible refine FApp.grow ?_) | (refine fits4 (by omega) ?_) | (refine FCall.pure (cM) ⟨Ln.sameB _ rfl, True.intro⟩ rfl ?_) | (refine FCall.pure (cW) ⟨Ln.sameB _ rfl, Ln.sameB _ rfl, True.intro⟩ rfl ?_) | (refine FCall.pure (cP) ⟨Ln.sameB _ rfl, True.intro⟩ rfl ?_) | (refine FCall.pure (cK) ⟨Ln.sameB _ rfl, Ln.sameB _ rfl, True.intro⟩ rfl ?_)))
          all_goals (try (conv => whnf))
          (exact ⟨⟨(i + 1, some (b, fw)), ⟨by show i + 1 + 1 ≤ P; omega, by show _ = rhS t most (i + 1); rw [rhS, ← hst, rh_big hp hw]⟩, by show P - (i + 1) < P - i; omega, [0], Cut.A, allA⟩⟩)
        by_cases l1 : b.length < (setL t.hands.length (i + 1)).length
        · (repeat' ((try (conv => whnf)); first | (with_reducible first | refine FCond.tA ?_ | refine FCond.fA ?_) | ((with_reducible refine FCond.i (fun hq => ?_) (fun hq => ?_)) <;> (try simp only [zA, zE, zD, zJ, zB, zI, Int.not_le, Int.not_lt] at hq)) | (with_reducible first | refine Fits.in64 (by omega) ?_ | refine FIdx.nat (by omega) ?_ | refine FIdx.int (by omega) ?_ | refine FTo.nat (by omega) ?_ | refine FTo.int (by omega) ?_) | ((with_reducible refine Need.mk ?_ ?_); focus exact needA) | (with_reducible refine FApp.grow ?_) | (refine fits4 (by omega) ?_) | (refine FCall.pure (cM) ⟨Ln.sameB _ rfl, True.intro⟩ rfl ?_) | (refine FCall.pure (cW) ⟨Ln.sameB _ rfl, Ln.sameB _ rfl, True.intro⟩ rfl ?_) | (refine FCall.pure (cP) ⟨Ln.sameB _ rfl, True.intro⟩ rfl ?_) | (refine FCall.pure (cK) ⟨Ln.sameB _ rfl, Ln.sameB _ rfl, True.intro⟩ rfl ?_)))
          all_goals (try (conv => whnf))
          (exact ⟨⟨(i + 1, some (b, fw)), ⟨by show i + 1 + 1 ≤ P; omega, by show _ = rhS t most (i + 1); rw [rhS, ← hst, rh_no hp (nb_gt l1)]⟩, by show P - (i + 1) < P - i; omega, [0], Cut.A, allA⟩⟩)
        by_cases l2 : (setL t.hands.length (i + 1)).length < b.length
        · (repeat' ((try (conv => whnf)); first | (with_reducible first | refine FCond.tA ?_ | refine FCond.fA ?_) | ((with_reducible refine FCond.i (fun hq => ?_) (fun hq => ?_)) <;> (try simp only [zA, zE, zD, zJ, zB, zI, Int.not_le, Int.not_lt] at hq)) | (with_reducible first | refine Fits.in64 (by omega) ?_ | refine FIdx.nat (by omega) ?_ | refine FIdx.int (by omega) ?_ | refine FTo.nat (by omega) ?_ | refine FTo.int (by omega) ?_) | ((with_reducible refine Need.mk ?_ ?_); focus exact needA) | (with_reducible refine FApp.grow ?_) | (refine fits4 (by omega) ?_) | (refine FCall.pure (cM) ⟨Ln.sameB _ rfl, True.intro⟩ rfl ?_) | (refine FCall.pure (cW) ⟨Ln.sameB _ rfl, Ln.sameB _ rfl, True.intro⟩ rfl ?_) | (refine FCall.pure (cP) ⟨Ln.sameB _ rfl, True.intro⟩ rfl ?_) | (refine FCall.pure (cK) ⟨Ln.sameB _ rfl, Ln.sameB _ rfl, True.intro⟩ rfl ?_)))
          all_goals (try (conv => whnf))
          (exact ⟨⟨(i + 1, some (setL t.hands.length (i + 1), w)), ⟨by show i + 1 + 1 ≤ P; omega, by show _ = rhS t most (i + 1); rw [rhS, ← hst, rh_yes hp hw (yb_lt l2)]⟩, by show P - (i + 1) < P - i; omega, [0], Cut.A, allA⟩⟩)
        have l3 : b.length = (setL t.hands.length (i + 1)).length := by omega
        by_cases w1 : w < fw
        · (repeat' ((try (conv => whnf)); first | (with_reducible first | refine FCond.tA ?_ | refine FCond.fA ?_) | ((with_reducible refine FCond.i (fun hq => ?_) (fun hq => ?_)) <;> (try simp only [zA, zE, zD, zJ, zB, zI, Int.not_le, Int.not_lt] at hq)) | (with_reducible first | refine Fits.in64 (by omega) ?_ | refine FIdx.nat (by omega) ?_ | refine FIdx.int (by omega) ?_ | refine FTo.nat (by omega) ?_ | refine FTo.int (by omega) ?_) | ((with_reducible refine Need.mk ?_ ?_); focus exact needA) | (with_reducible refine FApp.grow ?_) | (refine fits4 (by omega) ?_) | (refine FCall.pure (cM) ⟨Ln.sameB _ rfl, True.intro⟩ rfl ?_) | (refine FCall.pure (cW) ⟨Ln.sameB _ rfl, Ln.sameB _ rfl, True.intro⟩ rfl ?_) | (refine FCall.pure (cP) ⟨Ln.sameB _ rfl, True.intro⟩ rfl ?_) | (refine FCall.pure (cK) ⟨Ln.sameB _ rfl, Ln.sameB _ rfl, True.intro⟩ rfl ?_)))
          all_goals (try (conv => whnf))
          (exact ⟨⟨(i + 1, some (setL t.hands.length (i + 1), w)), ⟨by show i + 1 + 1 ≤ P; omega, by show _ = rhS t most (i + 1); rw [rhS, ← hst, rh_yes hp hw (yb_w l3 w1)]⟩, by show P - (i + 1) < P - i; omega, [0], Cut.A, allA⟩⟩)
        by_cases w2 : fw < w
        · (repeat' ((try (conv => whnf)); first | (with_reducible first | refine FCond.tA ?_ | refine FCond.fA ?_) | ((with_reducible refine FCond.i (fun hq => ?_) (fun hq => ?_)) <;> (try simp only [zA, zE, zD, zJ, zB, zI, Int.not_le, Int.not_lt] at hq)) | (with_reducible first | refine Fits.in64 (by omega) ?_ | refine FIdx.nat (by omega) ?_ | refine FIdx.int (by omega) ?_ | refine FTo.nat (by omega) ?_ | refine FTo.int (by omega) ?_) | ((with_reducible refine Need.mk ?_ ?_); focus exact needA) | (with_reducible refine FApp.grow ?_) | (refine fits4 (by omega) ?_) | (refine FCall.pure (cM) ⟨Ln.sameB _ rfl, True.intro⟩ rfl ?_) | (refine FCall.pure (cW) ⟨Ln.sameB _ rfl, Ln.sameB _ rfl, True.intro⟩ rfl ?_) | (refine FCall.pure (cP) ⟨Ln.sameB _ rfl, True.intro⟩ rfl ?_) | (refine FCall.pure (cK) ⟨Ln.sameB _ rfl, Ln.sameB _ rfl, True.intro⟩ rfl ?_)))
          all_goals (try (conv => whnf))
          (exact ⟨⟨(i + 1, some (b, fw)), ⟨by show i + 1 + 1 ≤ P; omega, by show _ = rhS t most (i + 1); rw [rhS, ← hst, rh_no hp (nb_w l3 w2)]⟩, by show P - (i + 1) < P - i; omega, [0], Cut.A, allA⟩⟩)
        have w3 : w = fw := by omega
        have cK := lower_ok false false false false (setL t.hands.length (i + 1)) b (by omega) (by omega)
        cases hlw : lowerL (setL t.hands.length (i + 1)) b
        · rw [hlw] at cK
          (repeat' ((try (conv => whnf)); first | (with_reducible first | refine FCond.tA ?_ | refine FCond.fA ?_) | ((with_reducible refine FCond.i (fun hq => ?_) (fun hq => ?_)) <;> (try simp only [zA, zE, zD, zJ, zB, zI, Int.not_le, Int.not_lt] at hq)) | (with_reducible first | refine Fits.in64 (by omega) ?_ | refine FIdx.nat (by omega) ?_ | refine FIdx.int (by omega) ?_ | refine FTo.nat (by omega) ?_ | refine FTo.int (by omega) ?_) | ((with_reducible refine Need.mk ?_ ?_); focus exact needA) | (with_reducible refine FApp.grow ?_) | (refine fits4 (by omega) ?_) | (refine FCall.pure (cM) ⟨Ln.sameB _ rfl, True.intro⟩ rfl ?_) | (refine FCall.pure (cW) ⟨Ln.sameB _ rfl, Ln.sameB _ rfl, True.intro⟩ rfl ?_) | (refine FCall.pure (cP) ⟨Ln.sameB _ rfl, True.intro⟩ rfl ?_) | (refine FCall.pure (cK) ⟨Ln.sameB _ rfl, Ln.sameB _ rfl, True.intro⟩ rfl ?_)))
          all_goals (try (conv => whnf))
          (exact ⟨⟨(i + 1, some (b, fw)), ⟨by show i + 1 + 1 ≤ P; omega, by show _ = rhS t most (i + 1); rw [rhS, ← hst, rh_no hp (nb_l l3 w3 hlw)]⟩, by show P - (i + 1) < P - i; omega, [0], Cut.A, allA⟩⟩)
        · rw [hlw] at cK
          (repeat' ((try (conv => whnf)); first | (with_reducible first | refine FCond.tA ?_ | refine FCond.fA ?_) | ((with_reducible refine FCond.i (fun hq => ?_) (fun hq => ?_)) <;> (try simp only [zA, zE, zD, zJ, zB, zI, Int.not_le, Int.not_lt] at hq)) | (with_reducible first | refine Fits.in64 (by omega) ?_ | refine FIdx.nat (by omega) ?_ | refine FIdx.int (by omega) ?_ | refine FTo.nat (by omega) ?_ | refine FTo.int (by omega) ?_) | ((with_reducible refine Need.mk ?_ ?_); focus exact needA) | (with_reducible refine FApp.grow ?_) | (refine fits4 (by omega) ?_) | (refine FCall.pure (cM) ⟨Ln.sameB _ rfl, True.intro⟩ rfl ?_) | (refine FCall.pure (cW) ⟨Ln.sameB _ rfl, Ln.sameB _ rfl, True.intro⟩ rfl ?_) | (refine FCall.pure (cP) ⟨Ln.sameB _ rfl, True.intro⟩ rfl ?_) | (refine FCall.pure (cK) ⟨Ln.sameB _ rfl, Ln.sameB _ rfl, True.intro⟩ rfl ?_)))
          all_goals (try (conv => whnf))
          (exact ⟨⟨(i + 1, some (setL t.hands.length (i + 1), w)), ⟨by show i + 1 + 1 ≤ P; omega, by show _ = rhS t most (i + 1); rw [rhS, ← hst, rh_yes hp hw (yb_l l3 w3 hlw)]⟩, by show P - (i + 1) < P - i; omega, [0], Cut.A, allA⟩⟩)
  · obtain rfl : P = i + 1 := by omega
    have hi0 : 2 ^ t.hands.length - 1 = i := by omega
    rcases st with _ | ⟨b, fw⟩
    · have hE : rhandsE t most = [nilS, AI 3] := by unfold rhandsE; rw [if_pos hok, if_neg hm, hi0, ← hst]
      rw [hE]
      (repeat' ((try (conv => whnf)); first | (with_reducible first | refine FCond.tA ?_ | refine FCond.fA ?_) | ((with_reducible refine FCond.i (fun hq => ?_) (fun hq => ?_)) <;> (try simp only [zA, zE, zD, zJ, zB, zI, Int.not_le, Int.not_lt] at hq)) | (with_reducible first | refine Fits.in64 (by omega) ?_ | refine FIdx.nat (by omega) ?_ | refine FIdx.int (by omega) ?_ | refine FTo.nat (by omega) ?_ | refine FTo.int (by omega) ?_) | ((with_reducible refine Need.mk ?_ ?_); focus exact needA) | (with_reducible refine FApp.grow ?_)))
      (try (conv => whnf))
      refine FWk.of [(1, AI most), (2, .ptr 0 0), (6, aInts true false []), (7, AI 0), (8, AI ((i + 1 : Nat) : Int))] [.box 5 (cTask f t)] [0] Cut.A ⟨Ln.A, Ln.A, Ln.A, Ln.A, Ln.A, True.intro⟩ ?_
      (repeat' ((try (conv => whnf)); first | (with_reducible first | refine FCond.tA ?_ | refine FCond.fA ?_) | ((with_reducible refine FCond.i (fun hq => ?_) (fun hq => ?_)) <;> (try simp only [zA, zE, zD, zJ, zB, zI, Int.not_le, Int.not_lt] at hq)) | (with_reducible first | refine Fits.in64 (by omega) ?_ | refine FIdx.nat (by omega) ?_ | refine FIdx.int (by omega) ?_ | refine FTo.nat (by omega) ?_ | refine FTo.int (by omega) ?_) | ((with_reducible refine Need.mk ?_ ?_); focus exact needA) | (with_reducible refine FApp.grow ?_) | (refine fits4 (by omega) ?_)))
      all_goals (try (conv => whnf))
      (refine ⟨⟨_, [], [], Cut.nil _, Ln.sameB _ rfl, ?_, rfl⟩⟩)
      rfl
    · have hE : rhandsE t most = [aInts false false b, AI 0] := by unfold rhandsE; rw [if_pos hok, if_neg hm, hi0, ← hst]
      rw [hE]
      (repeat' ((try (conv => whnf)); first | (with_reducible first | refine FCond.tA ?_ | refine FCond.fA ?_) | ((with_reducible refine FCond.i (fun hq => ?_) (fun hq => ?_)) <;> (try simp only [zA, zE, zD, zJ, zB, zI, Int.not_le, Int.not_lt] at hq)) | (with_reducible first | refine Fits.in64 (by omega) ?_ | refine FIdx.nat (by omega) ?_ | refine FIdx.int (by omega) ?_ | refine FTo.nat (by omega) ?_ | refine FTo.int (by omega) ?_) | ((with_reducible refine Need.mk ?_ ?_); focus exact needA) | (with_reducible refine FApp.grow ?_)))
      (try (conv => whnf))
      refine FWk.of [(1, AI most), (2, .ptr 0 0), (6, aInts false false b), (7, AI fw), (8, AI ((i + 1 : Nat) : Int))] [.box 5 (cTask f t)] [0] Cut.A ⟨Ln.A, Ln.A, Ln.A, Ln.A, Ln.A, True.intro⟩ ?_
      (repeat' ((try (conv => whnf)); first | (with_reducible first | refine FCond.tA ?_ | refine FCond.fA ?_) | ((with_reducible refine FCond.i (fun hq => ?_) (fun hq => ?_)) <;> (try simp only [zA, zE, zD, zJ, zB, zI, Int.not_le, Int.not_lt] at hq)) | (with_reducible first | refine Fits.in64 (by omega) ?_ | refine FIdx.nat (by omega) ?_ | refine FIdx.int (by omega) ?_ | refine FTo.nat (by omega) ?_ | refine FTo.int (by omega) ?_) | ((with_reducible refine Need.mk ?_ ?_); focus exact needA) | (with_reducible refine FApp.grow ?_) | (refine fits4 (by omega) ?_)))
      all_goals (try (conv => whnf))
      (refine ⟨⟨_, [], [], Cut.nil _, Ln.sameB _ rfl, ?_, rfl⟩⟩)
      rfl
end Go.Proofs.Ytomkjfhepfinhaa

namespace Go.Proofs.Ytomkjfhepfinhaa
open Go.RowKit

theorem rEv_eq {t : Task} (k : TaskOk t) : ∀ (n : Nat) (r : List Int), rEv t n r = if isRight t r then everyP t (allL t.hands.length) n r else []
  | 0, r => by rw [rEv, everyP]
  | n + 1, r => by
    rw [rEv, everyP]
    by_cases h : isRight t r = true
    · rw [if_pos h, if_pos h]
      have : ∀ l : List Int, (∀ x ∈ l, 0 ≤ x ∧ x < t.hands.length) → (l.flatMap fun h => rEv t n (r ++ [h])) = l.flatMap fun h => if followsP t r h then everyP t (allL t.hands.length) n (r ++ [h]) else [] := fun l hl => by
        induction l with
        | nil => rfl
        | cons x xs ih =>
          rw [List.flatMap_cons, List.flatMap_cons, ih fun y hy => hl y (List.mem_cons_of_mem _ hy), rEv_eq k n (r ++ [x]), isRight_snoc k (hl x List.mem_cons_self), h, Bool.true_and]
      exact this _ fun x hx => allL_mem.1 hx
    · rw [if_neg h, if_neg h]
theorem rTo_fold (t : Task) (L : List (List Int)) : ∀ i, i ≤ L.length → rTo t L i = (L.take i).foldl (rStep t) none
  | 0, _ => rfl
  | i + 1, hi => by
    have e : L.take (i + 1) = L.take i ++ [L.getD i []] := by
      rw [List.take_add_one, List.getElem?_eq_getElem (by omega)]; simp [List.getD, List.getElem?_eq_getElem (show i < L.length by omega)]
    rw [rTo, e, List.foldl_append, rTo_fold t L i (by omega)]; rfl
theorem rStep_eq {t : Task} {s : PSt} {x : List Int} (q : RotaIn t x) : rStep t s x = better t s x := by
  have hw : worst t x = badOf t x := (cTo_best q).symm
  unfold rStep better
  rcases s with _ | ⟨b, w⟩
  · rw [hw]; rfl
  · show (if worst t x < w then some (x, worst t x) else some (b, w)) = if decide (w ≤ badOf t x) = true then some (b, w) else some (x, badOf t x)
    rw [hw]
    by_cases h : badOf t x < w
    · rw [if_pos h, if_neg (by rw [decide_eq_true_eq]; omega)]
    · rw [if_neg h, if_pos (by rw [decide_eq_true_eq]; omega)]
theorem fold_eq {t : Task} : ∀ {L : List (List Int)} {s : PSt}, (∀ x ∈ L, RotaIn t x) → L.foldl (rStep t) s = L.foldl (better t) s
  | [], _, _ => rfl
  | x :: xs, s, h => by
    rw [List.foldl_cons, List.foldl_cons, rStep_eq (h x List.mem_cons_self)]
    exact fold_eq fun y hy => h y (List.mem_cons_of_mem _ hy)
theorem rPlan_eq {t : Task} (k : TaskOk t) : rPlan t = planS t (allL t.hands.length) := by
  have hnil : isRight t [] = true := isRight_all.2 fun _ _ _ => rfl
  have hin := rEv_in (t := t) (n := t.parts.length) (r := []) (fun i hi => absurd hi (Nat.not_lt_zero i))
  unfold rPlan planS
  rw [rTo_fold t _ _ (Nat.le_refl _), List.take_length, fold_eq fun x hx => ⟨by have := (hin x hx).1; simp at this; omega, (hin x hx).2⟩]
  rw [rEv_eq k, if_pos hnil]
  exact (dfs_eq k (fun h hh => allL_mem.1 hh) (by simp) (rota_nil t)).symm
theorem rPlanE_eq {t : Task} : rPlanE t = planE t := by
  unfold rPlanE planE
  by_cases hok : t.ok = true
  · rw [if_pos hok, if_pos hok, rPlan_eq (taskOk hok)]
    rcases planS t (allL t.hands.length) with _ | ⟨b, w⟩ <;> rfl
  · rw [if_neg hok, if_neg hok]
end Go.Proofs.Ytomkjfhepfinhaa
