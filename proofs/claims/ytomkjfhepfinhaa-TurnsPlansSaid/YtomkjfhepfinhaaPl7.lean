/- Turns: the example, works, keeps. / Turns: what a right rota keeps; THE THEOREM OF THE TURNS (TurnsLimit), walked. / Turns: the reference's every. / Turns: the reference's plan, Plan, members. / Turns: slices.DeleteFunc over the hands that a set leaves out; slices.Compare. -/
import Derived.Test.YtomkjfhepfinhaaPl6
import Derived.Test.YtomkjfhepfinhaaPl4
set_option linter.unusedSimpArgs false
set_option linter.unusedVariables false
namespace Go.Proofs.Ytomkjfhepfinhaa
open Go.RowKit

def exT : Task := ⟨[⟨0, 2, 2, 3, 1, 2, 1⟩, ⟨0, 0, 1, 4, 2, 2, 2⟩], [1, 1, 2, 1], 2, 1, 1⟩
def exF : TFl := ⟨false, true, false, true⟩
set_option maxHeartbeats 4000000 in
set_option maxRecDepth 100000 in
theorem span_ok (l h : Int) : ACall Try.prog 24 [AI l, AI h] [] (fun r h' => r = aSpan l h ∧ h' = []) := by
  (refine fcall_of mixed Try.func24 rfl (by decide) (hs := {}) ?k (ac := ?ac) ?c (rs := ?rs) ?r ?l ?H; (case k => kernel_rfl); (case c => (conv => (lhs; cbv))); (case r => (conv => (lhs; cbv))); (case l => exact Nat.le_of_ble_eq_true rfl))
  (repeat' ((try (conv => whnf)); first | (with_reducible first | refine FCond.tA ?_ | refine FCond.fA ?_) | ((with_reducible refine FCond.i (fun hq => ?_) (fun hq => ?_)) <;> (try simp only [zA, zE, zD, zJ, zB, zI, Int.not_le, Int.not_lt] at hq)) | (with_reducible first | refine Fits.in64 (by omega) ?_ | refine FIdx.nat (by omega) ?_ | refine FIdx.int (by omega) ?_ | refine FTo.nat (by omega) ?_ | refine FTo.int (by omega) ?_) | ((with_reducible refine Need.mk ?_ ?_); focus exact needA) | (with_reducible refine FApp.grow ?_)))
  (try (conv => whnf))
  (refine ⟨⟨_, [], [], Cut.nil _, Ln.sameB _ rfl, ?_, rfl⟩⟩)
  rfl
set_option maxHeartbeats 4000000 in
set_option maxRecDepth 100000 in
theorem example_ok : ACall Try.prog 39 [] [] (fun r h' => r = aTask exF exT ∧ h' = []) := by
  (refine fcall_of mixed Try.func39 rfl (by decide) (hs := {}) ?k (ac := ?ac) ?c (rs := ?rs) ?r ?l ?H; (case k => kernel_rfl); (case c => (conv => (lhs; cbv))); (case r => (conv => (lhs; cbv))); (case l => exact Nat.le_of_ble_eq_true rfl))
  (repeat' ((try (conv => whnf)); first | (with_reducible first | refine FCond.tA ?_ | refine FCond.fA ?_) | ((with_reducible refine FCond.i (fun hq => ?_) (fun hq => ?_)) <;> (try simp only [zA, zE, zD, zJ, zB, zI, Int.not_le, Int.not_lt] at hq)) | (with_reducible first | refine Fits.in64 (by omega) ?_ | refine FIdx.nat (by omega) ?_ | refine FIdx.int (by omega) ?_ | refine FTo.nat (by omega) ?_ | refine FTo.int (by omega) ?_) | ((with_reducible refine Need.mk ?_ ?_); focus exact needA) | (with_reducible refine FApp.grow ?_) | (refine FCall.pure ((span_ok _ _)) ⟨Ln.sameB _ rfl, Ln.sameB _ rfl, True.intro⟩ rfl ?_)))
  (try (conv => whnf))
  refine ⟨⟨aTask exF exT, [], [], Cut.nil _, Ln.aggN ⟨⟨⟨⟨⟨True.intro, Ln.sl _ _ _ _ _ _ _ (fun h => h) (fun k hk o ho => ?_)⟩, Ln.sl _ _ _ _ _ _ _ (fun h => h) (fun k hk o ho => ?_)⟩, Ln.A⟩, Ln.A⟩, Ln.A⟩, rfl, rfl⟩⟩
  · rcases (show k = 0 ∨ k = 1 by omega) with rfl | rfl <;> rcases (show o = 0 ∨ o = 1 ∨ o = 2 ∨ o = 3 ∨ o = 4 ∨ o = 5 ∨ o = 6 by omega) with rfl | rfl | rfl | rfl | rfl | rfl | rfl <;> rfl
  · obtain rfl : o = 0 := by omega
    rcases (show k = 0 ∨ k = 1 ∨ k = 2 ∨ k = 3 by omega) with rfl | rfl | rfl | rfl <;> rfl
theorem ex_plan : planS exT (allL exT.hands.length) = some ([1, 1, 0, 0], 15) := by decide +kernel
theorem ex_planE : planE exT = [aInts false false [1, 1, 0, 0], AI 15, AI 0] := by
  have h : exT.ok = true := by decide +kernel
  unfold planE
  rw [if_pos h, ex_plan]; rfl
theorem ex_mist : mistakesE exT [1, 1, 0, 0] = [AI 11, AI 15, AI 0] := by
  have h : checkRota exT [1, 1, 0, 0] = 0 := by decide +kernel
  have h1 : (runC exT [1, 1, 0, 0] (extreme exT [1, 1, 0, 0] false)).bad = 11 := by decide +kernel
  have h2 : worst exT [1, 1, 0, 0] = 15 := by decide +kernel
  unfold mistakesE
  rw [if_pos h, h1, h2]
theorem ex_planC : ACall Try.prog 13 [aTask exF exT] [] (fun v h => v = .tup 3 (ofL [aInts false false [1, 1, 0, 0], AI 15, AI 0]) ∧ h = []) := by
  have := pPlan_ok exF exT (by decide) (by decide)
  rwa [ex_planE] at this
theorem ex_mistC : ACall Try.prog 17 [aTask exF exT, aInts false true [1, 1, 0, 0]] [] (fun v h => v = .tup 3 (ofL [AI 11, AI 15, AI 0]) ∧ h = []) := by
  have := mistakes_ok exF exT false true [1, 1, 0, 0] (by decide) (by decide) (by decide)
  rwa [ex_mist] at this
theorem ex_sameC : ACall Try.prog 33 [aInts false false [1, 1, 0, 0], aInts false true [1, 1, 0, 0]] [] (fun r h => r = .bool true ∧ h = []) := sameInts_ok false false false true [1, 1, 0, 0] [1, 1, 0, 0] (by decide)
theorem Ln.lit4 {σ : Nat → Nat → Prop} {Bp : Nat → Prop} {H : List AB} {c : Nat → Nat → AV} {a b x y : Int} (h0 : c 0 0 = AI a) (h1 : c 1 0 = AI b) (h2 : c 2 0 = AI x) (h3 : c 3 0 = AI y) : Ln σ Bp H (.sl false true 4 1 c) (aInts false true [a, b, x, y]) :=
  Ln.sl _ _ _ _ _ _ _ (fun h => h) fun k hk o ho => by
    obtain rfl : o = 0 := by omega
    rcases (show k = 0 ∨ k = 1 ∨ k = 2 ∨ k = 3 by omega) with rfl | rfl | rfl | rfl
    · exact h0.symm
    · exact h1.symm
    · exact h2.symm
    · exact h3.symm
set_option maxHeartbeats 4000000 in
set_option maxRecDepth 100000 in
theorem works_ok : ACall Try.prog 12 [] [] (fun r h' => r = .bool true ∧ h' = []) := by
  (refine fcall_of mixed Try.func12 rfl (by decide) (hs := {}) ?k (ac := ?ac) ?c (rs := ?rs) ?r ?l ?H; (case k => kernel_rfl); (case c => (conv => (lhs; cbv))); (case r => (conv => (lhs; cbv))); (case l => exact Nat.le_of_ble_eq_true rfl))
  (repeat' ((try (conv => whnf)); first | (with_reducible first | refine FCond.tA ?_ | refine FCond.fA ?_) | ((with_reducible refine FCond.i (fun hq => ?_) (fun hq => ?_)) <;> (try simp only [zA, zE, zD, zJ, zB, zI, Int.not_le, Int.not_lt] at hq)) | (with_reducible first | refine Fits.in64 (by omega) ?_ | refine FIdx.nat (by omega) ?_ | refine FIdx.int (by omega) ?_ | refine FTo.nat (by omega) ?_ | refine FTo.int (by omega) ?_) | ((with_reducible refine Need.mk ?_ ?_); focus exact needA) | (with_reducible refine FApp.grow ?_) | (refine FCall.pure example_ok True.intro rfl ?_) | (refine FCall.pure (ex_planC) ⟨Ln.sameB _ rfl, True.intro⟩ rfl ?_) | (refine FCall.pure ex_mistC ⟨Ln.sameB _ rfl, Ln.lit4 rfl rfl rfl rfl, True.intro⟩ rfl ?_) | (refine FCall.pure ex_sameC ⟨Ln.sameB _ rfl, Ln.lit4 rfl rfl rfl rfl, True.intro⟩ rfl ?_)))
  all_goals (try (conv => whnf))
  all_goals (refine ⟨⟨_, [], [], Cut.nil _, Ln.sameB _ rfl, ?_, rfl⟩⟩)
  rfl
def rowAt (r : List Int) : Nat → Nat
  | 0 => 0
  | i + 1 => trailTo (r.getD i 0) r (i + 1)
theorem rowAt_step {r : List Int} {i : Nat} : rowAt r (i + 1) = if 0 < i ∧ r.getD i 0 = r.getD (i - 1) 0 then rowAt r i + 1 else 1 := by
  simp only [rowAt, trailTo, if_true]
  cases i with
  | zero => rfl
  | succ i =>
    simp only [Nat.add_sub_cancel]
    by_cases e : r.getD (i + 1) 0 = r.getD i 0
    · rw [if_pos ⟨by omega, e⟩, e, trailTo, if_pos rfl]
    · rw [if_neg (fun h => e h.2), trailTo, if_neg (Ne.symm e)]
structure KeepsOk (t : Task) (r : List Int) : Prop where
  row : ∀ i : Nat, i < r.length → (rowAt r (i + 1) : Int) ≤ t.limit
  back : ∀ i k : Nat, i + 2 ≤ k → k < r.length → (k : Int) ≤ (i : Int) + t.rest → r.getD (i + 1) 0 ≠ r.getD i 0 → r.getD k 0 ≠ r.getD i 0
set_option maxHeartbeats 4000000 in
set_option maxRecDepth 100000 in
theorem keeps_ok (f : TFl) (t : Task) (z e : Bool) (r : List Int) (h1 : r.length ≤ 1000) (h2 : 0 ≤ t.rest ∧ t.rest ≤ 1000) (K : KeepsOk t r) : ACall Try.prog 18 [aTask f t, aInts z e r] [] (fun v h => v = .bool true ∧ h = []) := by
  (refine fcall_of mixed Try.func18 rfl (by decide) (hs := {}) ?k (ac := ?ac) ?c (rs := ?rs) ?r ?l ?H; (case k => kernel_rfl); (case c => (conv => (lhs; cbv))); (case r => (conv => (lhs; cbv))); (case l => exact Nat.le_of_ble_eq_true rfl))
  (repeat' ((try (conv => whnf)); first | (with_reducible first | refine FCond.tA ?_ | refine FCond.fA ?_) | ((with_reducible refine FCond.i (fun hq => ?_) (fun hq => ?_)) <;> (try simp only [zA, zE, zD, zJ, zB, zI, Int.not_le, Int.not_lt] at hq)) | (with_reducible first | refine Fits.in64 (by omega) ?_ | refine FIdx.nat (by omega) ?_ | refine FIdx.int (by omega) ?_ | refine FTo.nat (by omega) ?_ | refine FTo.int (by omega) ?_) | ((with_reducible refine Need.mk ?_ ?_); focus exact needA) | (with_reducible refine FApp.grow ?_)))
  (try (conv => whnf))
  refine FLoop.of (ACalls.mono _) (X := Nat) (fun i => [(1, aInts z e r), (2, .ptr 0 0), (5, AI (rowAt r i)), (6, AI i)]) (fun _ => [.box 5 (cTask f t)]) (fun i => i ≤ r.length) (fun i => r.length - i) 0 ⟨by omega, [0], Cut.A, allA⟩ ?_
  intro i hi
  have hb : rowAt r i ≤ i := by
    cases i with
    | zero => exact Nat.le_refl _
    | succ i => exact trailTo_le _ _ _
  by_cases hlt : i < r.length
  · have hst := rowAt_step (r := r) (i := i)
    have hrw := K.row i hlt
    have hbb : rowAt r (i + 1) ≤ i + 1 := trailTo_le _ _ _
    obtain ⟨R, hR⟩ : ∃ R : Nat, rowAt r (i + 1) = R := ⟨_, rfl⟩
    rw [hR] at hst hrw hbb
    have t1 : ((i : Int) - 1).toNat = i - 1 := by omega
    have t2 : ((i : Int) + 1).toNat = i + 1 := by omega
    have hA : 0 < (i : Int) → r.getD i 0 = r.getD ((i : Int) - 1).toNat 0 → R = rowAt r i + 1 := fun a b => by rw [hst, if_pos ⟨by omega, by rw [b, t1]⟩]
    have hB : ¬ r.getD i 0 = r.getD ((i : Int) - 1).toNat 0 → R = 1 := fun b => by rw [hst, if_neg (fun h => b (by rw [t1]; exact h.2))]
    have hC : (i : Int) ≤ 0 → R = 1 := fun b => by rw [hst, if_neg (fun h => by omega)]
    have hK : ∀ k : Nat, i + 2 ≤ k → (k : Int) < r.length → (k : Int) ≤ (i : Int) + t.rest → ¬ r.getD ((i : Int) + 1).toNat 0 = r.getD i 0 → ¬ r.getD k 0 = r.getD i 0 := fun k a b c d => K.back i k a (by omega) c (by rw [t2] at d; exact d)
    clear hst
    (repeat' ((try (conv => whnf)); first | (with_reducible first | refine FCond.tA ?_ | refine FCond.fA ?_) | ((with_reducible refine FCond.i (fun hq => ?_) (fun hq => ?_)) <;> (try simp only [zA, zE, zD, zJ, zB, zI, Int.not_le, Int.not_lt] at hq)) | (with_reducible first | refine Fits.in64 (by omega) ?_ | refine FIdx.nat (by omega) ?_ | refine FIdx.int (by omega) ?_ | refine FTo.nat (by omega) ?_ | refine FTo.int (by omega) ?_) | ((with_reducible refine Need.mk ?_ ?_); focus exact needA) | (with_reducible refine FApp.grow ?_)))
    all_goals (try (conv => whnf))
    all_goals
      have hRR : R = 1 ∨ R = rowAt r i + 1 := by
        first
        | exact .inr (hA (by omega) (by assumption))
        | exact .inl (hB (by assumption))
        | exact .inl (hC (by omega))
      first
      | (have hRR := hA (by omega) (by assumption); first | (exfalso; omega) | skip)
      | (have hRR := hB (by assumption); first | (exfalso; omega) | skip)
      | (have hRR := hC (by omega); first | (exfalso; omega) | skip)
    all_goals
      refine FLoop.of (ACalls.mono _) (X := Nat) (fun k => [(1, aInts z e r), (2, .ptr 0 0), (5, AI R), (6, AI i), (7, AI k)]) (fun _ => [.box 5 (cTask f t)]) (fun k => i + 2 ≤ k ∧ k ≤ r.length + 2) (fun k => r.length + 2 - k) (i + 2) ⟨by omega, [0], Cut.A, by exact allA⟩ ?_
      rintro k ⟨hk1, hk2⟩
      (repeat' ((try (conv => whnf)); first | (with_reducible first | refine FCond.tA ?_ | refine FCond.fA ?_) | ((with_reducible refine FCond.i (fun hq => ?_) (fun hq => ?_)) <;> (try simp only [zA, zE, zD, zJ, zB, zI, Int.not_le, Int.not_lt] at hq)) | (with_reducible first | refine Fits.in64 (by omega) ?_ | refine FIdx.nat (by omega) ?_ | refine FIdx.int (by omega) ?_ | refine FTo.nat (by omega) ?_ | refine FTo.int (by omega) ?_) | ((with_reducible refine Need.mk ?_ ?_); focus exact needA) | (with_reducible refine FApp.grow ?_)))
      all_goals (try (conv => whnf))
      all_goals first
        | (exact absurd (by assumption) (hK k hk1 (by assumption) (by assumption) (by assumption)))
        | (have hne : ¬ r.getD k 0 = r.getD i 0 := by assumption
           (exact ⟨⟨(k + 1), by omega, (by show _ < _; omega), [0], Cut.A, allA⟩⟩))
        | ((exact ⟨⟨(i + 1), (show i + 1 ≤ r.length by omega), (by show _ < _; omega), [0], Cut.A, allA⟩⟩))
  · (repeat' ((try (conv => whnf)); first | (with_reducible first | refine FCond.tA ?_ | refine FCond.fA ?_) | ((with_reducible refine FCond.i (fun hq => ?_) (fun hq => ?_)) <;> (try simp only [zA, zE, zD, zJ, zB, zI, Int.not_le, Int.not_lt] at hq)) | (with_reducible first | refine Fits.in64 (by omega) ?_ | refine FIdx.nat (by omega) ?_ | refine FIdx.int (by omega) ?_ | refine FTo.nat (by omega) ?_ | refine FTo.int (by omega) ?_) | ((with_reducible refine Need.mk ?_ ?_); focus exact needA) | (with_reducible refine FApp.grow ?_)))
    (try (conv => whnf))
    (refine ⟨⟨_, [], [], Cut.nil _, Ln.sameB _ rfl, ?_, rfl⟩⟩)
    rfl
end Go.Proofs.Ytomkjfhepfinhaa

namespace Go.Proofs.Ytomkjfhepfinhaa
open Go.RowKit

theorem trail_take {h : Int} {r : List Int} {n : Nat} : ∀ {m : Nat}, m ≤ n → trailTo h (r.take n) m = trailTo h r m
  | 0, _ => rfl
  | m + 1, hm => by rw [trailTo, trailTo, getD_take (by omega), trail_take (by omega)]
theorem last_take {h : Int} {r : List Int} {n : Nat} : ∀ {m : Nat}, m ≤ n → lastTo h (r.take n) m = lastTo h r m
  | 0, _ => rfl
  | m + 1, hm => by rw [lastTo, lastTo, getD_take (by omega), last_take (by omega)]
theorem last_at {h : Int} {r : List Int} {i : Nat} (hi : r.getD i 0 = h) : ∀ {k : Nat}, i < k → (∀ j, i < j → j < k → r.getD j 0 ≠ h) → lastTo h r k = i
  | 0, hk, _ => by omega
  | k + 1, hk, hj => by
    rw [lastTo]
    by_cases e : k = i
    · subst e; rw [if_pos hi]
    · rw [if_neg (hj k (by omega) (Nat.lt_succ_self k))]
      exact last_at hi (by omega) fun j a b => hj j a (by omega)
theorem right_pre {t : Task} {r : List Int} (h : rightP t r = true) {i : Nat} (hi : i < r.length) : followsP t (r.take i) (r.getD i 0) = true := by
  unfold rightP rightTo at h
  rw [List.all_eq_true] at h
  exact h i (List.mem_range.2 hi)
theorem keeps_right {t : Task} {r : List Int} (k : TaskOk t) (q : RotaIn t r) (h : rightP t r = true) : KeepsOk t r := by
  have k1 := k.lim
  refine ⟨fun i hi => ?_, fun i => ?_⟩
  · have hp : rightP t (r.take (i + 1)) = true := by
      unfold rightP rightTo
      rw [List.all_eq_true]
      intro j hj
      have hj' := List.mem_range.1 hj
      have hjl : j < i + 1 := by simp at hj'; omega
      rw [List.take_take, Nat.min_eq_left (by omega), getD_take hjl]
      exact right_pre h (by omega)
    rw [rightP_eq k _ fun j hj => by
      have hjl : j < i + 1 := by simp at hj; omega
      rw [getD_take hjl]; exact q.el j (by omega)] at hp
    have hx := q.el i hi
    have := right_trail (h := r.getD i 0) (by omega) _ (isRight_all.1 hp _ hx.1 hx.2)
    rw [show (r.take (i + 1)).length = i + 1 by simp; omega, trail_take (Nat.le_refl _)] at this
    exact this
  · intro kk
    induction kk using Nat.strongRecOn with
    | _ kk ih =>
      intro h1 h2 h3 h4 h5
      have hf := right_pre h h2
      rw [h5] at hf
      have hl : (r.take kk).length = kk := by simp; omega
      have hlast : lastTo (r.getD i 0) (r.take kk) (r.take kk).length = i := by
        rw [hl, last_take (Nat.le_refl _)]
        refine last_at rfl (by omega) fun j a b => ?_
        by_cases e : j = i + 1
        · subst e; exact h4
        · exact ih j b (by omega) (by omega) (by omega) h4
      unfold followsP at hf
      rw [hlast, hl, if_pos ⟨by omega, by omega⟩, decide_eq_true_eq] at hf
      omega
/-- A right rota of a valid task: what the program's functions say of it. -/
theorem rota_facts {t : Task} {r : List Int} (k : TaskOk t) (hok : t.ok = true) (hR : isRota t r = true) : checkRota t r = 0 ∧ RotaIn t r ∧ r.length = t.parts.length ∧ mistakesE t r = [AI (runC t r (extreme t r false)).bad, AI (badOf t r), AI 0] ∧ rightP t r = isRight t r := by
  obtain ⟨a, q⟩ := isRota_e hR
  have hc : checkRota t r = 0 := by unfold checkRota; rw [if_pos hok, if_pos hR]
  refine ⟨hc, q, a, ?_, rightP_eq k r q.el⟩
  unfold mistakesE
  rw [if_pos hc]
  unfold badOf
  rw [cTo_best q]; rfl
set_option maxHeartbeats 8000000 in
set_option maxRecDepth 100000 in
theorem limit_any (f : TFl) (t : Task) (z e : Bool) (rota : List Int) : ACall Try.prog 3 [aTask f t, aInts z e rota] [] (fun v h => v = .bool true ∧ h = []) := by
  have hcv := valid_ok f t
  (refine fcall_of mixed Try.func3 rfl (by decide) (hs := {}) ?k (ac := ?ac) ?c (rs := ?rs) ?r ?l ?H; (case k => kernel_rfl); (case c => (conv => (lhs; cbv))); (case r => (conv => (lhs; cbv))); (case l => exact Nat.le_of_ble_eq_true rfl))
  cases hv : validP t
  · rw [hv] at hcv
    (repeat' ((try (conv => whnf)); first | (with_reducible first | refine FCond.tA ?_ | refine FCond.fA ?_) | ((with_reducible refine FCond.i (fun hq => ?_) (fun hq => ?_)) <;> (try simp only [zA, zE, zD, zJ, zB, zI, Int.not_le, Int.not_lt] at hq)) | (with_reducible first | refine Fits.in64 (by omega) ?_ | refine FIdx.nat (by omega) ?_ | refine FIdx.int (by omega) ?_ | refine FTo.nat (by omega) ?_ | refine FTo.int (by omega) ?_) | ((with_reducible refine Need.mk ?_ ?_); focus exact needA) | (with_reducible refine FApp.grow ?_) | (refine FCall.pure (hcv) ⟨Ln.sameB _ rfl, True.intro⟩ rfl ?_) | (refine FCall.pure works_ok True.intro rfl ?_)))
    all_goals (try (conv => whnf))
    all_goals ((refine ⟨⟨_, [], [], Cut.nil _, Ln.sameB _ rfl, ?_, rfl⟩⟩); rfl)
  rw [hv] at hcv
  by_cases hlen : 20 < rota.length
  · (repeat' ((try (conv => whnf)); first | (with_reducible first | refine FCond.tA ?_ | refine FCond.fA ?_) | ((with_reducible refine FCond.i (fun hq => ?_) (fun hq => ?_)) <;> (try simp only [zA, zE, zD, zJ, zB, zI, Int.not_le, Int.not_lt] at hq)) | (with_reducible first | refine Fits.in64 (by omega) ?_ | refine FIdx.nat (by omega) ?_ | refine FIdx.int (by omega) ?_ | refine FTo.nat (by omega) ?_ | refine FTo.int (by omega) ?_) | ((with_reducible refine Need.mk ?_ ?_); focus exact needA) | (with_reducible refine FApp.grow ?_) | (refine FCall.pure (hcv) ⟨Ln.sameB _ rfl, True.intro⟩ rfl ?_) | (refine FCall.pure works_ok True.intro rfl ?_)))
    all_goals (try (conv => whnf))
    all_goals ((refine ⟨⟨_, [], [], Cut.nil _, Ln.sameB _ rfl, ?_, rfl⟩⟩); rfl)
  obtain ⟨v1, v2, hok⟩ : t.hands.length ≤ 20 ∧ t.parts.length ≤ 6 ∧ t.ok = true := by simpa [validP] using hv
  have k := taskOk hok
  have k1 := k.rest
  have k2 := k.hn
  have k3 := k.pn
  have cP := pPlan_ok f t (by omega) (by omega)
  have cR := isRota_ok f t z e rota (by omega) (by omega)
  have cI := isRight_ok f t z e rota (by omega) (by omega) (by omega)
  have spec := planS_spec (t := t) (hands := allL t.hands.length) k (fun h hh => allL_mem.1 hh) (allL_sorted _)
  have hE : planE t = if (planS t (allL t.hands.length)).isSome then [aInts false false (planS t (allL t.hands.length)).ll, AI (planS t (allL t.hands.length)).w, AI 0] else [nilS, AI 0, AI 3] := by unfold planE; rw [if_pos hok]
  rw [hE] at cP
  rcases spec with ⟨s1, s2⟩ | ⟨l, s1, s2, s3⟩
  · rw [s1] at cP
    replace cP : ACall Try.prog 13 [aTask f t] [] (fun v h => v = .tup 3 (ofL [nilS, AI 0, AI 3]) ∧ h = []) := cP
    have hno : isRota t rota = true → isRight t rota = false := fun a => by
      cases hb : isRight t rota
      · rfl
      · have := every_right k |>.2 ⟨a, hb⟩
        rw [s2] at this; cases this
    clear s2
    cases hr : isRota t rota
    · rw [hr] at cR
      (repeat' ((try (conv => whnf)); first | (with_reducible first | refine FCond.tA ?_ | refine FCond.fA ?_) | ((with_reducible refine FCond.i (fun hq => ?_) (fun hq => ?_)) <;> (try simp only [zA, zE, zD, zJ, zB, zI, Int.not_le, Int.not_lt] at hq)) | (with_reducible first | refine Fits.in64 (by omega) ?_ | refine FIdx.nat (by omega) ?_ | refine FIdx.int (by omega) ?_ | refine FTo.nat (by omega) ?_ | refine FTo.int (by omega) ?_) | ((with_reducible refine Need.mk ?_ ?_); focus exact needA) | (with_reducible refine FApp.grow ?_) | (refine FCall.pure (hcv) ⟨Ln.sameB _ rfl, True.intro⟩ rfl ?_) | (refine FCall.pure works_ok True.intro rfl ?_) | (refine FCall.pure cP ⟨Ln.A, True.intro⟩ rfl ?_) | (refine FCall.pure (cR) ⟨Ln.sameB _ rfl, Ln.sameB _ rfl, True.intro⟩ rfl ?_)))
      all_goals (try (conv => whnf))
      all_goals ((refine ⟨⟨_, [], [], Cut.nil _, Ln.sameB _ rfl, ?_, rfl⟩⟩); rfl)
    · rw [hr] at cR
      rw [hno hr] at cI
      (repeat' ((try (conv => whnf)); first | (with_reducible first | refine FCond.tA ?_ | refine FCond.fA ?_) | ((with_reducible refine FCond.i (fun hq => ?_) (fun hq => ?_)) <;> (try simp only [zA, zE, zD, zJ, zB, zI, Int.not_le, Int.not_lt] at hq)) | (with_reducible first | refine Fits.in64 (by omega) ?_ | refine FIdx.nat (by omega) ?_ | refine FIdx.int (by omega) ?_ | refine FTo.nat (by omega) ?_ | refine FTo.int (by omega) ?_) | ((with_reducible refine Need.mk ?_ ?_); focus exact needA) | (with_reducible refine FApp.grow ?_) | (refine FCall.pure (hcv) ⟨Ln.sameB _ rfl, True.intro⟩ rfl ?_) | (refine FCall.pure works_ok True.intro rfl ?_) | (refine FCall.pure cP ⟨Ln.A, True.intro⟩ rfl ?_) | (refine FCall.pure (cR) ⟨Ln.sameB _ rfl, Ln.sameB _ rfl, True.intro⟩ rfl ?_) | (refine FCall.pure (cI) ⟨Ln.sameB _ rfl, Ln.sameB _ rfl, True.intro⟩ rfl ?_)))
      all_goals (try (conv => whnf))
      all_goals ((refine ⟨⟨_, [], [], Cut.nil _, Ln.sameB _ rfl, ?_, rfl⟩⟩); rfl)
  · rw [s1] at cP
    replace cP : ACall Try.prog 13 [aTask f t] [] (fun v h => v = .tup 3 (ofL [aInts false false l, AI (badOf t l), AI 0]) ∧ h = []) := cP
    obtain ⟨m1, m2⟩ := (every_right k).1 s2
    obtain ⟨f1, f2, f3, f4, f5⟩ := rota_facts k hok m1
    have cR2 := isRota_ok f t false false l (by omega) (by omega)
    have cQ2 := pRight_ok f t false false l (by omega) (by omega) (by omega)
    have cM2 := mistakes_ok f t false false l (by omega) (by omega) (by omega)
    have cK2 := keeps_ok f t false false l (by omega) (by omega) (keeps_right k f2 (by rw [f5]; exact m2))
    rw [m1] at cR2
    rw [f5, m2, f1] at cQ2
    rw [f4] at cM2
    have hcase : ∀ b1 b2 : Bool, isRota t rota = b1 → isRight t rota = b2 → (b1 = true → b2 = true → (badOf t l < badOf t rota ∨ (badOf t l = badOf t rota ∧ lowerL rota l = false))) := fun b1 b2 e1 e2 a b => s3 rota ((every_right k).2 ⟨e1.trans a, e2.trans b⟩)
    clear s3 s2 s1 f1 f2 f4 f5 m1 m2 hE
    cases hr : isRota t rota
    · rw [hr] at cR
      clear hcase
      (repeat' ((try (conv => whnf)); first | (with_reducible first | refine FCond.tA ?_ | refine FCond.fA ?_) | ((with_reducible refine FCond.i (fun hq => ?_) (fun hq => ?_)) <;> (try simp only [zA, zE, zD, zJ, zB, zI, Int.not_le, Int.not_lt] at hq)) | (with_reducible first | refine Fits.in64 (by omega) ?_ | refine FIdx.nat (by omega) ?_ | refine FIdx.int (by omega) ?_ | refine FTo.nat (by omega) ?_ | refine FTo.int (by omega) ?_) | ((with_reducible refine Need.mk ?_ ?_); focus exact needA) | (with_reducible refine FApp.grow ?_) | (refine FCall.pure (hcv) ⟨Ln.sameB _ rfl, True.intro⟩ rfl ?_) | (refine FCall.pure works_ok True.intro rfl ?_) | (refine FCall.pure cP ⟨Ln.A, True.intro⟩ rfl ?_) | (refine FCall.pure (cR) ⟨Ln.sameB _ rfl, Ln.sameB _ rfl, True.intro⟩ rfl ?_) | (refine FCall.pure (cR2) ⟨Ln.sameB _ rfl, Ln.sameB _ rfl, True.intro⟩ rfl ?_) | (refine FCall.pure (cQ2) ⟨Ln.sameB _ rfl, Ln.sameB _ rfl, True.intro⟩ rfl ?_) | (refine FCall.pure (cM2) ⟨Ln.sameB _ rfl, Ln.sameB _ rfl, True.intro⟩ rfl ?_) | (refine FCall.pure (cK2) ⟨Ln.sameB _ rfl, Ln.sameB _ rfl, True.intro⟩ rfl ?_)))
      all_goals (try (conv => whnf))
      all_goals ((refine ⟨⟨_, [], [], Cut.nil _, Ln.sameB _ rfl, ?_, rfl⟩⟩); rfl)
    · rw [hr] at cR
      obtain ⟨g1, g2, g3, g4, g5⟩ := rota_facts k hok hr
      have cM := mistakes_ok f t z e rota (by omega) (by omega) (by omega)
      rw [g4] at cM
      clear g1 g2 g4 g5
      have cB := before_ok z e false false rota l (by omega) (by omega)
      cases hr2 : isRight t rota
      · rw [hr2] at cI
        clear hcase
        (repeat' ((try (conv => whnf)); first | (with_reducible first | refine FCond.tA ?_ | refine FCond.fA ?_) | ((with_reducible refine FCond.i (fun hq => ?_) (fun hq => ?_)) <;> (try simp only [zA, zE, zD, zJ, zB, zI, Int.not_le, Int.not_lt] at hq)) | (with_reducible first | refine Fits.in64 (by omega) ?_ | refine FIdx.nat (by omega) ?_ | refine FIdx.int (by omega) ?_ | refine FTo.nat (by omega) ?_ | refine FTo.int (by omega) ?_) | ((with_reducible refine Need.mk ?_ ?_); focus exact needA) | (with_reducible refine FApp.grow ?_) | (refine FCall.pure (hcv) ⟨Ln.sameB _ rfl, True.intro⟩ rfl ?_) | (refine FCall.pure works_ok True.intro rfl ?_) | (refine FCall.pure cP ⟨Ln.A, True.intro⟩ rfl ?_) | (refine FCall.pure (cR) ⟨Ln.sameB _ rfl, Ln.sameB _ rfl, True.intro⟩ rfl ?_) | (refine FCall.pure (cI) ⟨Ln.sameB _ rfl, Ln.sameB _ rfl, True.intro⟩ rfl ?_) | (refine FCall.pure (cR2) ⟨Ln.sameB _ rfl, Ln.sameB _ rfl, True.intro⟩ rfl ?_) | (refine FCall.pure (cQ2) ⟨Ln.sameB _ rfl, Ln.sameB _ rfl, True.intro⟩ rfl ?_) | (refine FCall.pure (cM2) ⟨Ln.sameB _ rfl, Ln.sameB _ rfl, True.intro⟩ rfl ?_) | (refine FCall.pure (cK2) ⟨Ln.sameB _ rfl, Ln.sameB _ rfl, True.intro⟩ rfl ?_)))
        all_goals (try (conv => whnf))
        all_goals ((refine ⟨⟨_, [], [], Cut.nil _, Ln.sameB _ rfl, ?_, rfl⟩⟩); rfl)
      · rw [hr2] at cI
        have hs := hcase true true hr hr2 rfl rfl
        clear hcase
        (repeat' ((try (conv => whnf)); first | (with_reducible first | refine FCond.tA ?_ | refine FCond.fA ?_) | ((with_reducible refine FCond.i (fun hq => ?_) (fun hq => ?_)) <;> (try simp only [zA, zE, zD, zJ, zB, zI, Int.not_le, Int.not_lt] at hq)) | (with_reducible first | refine Fits.in64 (by omega) ?_ | refine FIdx.nat (by omega) ?_ | refine FIdx.int (by omega) ?_ | refine FTo.nat (by omega) ?_ | refine FTo.int (by omega) ?_) | ((with_reducible refine Need.mk ?_ ?_); focus exact needA) | (with_reducible refine FApp.grow ?_) | (refine FCall.pure (hcv) ⟨Ln.sameB _ rfl, True.intro⟩ rfl ?_) | (refine FCall.pure works_ok True.intro rfl ?_) | (refine FCall.pure cP ⟨Ln.A, True.intro⟩ rfl ?_) | (refine FCall.pure (cR) ⟨Ln.sameB _ rfl, Ln.sameB _ rfl, True.intro⟩ rfl ?_) | (refine FCall.pure (cI) ⟨Ln.sameB _ rfl, Ln.sameB _ rfl, True.intro⟩ rfl ?_) | (refine FCall.pure (cR2) ⟨Ln.sameB _ rfl, Ln.sameB _ rfl, True.intro⟩ rfl ?_) | (refine FCall.pure (cQ2) ⟨Ln.sameB _ rfl, Ln.sameB _ rfl, True.intro⟩ rfl ?_) | (refine FCall.pure (cM2) ⟨Ln.sameB _ rfl, Ln.sameB _ rfl, True.intro⟩ rfl ?_) | (refine FCall.pure (cK2) ⟨Ln.sameB _ rfl, Ln.sameB _ rfl, True.intro⟩ rfl ?_) | (refine FCall.pure (cM) ⟨Ln.sameB _ rfl, Ln.sameB _ rfl, True.intro⟩ rfl ?_) | (refine FCall.pure (cB) ⟨Ln.sameB _ rfl, Ln.sameB _ rfl, True.intro⟩ rfl ?_)))
        all_goals (try (conv => whnf))
        · (refine ⟨⟨_, [], [], Cut.nil _, Ln.sameB _ rfl, ?_, rfl⟩⟩)
          rfl
        · (refine ⟨⟨_, [], [], Cut.nil _, Ln.sameB _ rfl, ?_, rfl⟩⟩)
          rfl
        · exfalso
          rcases hs with h | ⟨_, h⟩
          · omega
          · rw [h] at hq; cases hq
end Go.Proofs.Ytomkjfhepfinhaa

namespace Go.Proofs.Ytomkjfhepfinhaa
open Go.RowKit

def rEv (t : Task) : Nat → List Int → List (List Int)
  | 0, r => if isRight t r then [r] else []
  | n + 1, r => if isRight t r then (allL t.hands.length).flatMap fun h => rEv t n (r ++ [h]) else []
def evTo (t : Task) (n : Nat) (r : List Int) (i : Nat) : List (List Int) := (allL i).flatMap fun h => rEv t n (r ++ [h])
abbrev aLists (L : List (List Int)) : AV := .sl L.isEmpty L.isEmpty L.length 1 (fun k _ => aInts false false (L.getD k []))
theorem evTo_succ {t : Task} {n : Nat} {r : List Int} {i : Nat} : evTo t n r (i + 1) = evTo t n r i ++ rEv t n (r ++ [(i : Int)]) := by
  unfold evTo
  have : allL (i + 1) = allL i ++ [(i : Int)] := by unfold allL; rw [List.range_succ, List.map_append]; rfl
  rw [this, List.flatMap_append]; simp
theorem getD_app2 {a b : List (List Int)} {k : Nat} : (a ++ b).getD k [] = if k < a.length then a.getD k [] else b.getD (k - a.length) [] := by
  simp only [List.getD, List.getElem?_append]; split <;> rfl
theorem flat_le {l : List Int} {g : Int → List (List Int)} {b : Nat} (h : ∀ x, (g x).length ≤ b) : (l.flatMap g).length ≤ l.length * b := by
  induction l with
  | nil => simp
  | cons x xs ih => rw [List.flatMap_cons, List.length_append, List.length_cons, Nat.succ_mul]; have := h x; omega
theorem rEv_len {t : Task} (k : TaskOk t) : ∀ {n : Nat} {r : List Int}, (rEv t n r).length ≤ 3 ^ n
  | 0, r => by rw [rEv]; split <;> simp
  | n + 1, r => by
    rw [rEv]
    split
    · have h1 := flat_le (l := allL t.hands.length) (g := fun h => rEv t n (r ++ [h])) (b := 3 ^ n) fun x => rEv_len k
      have h2 : (allL t.hands.length).length ≤ 3 := by have := k.hn; simp [allL]; omega
      have h3 := Nat.mul_le_mul_right (3 ^ n) h2
      rw [Nat.pow_succ]
      omega
    · simp
theorem ev_app {r : List Int} {p i j o : Nat} {z : Nat → AV} {c : Nat → Nat → AV} (hp : r.length = p + 1) (hj : j < 0 + (p + 1) + 1) : AI ((r ++ [(i : Int)]).getD j 0) = appc (0 + (p + 1)) (appc 0 c (fun k _ => AI (r.getD k 0))) (bslC (fun _ => z) [(0, AI i)]) j o := by
  rw [getD_snoc]
  simp only [appc, bslC, updRm]
  by_cases e : j < p + 1
  · rw [if_pos (by omega), if_pos (by omega), if_neg (Nat.not_lt_zero j)]; rfl
  · rw [if_neg (by omega), if_pos (by omega), if_neg (by omega), if_pos (by omega)]; rfl
theorem ev_app0 {r : List Int} {i j o : Nat} {z : Nat → AV} {c : Nat → Nat → AV} (hr : r.length = 0) (hj : j < 0 + 1) : AI ((r ++ [(i : Int)]).getD j 0) = appc 0 c (bslC (fun _ => z) [(0, AI i)]) j o := by
  obtain rfl : r = [] := List.length_eq_zero_iff.1 hr
  obtain rfl : j = 0 := by omega
  rfl
def EvC (f : TFl) (t : Task) (n : Nat) : Prop := ∀ (z e : Bool) (r : List Int), r.length + n = t.parts.length → (n = 0 → z = false ∧ e = false) → ACall Try.prog 76 [aTask f t, aInts z e r] [] (fun v h => v = aLists (rEv t n r) ∧ h = [])
set_option maxHeartbeats 4000000 in
set_option maxRecDepth 100000 in
theorem ev_0 (f : TFl) (t : Task) (k : TaskOk t) : EvC f t 0 := by
  intro z e r hr hz
  obtain ⟨rfl, rfl⟩ := hz rfl
  have k1 := k.rest
  have k2 := k.hn
  have k3 := k.pn
  have cI := isRight_ok f t false false r (by omega) (by omega) (by omega)
  (refine fcall_of mixed Try.func76 rfl (by decide) (hs := { ord := [(9, [(0, []), (1, []), (2, []), (3, []), (5, []), (6, []), (4, [1]), (7, [1]), (8, []), (9, []), (10, [])])] }) ?k (ac := ?ac) ?c (rs := ?rs) ?r ?l ?H; (case k => kernel_rfl); (case c => (conv => (lhs; cbv))); (case r => (conv => (lhs; cbv))); (case l => exact Nat.le_of_ble_eq_true rfl))
  cases hq : isRight t r
  · rw [hq] at cI
    (repeat' ((try (conv => whnf)); first | (with_reducible first | refine FCond.tA ?_ | refine FCond.fA ?_) | ((with_reducible refine FCond.i (fun hq => ?_) (fun hq => ?_)) <;> (try simp only [zA, zE, zD, zJ, zB, zI, Int.not_le, Int.not_lt] at hq)) | (with_reducible first | refine Fits.in64 (by omega) ?_ | refine FIdx.nat (by omega) ?_ | refine FIdx.int (by omega) ?_ | refine FTo.nat (by omega) ?_ | refine FTo.int (by omega) ?_) | ((with_reducible refine Need.mk ?_ ?_); focus exact needA) | (with_reducible refine FApp.grow ?_) | (refine FCall.pure (cI) ⟨Ln.sameB _ rfl, Ln.sameB _ rfl, True.intro⟩ rfl ?_)))
    all_goals (try (conv => whnf))
    rw [show rEv t 0 r = [] from by rw [rEv, hq]; rfl]
    exact ⟨⟨aLists [], [], [], Cut.nil _, Ln.slz _ _ _ _ _ _ _ (fun h => h), rfl, rfl⟩⟩
  · rw [hq] at cI
    (repeat' ((try (conv => whnf)); first | (with_reducible first | refine FCond.tA ?_ | refine FCond.fA ?_) | ((with_reducible refine FCond.i (fun hq => ?_) (fun hq => ?_)) <;> (try simp only [zA, zE, zD, zJ, zB, zI, Int.not_le, Int.not_lt] at hq)) | (with_reducible first | refine Fits.in64 (by omega) ?_ | refine FIdx.nat (by omega) ?_ | refine FIdx.int (by omega) ?_ | refine FTo.nat (by omega) ?_ | refine FTo.int (by omega) ?_) | ((with_reducible refine Need.mk ?_ ?_); focus exact needA) | (with_reducible refine FApp.grow ?_) | (refine FCall.pure (cI) ⟨Ln.sameB _ rfl, Ln.sameB _ rfl, True.intro⟩ rfl ?_)))
    all_goals (try (conv => whnf))
    rw [show rEv t 0 r = [r] from by rw [rEv, hq]; rfl]
    refine ⟨⟨aLists [r], [], [], Cut.nil _, Ln.sl _ _ _ _ _ _ _ (fun h => by cases h) (fun k hk o ho => ?_), rfl, rfl⟩⟩
    obtain rfl : k = 0 := by omega
    obtain rfl : o = 0 := by omega
    rfl
set_option maxHeartbeats 4000000 in
set_option maxRecDepth 100000 in
theorem ev_s (f : TFl) (t : Task) (k : TaskOk t) (n : Nat) (ih : EvC f t n) : EvC f t (n + 1) := by
  intro z e r hr hz
  have k1 := k.rest
  have k2 := k.hn
  have k3 := k.pn
  have cI := isRight_ok f t z e r (by omega) (by omega) (by omega)
  (refine fcall_of mixed Try.func76 rfl (by decide) (hs := { ord := [(9, [(0, []), (1, []), (2, []), (3, []), (5, []), (6, []), (4, [1]), (7, [1]), (8, []), (9, []), (10, [])])] }) ?k (ac := ?ac) ?c (rs := ?rs) ?r ?l ?H; (case k => kernel_rfl); (case c => (conv => (lhs; cbv))); (case r => (conv => (lhs; cbv))); (case l => exact Nat.le_of_ble_eq_true rfl))
  cases hq : isRight t r
  · rw [hq] at cI
    (repeat' ((try (conv => whnf)); first | (with_reducible first | refine FCond.tA ?_ | refine FCond.fA ?_) | ((with_reducible refine FCond.i (fun hq => ?_) (fun hq => ?_)) <;> (try simp only [zA, zE, zD, zJ, zB, zI, Int.not_le, Int.not_lt] at hq)) | (with_reducible first | refine Fits.in64 (by omega) ?_ | refine FIdx.nat (by omega) ?_ | refine FIdx.int (by omega) ?_ | refine FTo.nat (by omega) ?_ | refine FTo.int (by omega) ?_) | ((with_reducible refine Need.mk ?_ ?_); focus exact needA) | (with_reducible refine FApp.grow ?_) | (refine FCall.pure (cI) ⟨Ln.sameB _ rfl, Ln.sameB _ rfl, True.intro⟩ rfl ?_)))
    all_goals (try (conv => whnf))
    rw [show rEv t (n + 1) r = [] from by rw [rEv, hq]; rfl]
    exact ⟨⟨aLists [], [], [], Cut.nil _, Ln.slz _ _ _ _ _ _ _ (fun h => h), rfl, rfl⟩⟩
  · rw [hq] at cI
    (repeat' ((try (conv => whnf)); first | (with_reducible first | refine FCond.tA ?_ | refine FCond.fA ?_) | ((with_reducible refine FCond.i (fun hq => ?_) (fun hq => ?_)) <;> (try simp only [zA, zE, zD, zJ, zB, zI, Int.not_le, Int.not_lt] at hq)) | (with_reducible first | refine Fits.in64 (by omega) ?_ | refine FIdx.nat (by omega) ?_ | refine FIdx.int (by omega) ?_ | refine FTo.nat (by omega) ?_ | refine FTo.int (by omega) ?_) | ((with_reducible refine Need.mk ?_ ?_); focus exact needA) | (with_reducible refine FApp.grow ?_) | (refine FCall.pure (cI) ⟨Ln.sameB _ rfl, Ln.sameB _ rfl, True.intro⟩ rfl ?_)))
    all_goals (try (conv => whnf))
    refine FLoop.of (ACalls.mono _) (X := Nat × Nat) (fun x => [(1, aInts z e r), (2, .ptr 0 0), (5, match x.2 with | 0 => nilS | m + 1 => .own 1 (m + 1)), (6, AI x.1)])
      (fun x => match x.2 with
        | 0 => [.box 5 (cTask f t)]
        | m + 1 => [.box 5 (cTask f t), .row (m + 1) 1 (fun k _ => aInts false false ((evTo t n r x.1).getD k []))])
      (fun x => x.1 ≤ t.hands.length ∧ x.2 = (evTo t n r x.1).length) (fun x => t.hands.length - x.1) (0, 0) ⟨⟨Nat.zero_le _, rfl⟩, [0], Cut.A, allA⟩ ?_
    rintro ⟨i, m⟩ ⟨hi, hm⟩
    change i ≤ t.hands.length at hi
    change m = (evTo t n r i).length at hm
    have hb1 : (rEv t n (r ++ [(i : Int)])).length ≤ 59049 := Nat.le_trans (rEv_len k) (Nat.pow_le_pow_right (by decide) (by omega : n ≤ 10))
    have hb2 : m ≤ 177147 := by
      have h1 := flat_le (l := allL i) (g := fun h => rEv t n (r ++ [h])) (b := 59049) fun x => Nat.le_trans (rEv_len k) (Nat.pow_le_pow_right (by decide) (by omega : n ≤ 10))
      have h2 : (allL i).length = i := by simp [allL]
      rw [h2] at h1
      change (evTo t n r i).length ≤ _ at h1
      omega
    dsimp only
    by_cases hlt : i < t.hands.length
    · have cE := ih false false (r ++ [(i : Int)]) (by rw [List.length_append]; show r.length + 1 + n = _; omega) (fun _ => ⟨rfl, rfl⟩)
      rcases m with _ | m
      · rcases Nat.eq_zero_or_pos r.length with hr0 | hr0
        · (repeat' ((try (conv => whnf)); first | (with_reducible first | refine FCond.tA ?_ | refine FCond.fA ?_) | ((with_reducible refine FCond.i (fun hq => ?_) (fun hq => ?_)) <;> (try simp only [zA, zE, zD, zJ, zB, zI, Int.not_le, Int.not_lt] at hq)) | (with_reducible first | refine Fits.in64 (by omega) ?_ | refine FIdx.nat (by omega) ?_ | refine FIdx.int (by omega) ?_ | refine FTo.nat (by omega) ?_ | refine FTo.int (by omega) ?_) | ((with_reducible refine Need.mk ?_ ?_); focus exact needA) | (with_reducible refine FApp.grow ?_)))
          all_goals (try (conv => whnf))
          rw [hr0]
          (repeat' ((try (conv => whnf)); first | (with_reducible first | refine FCond.tA ?_ | refine FCond.fA ?_) | ((with_reducible refine FCond.i (fun hq => ?_) (fun hq => ?_)) <;> (try simp only [zA, zE, zD, zJ, zB, zI, Int.not_le, Int.not_lt] at hq)) | (with_reducible first | refine Fits.in64 (by omega) ?_ | refine FIdx.nat (by omega) ?_ | refine FIdx.int (by omega) ?_ | refine FTo.nat (by omega) ?_ | refine FTo.int (by omega) ?_) | ((with_reducible refine Need.mk ?_ ?_); focus exact needA) | (with_reducible refine FApp.grow ?_)))
          all_goals (try (conv => whnf))
          refine FCall.bury 1 [aTask f t, aInts false false (r ++ [(i : Int)])] ⟨Ln.sameB _ rfl, Ln.pubE rfl rfl (Nat.le_refl _) (by simp only [List.length_append, List.length_singleton]; omega) (fun j hj o ho => ev_app0 hr0 hj), True.intro⟩ ?_
          (repeat' ((try (conv => whnf)); first | (with_reducible first | refine FCond.tA ?_ | refine FCond.fA ?_) | ((with_reducible refine FCond.i (fun hq => ?_) (fun hq => ?_)) <;> (try simp only [zA, zE, zD, zJ, zB, zI, Int.not_le, Int.not_lt] at hq)) | (with_reducible first | refine Fits.in64 (by omega) ?_ | refine FIdx.nat (by omega) ?_ | refine FIdx.int (by omega) ?_ | refine FTo.nat (by omega) ?_ | refine FTo.int (by omega) ?_) | ((with_reducible refine Need.mk ?_ ?_); focus exact needA) | (with_reducible refine FApp.grow ?_) | (refine FCall.pure (cE) ⟨Ln.sameB _ rfl, Ln.sameB _ rfl, True.intro⟩ rfl ?_)))
          all_goals (try (conv => whnf))
          rcases hL : (rEv t n (r ++ [(i : Int)])).length with _ | w
          · have hev : evTo t n r (i + 1) = evTo t n r i := by rw [evTo_succ, List.length_eq_zero_iff.1 hL, List.append_nil]
            (repeat' ((try (conv => whnf)); first | (with_reducible first | refine FCond.tA ?_ | refine FCond.fA ?_) | ((with_reducible refine FCond.i (fun hq => ?_) (fun hq => ?_)) <;> (try simp only [zA, zE, zD, zJ, zB, zI, Int.not_le, Int.not_lt] at hq)) | (with_reducible first | refine Fits.in64 (by omega) ?_ | refine FIdx.nat (by omega) ?_ | refine FIdx.int (by omega) ?_ | refine FTo.nat (by omega) ?_ | refine FTo.int (by omega) ?_) | ((with_reducible refine Need.mk ?_ ?_); focus exact needA) | (with_reducible refine FApp.grow ?_)))
            all_goals (try (conv => whnf))
            (exact ⟨⟨(i + 1, 0), ⟨by show i + 1 ≤ _; omega, by show 0 = (evTo t n r (i + 1)).length; rw [hev]; exact hm⟩, by show t.hands.length - (i + 1) < t.hands.length - i; omega, [0], (by (refine Cut.of (Nat.le_of_ble_eq_true rfl) rfl rfl ?_; repeat (first | exact CutL.done | (refine CutL.turned rfl (by first | exact LnB.rowS | exact LnB.rowE (by omega) (fun k hk o _ => by show aInts false false ((evTo t n r (i + 1)).getD k []) = _; rw [hev]; simp only [appc]; rw [if_pos hk]) | exact LnB.A) ?_) | (refine CutL.gone (Nat.lt_of_lt_of_le (Nat.lt_succ_self _) (Nat.le_of_ble_eq_true rfl)) ?_)))), allA⟩⟩)
          · have hev : evTo t n r (i + 1) = evTo t n r i ++ rEv t n (r ++ [(i : Int)]) := evTo_succ
            (repeat' ((try (conv => whnf)); first | (with_reducible first | refine FCond.tA ?_ | refine FCond.fA ?_) | ((with_reducible refine FCond.i (fun hq => ?_) (fun hq => ?_)) <;> (try simp only [zA, zE, zD, zJ, zB, zI, Int.not_le, Int.not_lt] at hq)) | (with_reducible first | refine Fits.in64 (by omega) ?_ | refine FIdx.nat (by omega) ?_ | refine FIdx.int (by omega) ?_ | refine FTo.nat (by omega) ?_ | refine FTo.int (by omega) ?_) | ((with_reducible refine Need.mk ?_ ?_); focus exact needA) | (with_reducible refine FApp.grow ?_)))
            all_goals (try (conv => whnf))
            (exact ⟨⟨(i + 1, w + 1), ⟨by show i + 1 ≤ _; omega, by show w + 1 = (evTo t n r (i + 1)).length; rw [hev, List.length_append, hL, ← hm]; omega⟩, by show t.hands.length - (i + 1) < t.hands.length - i; omega, [0, 2], (by (refine Cut.of (Nat.le_of_ble_eq_true rfl) rfl rfl ?_; repeat (first | exact CutL.done | (refine CutL.turned rfl (by first | exact LnB.rowS | exact LnB.rowE (by omega) (fun k hk o ho => by show aInts false false ((evTo t n r (i + 1)).getD k []) = _; rw [hev, List.length_eq_zero_iff.1 hm.symm]; simp [appc]) | exact LnB.A) ?_) | (refine CutL.gone (Nat.lt_of_lt_of_le (Nat.lt_succ_self _) (Nat.le_of_ble_eq_true rfl)) ?_)))), allA⟩⟩)
        · obtain ⟨p, hp⟩ : ∃ p, r.length = p + 1 := ⟨r.length - 1, by omega⟩
          (repeat' ((try (conv => whnf)); first | (with_reducible first | refine FCond.tA ?_ | refine FCond.fA ?_) | ((with_reducible refine FCond.i (fun hq => ?_) (fun hq => ?_)) <;> (try simp only [zA, zE, zD, zJ, zB, zI, Int.not_le, Int.not_lt] at hq)) | (with_reducible first | refine Fits.in64 (by omega) ?_ | refine FIdx.nat (by omega) ?_ | refine FIdx.int (by omega) ?_ | refine FTo.nat (by omega) ?_ | refine FTo.int (by omega) ?_) | ((with_reducible refine Need.mk ?_ ?_); focus exact needA) | (with_reducible refine FApp.grow ?_)))
          all_goals (try (conv => whnf))
          rw [hp]
          (repeat' ((try (conv => whnf)); first | (with_reducible first | refine FCond.tA ?_ | refine FCond.fA ?_) | ((with_reducible refine FCond.i (fun hq => ?_) (fun hq => ?_)) <;> (try simp only [zA, zE, zD, zJ, zB, zI, Int.not_le, Int.not_lt] at hq)) | (with_reducible first | refine Fits.in64 (by omega) ?_ | refine FIdx.nat (by omega) ?_ | refine FIdx.int (by omega) ?_ | refine FTo.nat (by omega) ?_ | refine FTo.int (by omega) ?_) | ((with_reducible refine Need.mk ?_ ?_); focus exact needA) | (with_reducible refine FApp.grow ?_)))
          all_goals (try (conv => whnf))
          refine FCall.bury 2 [aTask f t, aInts false false (r ++ [(i : Int)])] ⟨Ln.sameB _ rfl, Ln.pubE rfl rfl (Nat.le_refl _) (by simp only [List.length_append, List.length_singleton]; omega) (fun j hj o ho => ev_app hp hj), True.intro⟩ ?_
          (repeat' ((try (conv => whnf)); first | (with_reducible first | refine FCond.tA ?_ | refine FCond.fA ?_) | ((with_reducible refine FCond.i (fun hq => ?_) (fun hq => ?_)) <;> (try simp only [zA, zE, zD, zJ, zB, zI, Int.not_le, Int.not_lt] at hq)) | (with_reducible first | refine Fits.in64 (by omega) ?_ | refine FIdx.nat (by omega) ?_ | refine FIdx.int (by omega) ?_ | refine FTo.nat (by omega) ?_ | refine FTo.int (by omega) ?_) | ((with_reducible refine Need.mk ?_ ?_); focus exact needA) | (with_reducible refine FApp.grow ?_) | (refine FCall.pure (cE) ⟨Ln.sameB _ rfl, Ln.sameB _ rfl, True.intro⟩ rfl ?_)))
          all_goals (try (conv => whnf))
          rcases hL : (rEv t n (r ++ [(i : Int)])).length with _ | w
          · have hev : evTo t n r (i + 1) = evTo t n r i := by rw [evTo_succ, List.length_eq_zero_iff.1 hL, List.append_nil]
            (repeat' ((try (conv => whnf)); first | (with_reducible first | refine FCond.tA ?_ | refine FCond.fA ?_) | ((with_reducible refine FCond.i (fun hq => ?_) (fun hq => ?_)) <;> (try simp only [zA, zE, zD, zJ, zB, zI, Int.not_le, Int.not_lt] at hq)) | (with_reducible first | refine Fits.in64 (by omega) ?_ | refine FIdx.nat (by omega) ?_ | refine FIdx.int (by omega) ?_ | refine FTo.nat (by omega) ?_ | refine FTo.int (by omega) ?_) | ((with_reducible refine Need.mk ?_ ?_); focus exact needA) | (with_reducible refine FApp.grow ?_)))
            all_goals (try (conv => whnf))
            (exact ⟨⟨(i + 1, 0), ⟨by show i + 1 ≤ _; omega, by show 0 = (evTo t n r (i + 1)).length; rw [hev]; exact hm⟩, by show t.hands.length - (i + 1) < t.hands.length - i; omega, [0], (by (refine Cut.of (Nat.le_of_ble_eq_true rfl) rfl rfl ?_; repeat (first | exact CutL.done | (refine CutL.turned rfl (by first | exact LnB.rowS | exact LnB.rowE (by omega) (fun k hk o _ => by show aInts false false ((evTo t n r (i + 1)).getD k []) = _; rw [hev]; simp only [appc]; rw [if_pos hk]) | exact LnB.A) ?_) | (refine CutL.gone (Nat.lt_of_lt_of_le (Nat.lt_succ_self _) (Nat.le_of_ble_eq_true rfl)) ?_)))), allA⟩⟩)
          · have hev : evTo t n r (i + 1) = evTo t n r i ++ rEv t n (r ++ [(i : Int)]) := evTo_succ
            (repeat' ((try (conv => whnf)); first | (with_reducible first | refine FCond.tA ?_ | refine FCond.fA ?_) | ((with_reducible refine FCond.i (fun hq => ?_) (fun hq => ?_)) <;> (try simp only [zA, zE, zD, zJ, zB, zI, Int.not_le, Int.not_lt] at hq)) | (with_reducible first | refine Fits.in64 (by omega) ?_ | refine FIdx.nat (by omega) ?_ | refine FIdx.int (by omega) ?_ | refine FTo.nat (by omega) ?_ | refine FTo.int (by omega) ?_) | ((with_reducible refine Need.mk ?_ ?_); focus exact needA) | (with_reducible refine FApp.grow ?_)))
            all_goals (try (conv => whnf))
            (exact ⟨⟨(i + 1, w + 1), ⟨by show i + 1 ≤ _; omega, by show w + 1 = (evTo t n r (i + 1)).length; rw [hev, List.length_append, hL, ← hm]; omega⟩, by show t.hands.length - (i + 1) < t.hands.length - i; omega, [0, 3], (by (refine Cut.of (Nat.le_of_ble_eq_true rfl) rfl rfl ?_; repeat (first | exact CutL.done | (refine CutL.turned rfl (by first | exact LnB.rowS | exact LnB.rowE (by omega) (fun k hk o ho => by show aInts false false ((evTo t n r (i + 1)).getD k []) = _; rw [hev, List.length_eq_zero_iff.1 hm.symm]; simp [appc]) | exact LnB.A) ?_) | (refine CutL.gone (Nat.lt_of_lt_of_le (Nat.lt_succ_self _) (Nat.le_of_ble_eq_true rfl)) ?_)))), allA⟩⟩)
      · rcases Nat.eq_zero_or_pos r.length with hr0 | hr0
        · (repeat' ((try (conv => whnf)); first | (with_reducible first | refine FCond.tA ?_ | refine FCond.fA ?_) | ((with_reducible refine FCond.i (fun hq => ?_) (fun hq => ?_)) <;> (try simp only [zA, zE, zD, zJ, zB, zI, Int.not_le, Int.not_lt] at hq)) | (with_reducible first | refine Fits.in64 (by omega) ?_ | refine FIdx.nat (by omega) ?_ | refine FIdx.int (by omega) ?_ | refine FTo.nat (by omega) ?_ | refine FTo.int (by omega) ?_) | ((with_reducible refine Need.mk ?_ ?_); focus exact needA) | (with_reducible refine FApp.grow ?_)))
          all_goals (try (conv => whnf))
          rw [hr0]
          (repeat' ((try (conv => whnf)); first | (with_reducible first | refine FCond.tA ?_ | refine FCond.fA ?_) | ((with_reducible refine FCond.i (fun hq => ?_) (fun hq => ?_)) <;> (try simp only [zA, zE, zD, zJ, zB, zI, Int.not_le, Int.not_lt] at hq)) | (with_reducible first | refine Fits.in64 (by omega) ?_ | refine FIdx.nat (by omega) ?_ | refine FIdx.int (by omega) ?_ | refine FTo.nat (by omega) ?_ | refine FTo.int (by omega) ?_) | ((with_reducible refine Need.mk ?_ ?_); focus exact needA) | (with_reducible refine FApp.grow ?_)))
          all_goals (try (conv => whnf))
          refine FCall.bury 2 [aTask f t, aInts false false (r ++ [(i : Int)])] ⟨Ln.sameB _ rfl, Ln.pubE rfl rfl (Nat.le_refl _) (by simp only [List.length_append, List.length_singleton]; omega) (fun j hj o ho => ev_app0 hr0 hj), True.intro⟩ ?_
          (repeat' ((try (conv => whnf)); first | (with_reducible first | refine FCond.tA ?_ | refine FCond.fA ?_) | ((with_reducible refine FCond.i (fun hq => ?_) (fun hq => ?_)) <;> (try simp only [zA, zE, zD, zJ, zB, zI, Int.not_le, Int.not_lt] at hq)) | (with_reducible first | refine Fits.in64 (by omega) ?_ | refine FIdx.nat (by omega) ?_ | refine FIdx.int (by omega) ?_ | refine FTo.nat (by omega) ?_ | refine FTo.int (by omega) ?_) | ((with_reducible refine Need.mk ?_ ?_); focus exact needA) | (with_reducible refine FApp.grow ?_) | (refine FCall.pure (cE) ⟨Ln.sameB _ rfl, Ln.sameB _ rfl, True.intro⟩ rfl ?_)))
          all_goals (try (conv => whnf))
          rcases hL : (rEv t n (r ++ [(i : Int)])).length with _ | w
          · have hev : evTo t n r (i + 1) = evTo t n r i := by rw [evTo_succ, List.length_eq_zero_iff.1 hL, List.append_nil]
            (repeat' ((try (conv => whnf)); first | (with_reducible first | refine FCond.tA ?_ | refine FCond.fA ?_) | ((with_reducible refine FCond.i (fun hq => ?_) (fun hq => ?_)) <;> (try simp only [zA, zE, zD, zJ, zB, zI, Int.not_le, Int.not_lt] at hq)) | (with_reducible first | refine Fits.in64 (by omega) ?_ | refine FIdx.nat (by omega) ?_ | refine FIdx.int (by omega) ?_ | refine FTo.nat (by omega) ?_ | refine FTo.int (by omega) ?_) | ((with_reducible refine Need.mk ?_ ?_); focus exact needA) | (with_reducible refine FApp.grow ?_)))
            all_goals (try (conv => whnf))
            (exact ⟨⟨(i + 1, (m + 1)), ⟨by show i + 1 ≤ _; omega, by show (m + 1) = (evTo t n r (i + 1)).length; rw [hev]; exact hm⟩, by show t.hands.length - (i + 1) < t.hands.length - i; omega, [0, 3], (by (refine Cut.of (Nat.le_of_ble_eq_true rfl) rfl rfl ?_; repeat (first | exact CutL.done | (refine CutL.turned rfl (by first | exact LnB.rowS | exact LnB.rowE (by omega) (fun k hk o _ => by show aInts false false ((evTo t n r (i + 1)).getD k []) = _; rw [hev]; simp only [appc]; rw [if_pos hk]) | exact LnB.A) ?_) | (refine CutL.gone (Nat.lt_of_lt_of_le (Nat.lt_succ_self _) (Nat.le_of_ble_eq_true rfl)) ?_)))), allA⟩⟩)
          · have hev : evTo t n r (i + 1) = evTo t n r i ++ rEv t n (r ++ [(i : Int)]) := evTo_succ
            (repeat' ((try (conv => whnf)); first | (with_reducible first | refine FCond.tA ?_ | refine FCond.fA ?_) | ((with_reducible refine FCond.i (fun hq => ?_) (fun hq => ?_)) <;> (try simp only [zA, zE, zD, zJ, zB, zI, Int.not_le, Int.not_lt] at hq)) | (with_reducible first | refine Fits.in64 (by omega) ?_ | refine FIdx.nat (by omega) ?_ | refine FIdx.int (by omega) ?_ | refine FTo.nat (by omega) ?_ | refine FTo.int (by omega) ?_) | ((with_reducible refine Need.mk ?_ ?_); focus exact needA) | (with_reducible refine FApp.grow ?_)))
            all_goals (try (conv => whnf))
            (exact ⟨⟨(i + 1, m + 1 + w + 1), ⟨by show i + 1 ≤ _; omega, by show m + 1 + w + 1 = (evTo t n r (i + 1)).length; rw [hev, List.length_append, hL, ← hm]; omega⟩, by show t.hands.length - (i + 1) < t.hands.length - i; omega, [0, 3], (by (refine Cut.of (Nat.le_of_ble_eq_true rfl) rfl rfl ?_; repeat (first | exact CutL.done | (refine CutL.turned rfl (by first | exact LnB.rowS | exact LnB.rowE (by omega) (fun k hk o ho => by show aInts false false ((evTo t n r (i + 1)).getD k []) = _; rw [hev, getD_app2, ← hm]; simp only [appc]; split <;> rfl) | exact LnB.A) ?_) | (refine CutL.gone (Nat.lt_of_lt_of_le (Nat.lt_succ_self _) (Nat.le_of_ble_eq_true rfl)) ?_)))), allA⟩⟩)
        · obtain ⟨p, hp⟩ : ∃ p, r.length = p + 1 := ⟨r.length - 1, by omega⟩
          (repeat' ((try (conv => whnf)); first | (with_reducible first | refine FCond.tA ?_ | refine FCond.fA ?_) | ((with_reducible refine FCond.i (fun hq => ?_) (fun hq => ?_)) <;> (try simp only [zA, zE, zD, zJ, zB, zI, Int.not_le, Int.not_lt] at hq)) | (with_reducible first | refine Fits.in64 (by omega) ?_ | refine FIdx.nat (by omega) ?_ | refine FIdx.int (by omega) ?_ | refine FTo.nat (by omega) ?_ | refine FTo.int (by omega) ?_) | ((with_reducible refine Need.mk ?_ ?_); focus exact needA) | (with_reducible refine FApp.grow ?_)))
          all_goals (try (conv => whnf))
          rw [hp]
          (repeat' ((try (conv => whnf)); first | (with_reducible first | refine FCond.tA ?_ | refine FCond.fA ?_) | ((with_reducible refine FCond.i (fun hq => ?_) (fun hq => ?_)) <;> (try simp only [zA, zE, zD, zJ, zB, zI, Int.not_le, Int.not_lt] at hq)) | (with_reducible first | refine Fits.in64 (by omega) ?_ | refine FIdx.nat (by omega) ?_ | refine FIdx.int (by omega) ?_ | refine FTo.nat (by omega) ?_ | refine FTo.int (by omega) ?_) | ((with_reducible refine Need.mk ?_ ?_); focus exact needA) | (with_reducible refine FApp.grow ?_)))
          all_goals (try (conv => whnf))
          refine FCall.bury 3 [aTask f t, aInts false false (r ++ [(i : Int)])] ⟨Ln.sameB _ rfl, Ln.pubE rfl rfl (Nat.le_refl _) (by simp only [List.length_append, List.length_singleton]; omega) (fun j hj o ho => ev_app hp hj), True.intro⟩ ?_
          (repeat' ((try (conv => whnf)); first | (with_reducible first | refine FCond.tA ?_ | refine FCond.fA ?_) | ((with_reducible refine FCond.i (fun hq => ?_) (fun hq => ?_)) <;> (try simp only [zA, zE, zD, zJ, zB, zI, Int.not_le, Int.not_lt] at hq)) | (with_reducible first | refine Fits.in64 (by omega) ?_ | refine FIdx.nat (by omega) ?_ | refine FIdx.int (by omega) ?_ | refine FTo.nat (by omega) ?_ | refine FTo.int (by omega) ?_) | ((with_reducible refine Need.mk ?_ ?_); focus exact needA) | (with_reducible refine FApp.grow ?_) | (refine FCall.pure (cE) ⟨Ln.sameB _ rfl, Ln.sameB _ rfl, True.intro⟩ rfl ?_)))
          all_goals (try (conv => whnf))
          rcases hL : (rEv t n (r ++ [(i : Int)])).length with _ | w
          · have hev : evTo t n r (i + 1) = evTo t n r i := by rw [evTo_succ, List.length_eq_zero_iff.1 hL, List.append_nil]
            (repeat' ((try (conv => whnf)); first | (with_reducible first | refine FCond.tA ?_ | refine FCond.fA ?_) | ((with_reducible refine FCond.i (fun hq => ?_) (fun hq => ?_)) <;> (try simp only [zA, zE, zD, zJ, zB, zI, Int.not_le, Int.not_lt] at hq)) | (with_reducible first | refine Fits.in64 (by omega) ?_ | refine FIdx.nat (by omega) ?_ | refine FIdx.int (by omega) ?_ | refine FTo.nat (by omega) ?_ | refine FTo.int (by omega) ?_) | ((with_reducible refine Need.mk ?_ ?_); focus exact needA) | (with_reducible refine FApp.grow ?_)))
            all_goals (try (conv => whnf))
            (exact ⟨⟨(i + 1, (m + 1)), ⟨by show i + 1 ≤ _; omega, by show (m + 1) = (evTo t n r (i + 1)).length; rw [hev]; exact hm⟩, by show t.hands.length - (i + 1) < t.hands.length - i; omega, [0, 4], (by (refine Cut.of (Nat.le_of_ble_eq_true rfl) rfl rfl ?_; repeat (first | exact CutL.done | (refine CutL.turned rfl (by first | exact LnB.rowS | exact LnB.rowE (by omega) (fun k hk o _ => by show aInts false false ((evTo t n r (i + 1)).getD k []) = _; rw [hev]; simp only [appc]; rw [if_pos hk]) | exact LnB.A) ?_) | (refine CutL.gone (Nat.lt_of_lt_of_le (Nat.lt_succ_self _) (Nat.le_of_ble_eq_true rfl)) ?_)))), allA⟩⟩)
          · have hev : evTo t n r (i + 1) = evTo t n r i ++ rEv t n (r ++ [(i : Int)]) := evTo_succ
            (repeat' ((try (conv => whnf)); first | (with_reducible first | refine FCond.tA ?_ | refine FCond.fA ?_) | ((with_reducible refine FCond.i (fun hq => ?_) (fun hq => ?_)) <;> (try simp only [zA, zE, zD, zJ, zB, zI, Int.not_le, Int.not_lt] at hq)) | (with_reducible first | refine Fits.in64 (by omega) ?_ | refine FIdx.nat (by omega) ?_ | refine FIdx.int (by omega) ?_ | refine FTo.nat (by omega) ?_ | refine FTo.int (by omega) ?_) | ((with_reducible refine Need.mk ?_ ?_); focus exact needA) | (with_reducible refine FApp.grow ?_)))
            all_goals (try (conv => whnf))
            (exact ⟨⟨(i + 1, m + 1 + w + 1), ⟨by show i + 1 ≤ _; omega, by show m + 1 + w + 1 = (evTo t n r (i + 1)).length; rw [hev, List.length_append, hL, ← hm]; omega⟩, by show t.hands.length - (i + 1) < t.hands.length - i; omega, [0, 4], (by (refine Cut.of (Nat.le_of_ble_eq_true rfl) rfl rfl ?_; repeat (first | exact CutL.done | (refine CutL.turned rfl (by first | exact LnB.rowS | exact LnB.rowE (by omega) (fun k hk o ho => by show aInts false false ((evTo t n r (i + 1)).getD k []) = _; rw [hev, getD_app2, ← hm]; simp only [appc]; split <;> rfl) | exact LnB.A) ?_) | (refine CutL.gone (Nat.lt_of_lt_of_le (Nat.lt_succ_self _) (Nat.le_of_ble_eq_true rfl)) ?_)))), allA⟩⟩)
    · obtain rfl : i = t.hands.length := by omega
      have hR : rEv t (n + 1) r = evTo t n r t.hands.length := by rw [rEv, hq]; rfl
      rw [hR]
      rcases m with _ | m
      · (repeat' ((try (conv => whnf)); first | (with_reducible first | refine FCond.tA ?_ | refine FCond.fA ?_) | ((with_reducible refine FCond.i (fun hq => ?_) (fun hq => ?_)) <;> (try simp only [zA, zE, zD, zJ, zB, zI, Int.not_le, Int.not_lt] at hq)) | (with_reducible first | refine Fits.in64 (by omega) ?_ | refine FIdx.nat (by omega) ?_ | refine FIdx.int (by omega) ?_ | refine FTo.nat (by omega) ?_ | refine FTo.int (by omega) ?_) | ((with_reducible refine Need.mk ?_ ?_); focus exact needA) | (with_reducible refine FApp.grow ?_)))
        all_goals (try (conv => whnf))
        rw [List.length_eq_zero_iff.1 hm.symm]
        exact ⟨⟨aLists [], [], [], Cut.nil _, Ln.slz _ _ _ _ _ _ _ (fun h => h), rfl, rfl⟩⟩
      · (repeat' ((try (conv => whnf)); first | (with_reducible first | refine FCond.tA ?_ | refine FCond.fA ?_) | ((with_reducible refine FCond.i (fun hq => ?_) (fun hq => ?_)) <;> (try simp only [zA, zE, zD, zJ, zB, zI, Int.not_le, Int.not_lt] at hq)) | (with_reducible first | refine Fits.in64 (by omega) ?_ | refine FIdx.nat (by omega) ?_ | refine FIdx.int (by omega) ?_ | refine FTo.nat (by omega) ?_ | refine FTo.int (by omega) ?_) | ((with_reducible refine Need.mk ?_ ?_); focus exact needA) | (with_reducible refine FApp.grow ?_)))
        all_goals (try (conv => whnf))
        have he : (evTo t n r t.hands.length).isEmpty = false := by
          cases h : evTo t n r t.hands.length with
          | nil => rw [h] at hm; cases hm
          | cons a b => rfl
        refine ⟨⟨aLists (evTo t n r t.hands.length), [], [], Cut.nil _, ?_, rfl, rfl⟩⟩
        show Ln _ _ _ _ (AV.sl (evTo t n r t.hands.length).isEmpty (evTo t n r t.hands.length).isEmpty _ 1 _)
        rw [he]
        exact Ln.pubE (goneB rfl) rfl (Nat.le_refl _) hm (fun _ _ _ _ => rfl)
theorem every_ok (f : TFl) (t : Task) (k : TaskOk t) : ∀ n, EvC f t n
  | 0 => ev_0 f t k
  | n + 1 => ev_s f t k n (every_ok f t k n)
end Go.Proofs.Ytomkjfhepfinhaa

namespace Go.Proofs.Ytomkjfhepfinhaa
open Go.RowKit

def rStep (t : Task) (s : PSt) (x : List Int) : PSt := match s with
  | none => some (x, worst t x)
  | some (b, w) => if worst t x < w then some (x, worst t x) else some (b, w)
def rTo (t : Task) (L : List (List Int)) : Nat → PSt
  | 0 => none
  | i + 1 => rStep t (rTo t L i) (L.getD i [])
theorem rTo_some (t : Task) (L : List (List Int)) : ∀ i, (rTo t L i).isSome = decide (0 < i)
  | 0 => rfl
  | i + 1 => by
    rw [rTo, decide_eq_true (Nat.succ_pos i)]
    unfold rStep
    split
    · rfl
    · split <;> rfl
def rPlan (t : Task) : PSt := rTo t (rEv t t.parts.length []) (rEv t t.parts.length []).length
theorem rEv_in {t : Task} : ∀ {n : Nat} {r : List Int}, (∀ i, i < r.length → 0 ≤ r.getD i 0 ∧ r.getD i 0 < t.hands.length) → ∀ x ∈ rEv t n r, x.length = r.length + n ∧ ∀ i, i < x.length → 0 ≤ x.getD i 0 ∧ x.getD i 0 < t.hands.length
  | 0, r, hr, x, hx => by
    rw [rEv] at hx
    split at hx
    · obtain rfl := List.mem_singleton.1 hx; exact ⟨rfl, hr⟩
    · cases hx
  | n + 1, r, hr, x, hx => by
    rw [rEv] at hx
    split at hx
    · obtain ⟨h, h1, h2⟩ := List.mem_flatMap.1 hx
      have hh := allL_mem.1 h1
      have := rEv_in (n := n) (r := r ++ [h]) (fun i hi => by
        rw [getD_snoc]
        rw [List.length_append] at hi
        change i < r.length + 1 at hi
        split
        · exact hr i (by omega)
        · split
          · exact hh
          · omega) x h2
      refine ⟨?_, this.2⟩
      rw [this.1, List.length_append]
      show r.length + 1 + n = _
      omega
    · cases hx
set_option maxHeartbeats 4000000 in
set_option maxRecDepth 100000 in
theorem rplan_ok (f : TFl) (t : Task) (k : TaskOk t) : ACall Try.prog 62 [aTask f t] [] (fun v h => v = .tup 3 (ofL [(rPlan t).l, AI (rPlan t).w, .bool (rPlan t).isSome]) ∧ h = []) := by
  have k2 := k.hn
  have k3 := k.pn
  have cE := every_ok f t k t.parts.length true true [] (by simp) (fun h => by omega)
  have hb : (rEv t t.parts.length []).length ≤ 59049 := Nat.le_trans (rEv_len k) (Nat.pow_le_pow_right (by decide) (by omega : t.parts.length ≤ 10))
  have hin := rEv_in (t := t) (n := t.parts.length) (r := []) (fun i hi => absurd hi (Nat.not_lt_zero i))
  unfold rPlan
  generalize rEv t t.parts.length [] = L at *
  (refine fcall_of mixed Try.func62 rfl (by decide) (hs := {}) ?k (ac := ?ac) ?c (rs := ?rs) ?r ?l ?H; (case k => kernel_rfl); (case c => (conv => (lhs; cbv))); (case r => (conv => (lhs; cbv))); (case l => exact Nat.le_of_ble_eq_true rfl))
  (repeat' ((try (conv => whnf)); first | (with_reducible first | refine FCond.tA ?_ | refine FCond.fA ?_) | ((with_reducible refine FCond.i (fun hq => ?_) (fun hq => ?_)) <;> (try simp only [zA, zE, zD, zJ, zB, zI, Int.not_le, Int.not_lt] at hq)) | (with_reducible first | refine Fits.in64 (by omega) ?_ | refine FIdx.nat (by omega) ?_ | refine FIdx.int (by omega) ?_ | refine FTo.nat (by omega) ?_ | refine FTo.int (by omega) ?_) | ((with_reducible refine Need.mk ?_ ?_); focus exact needA) | (with_reducible refine FApp.grow ?_) | (refine FCall.pure cE ⟨Ln.sameB _ rfl, Ln.A, True.intro⟩ rfl ?_)))
  all_goals (try (conv => whnf))
  refine FLoop.of (ACalls.mono _) (X := Nat × PSt) (fun x => [(1, .ptr 0 0), (5, aLists L), (6, x.2.l), (7, AI x.2.w), (8, AI x.1)]) (fun _ => [.box 5 (cTask f t)]) (fun x => x.1 ≤ L.length ∧ x.2 = rTo t L x.1) (fun x => L.length - x.1) (0, none) ⟨⟨Nat.zero_le _, rfl⟩, [0], Cut.A, allA⟩ ?_
  rintro ⟨i, st⟩ ⟨hi, hst⟩
  change i ≤ L.length at hi
  change st = rTo t L i at hst
  dsimp only
  by_cases hlt : i < L.length
  · have hx := hin (L.getD i []) (by simp only [List.getD, List.getElem?_eq_getElem hlt, Option.getD_some]; exact List.getElem_mem hlt)
    have hxl : (L.getD i []).length = t.parts.length := by rw [hx.1]; simp
    have cW := worst_ok f t false false (L.getD i []) k ⟨by omega, hx.2⟩ (by omega)
    rcases st with _ | ⟨b, w⟩
    · (repeat' ((try (conv => whnf)); first | (with_reducible first | refine FCond.tA ?_ | refine FCond.fA ?_) | ((with_reducible refine FCond.i (fun hq => ?_) (fun hq => ?_)) <;> (try simp only [zA, zE, zD, zJ, zB, zI, Int.not_le, Int.not_lt] at hq)) | (with_reducible first | refine Fits.in64 (by omega) ?_ | refine FIdx.nat (by omega) ?_ | refine FIdx.int (by omega) ?_ | refine FTo.nat (by omega) ?_ | refine FTo.int (by omega) ?_) | ((with_reducible refine Need.mk ?_ ?_); focus exact needA) | (with_reducible refine FApp.grow ?_) | (refine FCall.pure (cW) ⟨Ln.sameB _ rfl, Ln.sameB _ rfl, True.intro⟩ rfl ?_)))
      all_goals (try (conv => whnf))
      (exact ⟨⟨(i + 1, some (L.getD i [], worst t (L.getD i []))), ⟨by show i + 1 ≤ _; omega, by show _ = rTo t L (i + 1); rw [rTo, ← hst]; rfl⟩, by show L.length - (i + 1) < L.length - i; omega, [0], Cut.A, allA⟩⟩)
    · (repeat' ((try (conv => whnf)); first | (with_reducible first | refine FCond.tA ?_ | refine FCond.fA ?_) | ((with_reducible refine FCond.i (fun hq => ?_) (fun hq => ?_)) <;> (try simp only [zA, zE, zD, zJ, zB, zI, Int.not_le, Int.not_lt] at hq)) | (with_reducible first | refine Fits.in64 (by omega) ?_ | refine FIdx.nat (by omega) ?_ | refine FIdx.int (by omega) ?_ | refine FTo.nat (by omega) ?_ | refine FTo.int (by omega) ?_) | ((with_reducible refine Need.mk ?_ ?_); focus exact needA) | (with_reducible refine FApp.grow ?_) | (refine FCall.pure (cW) ⟨Ln.sameB _ rfl, Ln.sameB _ rfl, True.intro⟩ rfl ?_)))
      all_goals (try (conv => whnf))
      · simp at hq
      · (exact ⟨⟨(i + 1, some (L.getD i [], worst t (L.getD i []))), ⟨by show i + 1 ≤ _; omega, by show _ = rTo t L (i + 1); rw [rTo, ← hst]; exact (if_pos hq).symm⟩, by show L.length - (i + 1) < L.length - i; omega, [0], Cut.A, allA⟩⟩)
      · (exact ⟨⟨(i + 1, some (b, w)), ⟨by show i + 1 ≤ _; omega, by show _ = rTo t L (i + 1); rw [rTo, ← hst]; exact (if_neg (Int.not_lt.2 hq)).symm⟩, by show L.length - (i + 1) < L.length - i; omega, [0], Cut.A, allA⟩⟩)
  · obtain rfl : i = L.length := by omega
    have hs := rTo_some t L L.length
    rw [← hst] at hs ⊢
    (repeat' ((try (conv => whnf)); first | (with_reducible first | refine FCond.tA ?_ | refine FCond.fA ?_) | ((with_reducible refine FCond.i (fun hq => ?_) (fun hq => ?_)) <;> (try simp only [zA, zE, zD, zJ, zB, zI, Int.not_le, Int.not_lt] at hq)) | (with_reducible first | refine Fits.in64 (by omega) ?_ | refine FIdx.nat (by omega) ?_ | refine FIdx.int (by omega) ?_ | refine FTo.nat (by omega) ?_ | refine FTo.int (by omega) ?_) | ((with_reducible refine Need.mk ?_ ?_); focus exact needA) | (with_reducible refine FApp.grow ?_)))
    all_goals (try (conv => whnf))
    have hs2 : decide ((0 : Int) < (L.length : Int)) = Option.isSome st := by rw [hs]; exact decide_eq_decide.2 (by omega)
    refine ⟨⟨_, [], [], Cut.nil _, Ln.sameB _ rfl, ?_, rfl⟩⟩
    rw [hs2]; rfl
/-- The elements of a set below 3. -/
def memL (s i : Nat) : List Int := (allL i).filter (fun x => s.testBit x.toNat)
def rPlanE (t : Task) : List AV := if t.ok then (match rPlan t with | none => [nilS, AI 0, AI 3] | some (l, w) => [aInts false false l, AI w, AI 0]) else [nilS, AI 0, AI 40]
set_option maxHeartbeats 4000000 in
set_option maxRecDepth 100000 in
theorem refPlan_ok (f : TFl) (t : Task) (h1 : t.hands.length ≤ 1000000) (h2 : t.parts.length ≤ 1000000) : ACall Try.prog 36 [aTask f t] [] (fun v h => v = .tup 3 (ofL (rPlanE t)) ∧ h = []) := by
  have cC := refCheck_ok f t h1 h2
  (refine fcall_of mixed Try.func36 rfl (by decide) (hs := {}) ?k (ac := ?ac) ?c (rs := ?rs) ?r ?l ?H; (case k => kernel_rfl); (case c => (conv => (lhs; cbv))); (case r => (conv => (lhs; cbv))); (case l => exact Nat.le_of_ble_eq_true rfl))
  by_cases hok : t.ok = true
  case neg =>
    rw [check_40 hok] at cC
    (repeat' ((try (conv => whnf)); first | (with_reducible first | refine FCond.tA ?_ | refine FCond.fA ?_) | ((with_reducible refine FCond.i (fun hq => ?_) (fun hq => ?_)) <;> (try simp only [zA, zE, zD, zJ, zB, zI, Int.not_le, Int.not_lt] at hq)) | (with_reducible first | refine Fits.in64 (by omega) ?_ | refine FIdx.nat (by omega) ?_ | refine FIdx.int (by omega) ?_ | refine FTo.nat (by omega) ?_ | refine FTo.int (by omega) ?_) | ((with_reducible refine Need.mk ?_ ?_); focus exact needA) | (with_reducible refine FApp.grow ?_) | (refine FCall.pure (cC) ⟨Ln.sameB _ rfl, True.intro⟩ rfl ?_)))
    all_goals (try (conv => whnf))
    all_goals ((refine ⟨⟨_, [], [], Cut.nil _, Ln.sameB _ rfl, ?_, rfl⟩⟩); unfold rPlanE; rw [if_neg hok]; rfl)
  rw [check_0 hok] at cC
  have k := taskOk hok
  have cP := rplan_ok f t k
  unfold rPlanE
  rw [if_pos hok]
  generalize rPlan t = st at cP
  rcases st with _ | ⟨b, w⟩
  · replace cP : ACall Try.prog 62 [aTask f t] [] (fun v h => v = .tup 3 (ofL [aInts true false [], AI 0, .bool false]) ∧ h = []) := cP
    (repeat' ((try (conv => whnf)); first | (with_reducible first | refine FCond.tA ?_ | refine FCond.fA ?_) | ((with_reducible refine FCond.i (fun hq => ?_) (fun hq => ?_)) <;> (try simp only [zA, zE, zD, zJ, zB, zI, Int.not_le, Int.not_lt] at hq)) | (with_reducible first | refine Fits.in64 (by omega) ?_ | refine FIdx.nat (by omega) ?_ | refine FIdx.int (by omega) ?_ | refine FTo.nat (by omega) ?_ | refine FTo.int (by omega) ?_) | ((with_reducible refine Need.mk ?_ ?_); focus exact needA) | (with_reducible refine FApp.grow ?_) | (refine FCall.pure (cC) ⟨Ln.sameB _ rfl, True.intro⟩ rfl ?_) | (refine FCall.pure (cP) ⟨Ln.sameB _ rfl, True.intro⟩ rfl ?_)))
    all_goals (try (conv => whnf))
    (refine ⟨⟨_, [], [], Cut.nil _, Ln.sameB _ rfl, ?_, rfl⟩⟩)
    rfl
  · replace cP : ACall Try.prog 62 [aTask f t] [] (fun v h => v = .tup 3 (ofL [aInts false false b, AI w, .bool true]) ∧ h = []) := cP
    (repeat' ((try (conv => whnf)); first | (with_reducible first | refine FCond.tA ?_ | refine FCond.fA ?_) | ((with_reducible refine FCond.i (fun hq => ?_) (fun hq => ?_)) <;> (try simp only [zA, zE, zD, zJ, zB, zI, Int.not_le, Int.not_lt] at hq)) | (with_reducible first | refine Fits.in64 (by omega) ?_ | refine FIdx.nat (by omega) ?_ | refine FIdx.int (by omega) ?_ | refine FTo.nat (by omega) ?_ | refine FTo.int (by omega) ?_) | ((with_reducible refine Need.mk ?_ ?_); focus exact needA) | (with_reducible refine FApp.grow ?_) | (refine FCall.pure (cC) ⟨Ln.sameB _ rfl, True.intro⟩ rfl ?_) | (refine FCall.pure (cP) ⟨Ln.sameB _ rfl, True.intro⟩ rfl ?_)))
    all_goals (try (conv => whnf))
    (refine ⟨⟨_, [], [], Cut.nil _, Ln.sameB _ rfl, ?_, rfl⟩⟩)
    rfl
end Go.Proofs.Ytomkjfhepfinhaa

namespace Go.Proofs.Ytomkjfhepfinhaa
open Go.RowKit

abbrev iSet (s : Nat) : AV := .ip 1 (ofL [AI s]) 0
abbrev fSet (s : Nat) : AV := .fn 60 1 (ofL [iSet s])
def keepB (s : Nat) (x : Int) : Bool := s.testBit x.toNat
set_option maxHeartbeats 4000000 in
set_option maxRecDepth 100000 in
theorem drop_ok (s : Nat) (x : Int) (hs : s < 8) (hx : 0 ≤ x ∧ x < 3) : ACall Try.prog 60 [AI x, iSet s] [] (fun r h => r = .bool (!keepB s x) ∧ h = []) := by
  (refine fcall_of mixed Try.func60 rfl (by decide) (hs := {}) ?k (ac := ?ac) ?c (rs := ?rs) ?r ?l ?H; (case k => kernel_rfl); (case c => (conv => (lhs; cbv))); (case r => (conv => (lhs; cbv))); (case l => exact Nat.le_of_ble_eq_true rfl))
  rcases (show x = 0 ∨ x = 1 ∨ x = 2 by omega) with rfl | rfl | rfl
  all_goals rcases (show s = 0 ∨ s = 1 ∨ s = 2 ∨ s = 3 ∨ s = 4 ∨ s = 5 ∨ s = 6 ∨ s = 7 by omega) with rfl | rfl | rfl | rfl | rfl | rfl | rfl | rfl
  all_goals (repeat' ((try (conv => whnf)); first | (with_reducible first | refine FCond.tA ?_ | refine FCond.fA ?_) | ((with_reducible refine FCond.i (fun hq => ?_) (fun hq => ?_)) <;> (try simp only [zA, zE, zD, zJ, zB, zI, Int.not_le, Int.not_lt] at hq)) | (with_reducible first | refine Fits.in64 (by omega) ?_ | refine FIdx.nat (by omega) ?_ | refine FIdx.int (by omega) ?_ | refine FTo.nat (by omega) ?_ | refine FTo.int (by omega) ?_) | ((with_reducible refine Need.mk ?_ ?_); focus exact needA) | (with_reducible refine FApp.grow ?_)))
  all_goals (try (conv => whnf))
  all_goals (refine ⟨⟨_, [], [], Cut.nil _, Ln.sameB _ rfl, ?_, rfl⟩⟩)
  all_goals rfl
set_option maxHeartbeats 4000000 in
set_option maxRecDepth 100000 in
theorem indexI_ok (z e : Bool) (l : List Int) (s : Nat) (hl : l.length ≤ 1000000) (hs : s < 8) (hi : ∀ i, i < l.length → 0 ≤ l.getD i 0 ∧ l.getD i 0 < 3) : ACall Try.prog 74 [aInts z e l, fSet s] [] (fun r h => r = AI (idxAt (fun x => !keepB s x) l 0) ∧ h = []) := by
  (refine fcall_of mixed Try.func74 rfl (by decide) (hs := {}) ?k (ac := ?ac) ?c (rs := ?rs) ?r ?l ?H; (case k => kernel_rfl); (case c => (conv => (lhs; cbv))); (case r => (conv => (lhs; cbv))); (case l => exact Nat.le_of_ble_eq_true rfl))
  (repeat' ((try (conv => whnf)); first | (with_reducible first | refine FCond.tA ?_ | refine FCond.fA ?_) | ((with_reducible refine FCond.i (fun hq => ?_) (fun hq => ?_)) <;> (try simp only [zA, zE, zD, zJ, zB, zI, Int.not_le, Int.not_lt] at hq)) | (with_reducible first | refine Fits.in64 (by omega) ?_ | refine FIdx.nat (by omega) ?_ | refine FIdx.int (by omega) ?_ | refine FTo.nat (by omega) ?_ | refine FTo.int (by omega) ?_) | ((with_reducible refine Need.mk ?_ ?_); focus exact needA) | (with_reducible refine FApp.grow ?_)))
  (try (conv => whnf))
  refine FLoop.of (ACalls.mono _) (X := Nat) (fun i => [(0, aInts z e l), (1, fSet s), (7, AI l.length), (8, AI i)]) (fun _ => []) (fun i => i ≤ l.length ∧ idxAt (fun x => !keepB s x) l 0 = idxAt (fun x => !keepB s x) (l.drop i) i) (fun i => l.length - i) 0 ⟨⟨by omega, rfl⟩, [], Cut.nil _, by exact allA⟩ ?_
  rintro i ⟨hi', hL⟩
  by_cases hlt : i < l.length
  · (repeat' ((try (conv => whnf)); first | (with_reducible first | refine FCond.tA ?_ | refine FCond.fA ?_) | ((with_reducible refine FCond.i (fun hq => ?_) (fun hq => ?_)) <;> (try simp only [zA, zE, zD, zJ, zB, zI, Int.not_le, Int.not_lt] at hq)) | (with_reducible first | refine Fits.in64 (by omega) ?_ | refine FIdx.nat (by omega) ?_ | refine FIdx.int (by omega) ?_ | refine FTo.nat (by omega) ?_ | refine FTo.int (by omega) ?_) | ((with_reducible refine Need.mk ?_ ?_); focus exact needA) | (with_reducible refine FApp.grow ?_) | (refine FCall.pure ((drop_ok s (l.getD i 0) hs (hi i hlt))) ⟨Ln.sameB _ rfl, Ln.sameB _ rfl, True.intro⟩ rfl ?_)))
    all_goals (try (conv => whnf))
    · (refine ⟨⟨_, [], [], Cut.nil _, Ln.sameB _ rfl, ?_, rfl⟩⟩)
      rw [idx_yes 0 hlt hL (by simpa using hq)]
    · (refine ⟨⟨(i + 1), ?inv, ?mu, [], Cut.nil _, allA⟩⟩)
      case inv => exact ⟨by omega, idx_step 0 hlt hL (by simpa using hq)⟩
      case mu => show _ < _; omega
  · (repeat' ((try (conv => whnf)); first | (with_reducible first | refine FCond.tA ?_ | refine FCond.fA ?_) | ((with_reducible refine FCond.i (fun hq => ?_) (fun hq => ?_)) <;> (try simp only [zA, zE, zD, zJ, zB, zI, Int.not_le, Int.not_lt] at hq)) | (with_reducible first | refine Fits.in64 (by omega) ?_ | refine FIdx.nat (by omega) ?_ | refine FIdx.int (by omega) ?_ | refine FTo.nat (by omega) ?_ | refine FTo.int (by omega) ?_) | ((with_reducible refine Need.mk ?_ ?_); focus exact needA) | (with_reducible refine FApp.grow ?_)))
    (try (conv => whnf))
    (refine ⟨⟨_, [], [], Cut.nil _, Ln.sameB _ rfl, ?_, rfl⟩⟩)
    rw [idx_end (by omega) hL]
set_option maxHeartbeats 4000000 in
set_option maxRecDepth 100000 in
theorem isNaN_ok (x : Int) : ACall Try.prog 78 [AI x] [] (fun r h => r = .bool false ∧ h = []) := by
  (refine fcall_of mixed Try.func78 rfl (by decide) (hs := {}) ?k (ac := ?ac) ?c (rs := ?rs) ?r ?l ?H; (case k => kernel_rfl); (case c => (conv => (lhs; cbv))); (case r => (conv => (lhs; cbv))); (case l => exact Nat.le_of_ble_eq_true rfl))
  (repeat' ((try (conv => whnf)); first | (with_reducible first | refine FCond.tA ?_ | refine FCond.fA ?_) | ((with_reducible refine FCond.i (fun hq => ?_) (fun hq => ?_)) <;> (try simp only [zA, zE, zD, zJ, zB, zI, Int.not_le, Int.not_lt] at hq)) | (with_reducible first | refine Fits.in64 (by omega) ?_ | refine FIdx.nat (by omega) ?_ | refine FIdx.int (by omega) ?_ | refine FTo.nat (by omega) ?_ | refine FTo.int (by omega) ?_) | ((with_reducible refine Need.mk ?_ ?_); focus exact needA) | (with_reducible refine FApp.grow ?_)))
  all_goals (try (conv => whnf))
  (refine ⟨⟨_, [], [], Cut.nil _, Ln.sameB _ rfl, ?_, rfl⟩⟩)
  refine congrArg AV.bool ?_
  simp
def cmpI (x y : Int) : Int := if x < y then -1 else if y < x then 1 else 0
set_option maxHeartbeats 4000000 in
set_option maxRecDepth 100000 in
theorem cmpI_ok (x y : Int) : ACall Try.prog 75 [AI x, AI y] [] (fun r h => r = AI (cmpI x y) ∧ h = []) := by
  (refine fcall_of mixed Try.func75 rfl (by decide) (hs := {}) ?k (ac := ?ac) ?c (rs := ?rs) ?r ?l ?H; (case k => kernel_rfl); (case c => (conv => (lhs; cbv))); (case r => (conv => (lhs; cbv))); (case l => exact Nat.le_of_ble_eq_true rfl))
  (repeat' ((try (conv => whnf)); first | (with_reducible first | refine FCond.tA ?_ | refine FCond.fA ?_) | ((with_reducible refine FCond.i (fun hq => ?_) (fun hq => ?_)) <;> (try simp only [zA, zE, zD, zJ, zB, zI, Int.not_le, Int.not_lt] at hq)) | (with_reducible first | refine Fits.in64 (by omega) ?_ | refine FIdx.nat (by omega) ?_ | refine FIdx.int (by omega) ?_ | refine FTo.nat (by omega) ?_ | refine FTo.int (by omega) ?_) | ((with_reducible refine Need.mk ?_ ?_); focus exact needA) | (with_reducible refine FApp.grow ?_) | (refine FCall.pure ((isNaN_ok _)) ⟨Ln.sameB _ rfl, True.intro⟩ rfl ?_)))
  all_goals (try (conv => whnf))
  all_goals (refine ⟨⟨_, [], [], Cut.nil _, Ln.sameB _ rfl, ?_, rfl⟩⟩)
  all_goals unfold cmpI
  · rw [if_pos (by omega)]
  · rw [if_neg (by omega), if_pos (by omega)]
  · rw [if_neg (by omega), if_neg (by omega)]
theorem idx_spec {p : Int → Bool} : ∀ {l : List Int} {i : Nat}, (idxAt p l i = -1 ∧ ∀ x ∈ l, p x = false) ∨ ∃ m, m < l.length ∧ idxAt p l i = ((i + m : Nat) : Int) ∧ (l.take (m + 1)).filter (fun x => !p x) = l.take m
  | [], _ => .inl ⟨rfl, fun x hx => by cases hx⟩
  | x :: xs, i => by
    rw [idxAt]
    by_cases e : p x = true
    · refine .inr ⟨0, by simp, by rw [if_pos e]; simp, by simp [e]⟩
    · have e' : p x = false := by simpa using e
      rcases idx_spec (p := p) (l := xs) (i := i + 1) with ⟨a, b⟩ | ⟨m, a, b, c⟩
      · refine .inl ⟨by rw [if_neg e, a], fun y hy => ?_⟩
        rcases List.mem_cons.1 hy with rfl | hy
        · exact e'
        · exact b y hy
      · refine .inr ⟨m + 1, by simp; omega, by rw [if_neg e, b]; omega, ?_⟩
        rw [List.take_succ_cons, List.take_succ_cons, List.filter_cons, e', c]; rfl
def keepF (s : Nat) (L : List Int) (j : Nat) : List Int := (L.take j).filter (keepB s)
theorem keepF_step {s : Nat} {L : List Int} {j : Nat} (hj : j < L.length) : keepF s L (j + 1) = if keepB s (L.getD j 0) = true then keepF s L j ++ [L.getD j 0] else keepF s L j := by
  unfold keepF
  have : L.take (j + 1) = L.take j ++ [L.getD j 0] := by
    rw [List.take_add_one, List.getElem?_eq_getElem hj]; simp [List.getD, List.getElem?_eq_getElem hj]
  rw [this, List.filter_append]
  split
  · rename_i h; simp only [List.filter_cons, List.filter_nil]; rw [if_pos h]
  · rename_i h; simp only [List.filter_cons, List.filter_nil]; rw [if_neg h, List.append_nil]
theorem keepF_all {s : Nat} {L : List Int} : keepF s L L.length = L.filter (keepB s) := by unfold keepF; rw [List.take_length]
theorem keep_mix {s : Nat} {L : List Int} {j : Nat} (h : (keepF s L j).length < j) : mixF (keepF s L j) L (keepF s L j).length j = L.getD j 0 := by
  unfold mixF; rw [if_neg (by omega)]
theorem keep_up {s : Nat} {L : List Int} {j : Nat} {v : Int} (hv : v = L.getD j 0) (e : keepF s L (j + 1) = keepF s L j ++ [L.getD j 0]) {n : Nat} {σ : Nat → Nat → Prop} {Bp : Nat → Prop} {H : List AB} : LnB σ Bp H (.row n 1 (updRm (fun k _ => AI (mixF (keepF s L j) L (keepF s L j).length k)) (keepF s L j).length (elemC (AI v)))) (.row n 1 (fun k _ => AI (mixF (keepF s L (j + 1)) L (keepF s L (j + 1)).length k))) := by
  refine .rowE (Nat.le_refl _) fun k hk o ho => ?_
  simp only [updRm, elemC]
  rw [e, List.length_append, List.length_singleton]
  by_cases h : k = (keepF s L j).length
  · subst h
    rw [if_pos rfl]
    refine int_eq ?_
    simp only [mixF, if_pos (Nat.lt_succ_self _)]
    rw [getD_snoc, if_neg (Nat.lt_irrefl _), if_pos rfl, hv]
  · rw [if_neg h]
    refine int_eq ?_
    simp only [mixF]
    by_cases h2 : k < (keepF s L j).length
    · rw [if_pos (by omega), if_pos h2, getD_snoc, if_pos h2]
    · rw [if_neg (by omega), if_neg h2]
set_option maxHeartbeats 4000000 in
set_option maxRecDepth 100000 in
theorem delete_ok (s : Nat) (L : List Int) (hs : s < 8) (hl : 0 < L.length ∧ L.length ≤ 1000) (hi : ∀ i, i < L.length → 0 ≤ L.getD i 0 ∧ L.getD i 0 < 3) : ACall Try.prog 59 [.own 0 L.length, fSet s] [rowC L.length L] (fun v h => v = .own 0 (L.filter (keepB s)).length ∧ h = [rowC (L.filter (keepB s)).length (L.filter (keepB s))]) := by
  have cI := indexI_ok false false L s (by omega) hs hi
  (refine fcall_of mixed Try.func59 rfl (by decide) (hs := {}) ?k (ac := ?ac) ?c (rs := ?rs) ?r ?l ?H; (case k => kernel_rfl); (case c => (conv => (lhs; cbv))); (case r => (conv => (lhs; cbv))); (case l => exact Nat.le_of_ble_eq_true rfl))
  rcases idx_spec (p := fun x => !keepB s x) (l := L) (i := 0) with ⟨a, b⟩ | ⟨m, a, b, c⟩
  · rw [a] at cI
    have hF : L.filter (keepB s) = L := List.filter_eq_self.2 fun x hx => by simpa using b x hx
    (repeat' ((try (conv => whnf)); first | (with_reducible first | refine FCond.tA ?_ | refine FCond.fA ?_) | ((with_reducible refine FCond.i (fun hq => ?_) (fun hq => ?_)) <;> (try simp only [zA, zE, zD, zJ, zB, zI, Int.not_le, Int.not_lt] at hq)) | (with_reducible first | refine Fits.in64 (by omega) ?_ | refine FIdx.nat (by omega) ?_ | refine FIdx.int (by omega) ?_ | refine FTo.nat (by omega) ?_ | refine FTo.int (by omega) ?_) | ((with_reducible refine Need.mk ?_ ?_); focus exact needA) | (refine FCall.lend [0] (cI) ⟨Ln.pubE (by decide) rfl (Nat.le_refl _) rfl (fun _ _ _ _ => rfl), Ln.sameB _ rfl, True.intro⟩ rfl trivial ?_)))
    all_goals (try (conv => whnf))
    rw [hF]
    exact ⟨⟨_, _, [0], Cut.A, Ln.A, rfl, rfl⟩⟩
  · rw [b, Nat.zero_add] at cI
    have hF0 : keepF s L (m + 1) = L.take m := by
      unfold keepF
      simpa using c
    have hFl : (keepF s L (m + 1)).length = m := by rw [hF0, List.length_take]; omega
    (repeat' ((try (conv => whnf)); first | (with_reducible first | refine FCond.tA ?_ | refine FCond.fA ?_) | ((with_reducible refine FCond.i (fun hq => ?_) (fun hq => ?_)) <;> (try simp only [zA, zE, zD, zJ, zB, zI, Int.not_le, Int.not_lt] at hq)) | (with_reducible first | refine Fits.in64 (by omega) ?_ | refine FIdx.nat (by omega) ?_ | refine FIdx.int (by omega) ?_ | refine FTo.nat (by omega) ?_ | refine FTo.int (by omega) ?_) | ((with_reducible refine Need.mk ?_ ?_); focus exact needA) | (refine FCall.lend [0] (cI) ⟨Ln.pubE (by decide) rfl (Nat.le_refl _) rfl (fun _ _ _ _ => rfl), Ln.sameB _ rfl, True.intro⟩ rfl trivial ?_)))
    all_goals (try (conv => whnf))
    refine FLoop.of (ACalls.mono _) (X := Nat) (fun j => [(0, .own 0 L.length), (1, fSet s), (5, AI (keepF s L j).length), (6, AI j)]) (fun j => [.row L.length 1 (fun k _ => AI (mixF (keepF s L j) L (keepF s L j).length k))]) (fun j => j ≤ L.length ∧ (keepF s L j).length < j) (fun j => L.length - j) (m + 1) ⟨⟨by omega, by omega⟩, [0], ?_, by exact allA⟩ ?_
    · refine Cut.of (Nat.le_of_ble_eq_true rfl) rfl rfl (CutL.turned rfl (LnB.rowE (Nat.le_refl _) fun k hk o ho => int_eq ?_) CutL.done)
      unfold mixF
      rw [hFl]
      split
      · rename_i h; rw [hF0, getD_take h]
      · rfl
    rintro j ⟨hj, hlt⟩
    by_cases hjt : j < L.length
    · have hst := keepF_step (s := s) hjt
      have hm := keep_mix hlt
      have cD := drop_ok s (mixF (keepF s L j) L (keepF s L j).length j) hs (by rw [hm]; exact hi j hjt)
      rw [hm] at cD
      (repeat' ((try (conv => whnf)); first | (with_reducible first | refine FCond.tA ?_ | refine FCond.fA ?_) | ((with_reducible refine FCond.i (fun hq => ?_) (fun hq => ?_)) <;> (try simp only [zA, zE, zD, zJ, zB, zI, Int.not_le, Int.not_lt] at hq)) | (with_reducible first | refine Fits.in64 (by omega) ?_ | refine FIdx.nat (by omega) ?_ | refine FIdx.int (by omega) ?_ | refine FTo.nat (by omega) ?_ | refine FTo.int (by omega) ?_) | ((with_reducible refine Need.mk ?_ ?_); focus exact needA) | (refine FCall.pure cD ⟨Ln.int hm, Ln.sameB _ rfl, True.intro⟩ rfl ?_)))
      all_goals (try (conv => whnf))
      · rw [if_pos hq] at hst
        have hlen : (keepF s L (j + 1)).length = (keepF s L j).length + 1 := by rw [hst, List.length_append]; rfl
        (exact ⟨⟨(j + 1), ⟨by omega, by omega⟩, by show _ < _; omega, [0], (by (refine Cut.of (Nat.le_of_ble_eq_true rfl) rfl rfl ?_; repeat (first | exact CutL.done | (refine CutL.turned rfl (by first | exact LnB.rowS | exact keep_up hm hst | exact LnB.A) ?_) | (refine CutL.gone (Nat.lt_of_lt_of_le (Nat.lt_succ_self _) (Nat.le_of_ble_eq_true rfl)) ?_)))), allA⟩⟩)
      · rw [if_neg (by rw [hq]; decide)] at hst
        have hlen : (keepF s L (j + 1)).length = (keepF s L j).length := by rw [hst]
        (exact ⟨⟨(j + 1), ⟨by omega, by omega⟩, by show _ < _; omega, [0], (by (refine Cut.of (Nat.le_of_ble_eq_true rfl) rfl rfl ?_; repeat (first | exact CutL.done | (refine CutL.turned rfl (by first | exact LnB.rowS | (rw [hst]; exact LnB.rowS) | exact LnB.A) ?_) | (refine CutL.gone (Nat.lt_of_lt_of_le (Nat.lt_succ_self _) (Nat.le_of_ble_eq_true rfl)) ?_)))), allA⟩⟩)
    · obtain rfl : j = L.length := by omega
      (repeat' ((try (conv => whnf)); first | (with_reducible first | refine FCond.tA ?_ | refine FCond.fA ?_) | ((with_reducible refine FCond.i (fun hq => ?_) (fun hq => ?_)) <;> (try simp only [zA, zE, zD, zJ, zB, zI, Int.not_le, Int.not_lt] at hq)) | (with_reducible first | refine Fits.in64 (by omega) ?_ | refine FIdx.nat (by omega) ?_ | refine FIdx.int (by omega) ?_ | refine FTo.nat (by omega) ?_ | refine FTo.int (by omega) ?_) | ((with_reducible refine Need.mk ?_ ?_); focus exact needA)))
      all_goals (try (conv => whnf))
      rw [keepF_all]
      refine ⟨⟨_, _, [0], ?_, Ln.A, rfl, rfl⟩⟩
      refine Cut.of (Nat.le_of_ble_eq_true rfl) rfl rfl (CutL.turned rfl (LnB.rowE (Nat.le_refl _) fun k hk o ho => int_eq ?_) CutL.done)
      unfold mixF; rw [if_pos hk]
end Go.Proofs.Ytomkjfhepfinhaa
