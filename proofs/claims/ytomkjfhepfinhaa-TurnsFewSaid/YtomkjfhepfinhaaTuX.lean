/- Turns: what a right rota keeps; THE THEOREM OF THE TURNS (TurnsLimit), walked. -/
import Derived.Test.YtomkjfhepfinhaaTuW
set_option linter.unusedSimpArgs false
set_option linter.unusedVariables false
namespace Go.Proofs.Ytomkjfhepfinhaa
open Go.RowKit

theorem trail_take {h : Int} {r : List Int} {n : Nat} : ∀ {m : Nat}, m ≤ n → trailTo h (r.take n) m = trailTo h r m
  | 0, _ => rfl
  | m + 1, hm => by rw [trailTo, trailTo, getD_take (by omega), trail_take (by omega)]
theorem last_take {h : Int} {r : List Int} {n : Nat} : ∀ {m : Nat}, m ≤ n → lastTo h (r.take n) m = lastTo h r m
  | 0, _ => rfl
  | m + 1, hm => by rw [lastTo, lastTo, getD_take (by omega), last_take (by omega)]
theorem last_at {h : Int} {r : List Int} {i : Nat} (hi : r.getD i 0 = h) : ∀ {k : Nat}, i < k → (∀ j, i < j → j < k → r.getD j 0 ≠ h) → lastTo h r k = i
  | 0, hk, _ => by omega
  | k + 1, hk, hj => by
    rw [lastTo]
    by_cases e : k = i
    · subst e; rw [if_pos hi]
    · rw [if_neg (hj k (by omega) (Nat.lt_succ_self k))]
      exact last_at hi (by omega) fun j a b => hj j a (by omega)
theorem right_pre {t : Task} {r : List Int} (h : rightP t r = true) {i : Nat} (hi : i < r.length) : followsP t (r.take i) (r.getD i 0) = true := by
  unfold rightP rightTo at h
  rw [List.all_eq_true] at h
  exact h i (List.mem_range.2 hi)
theorem keeps_right {t : Task} {r : List Int} (k : TaskOk t) (q : RotaIn t r) (h : rightP t r = true) : KeepsOk t r := by
  have k1 := k.lim
  refine ⟨fun i hi => ?_, fun i => ?_⟩
  · have hp : rightP t (r.take (i + 1)) = true := by
      unfold rightP rightTo
      rw [List.all_eq_true]
      intro j hj
      have hj' := List.mem_range.1 hj
      have hjl : j < i + 1 := by simp at hj'; omega
      rw [List.take_take, Nat.min_eq_left (by omega), getD_take hjl]
      exact right_pre h (by omega)
    rw [rightP_eq k _ fun j hj => by
      have hjl : j < i + 1 := by simp at hj; omega
      rw [getD_take hjl]; exact q.el j (by omega)] at hp
    have hx := q.el i hi
    have := right_trail (h := r.getD i 0) (by omega) _ (isRight_all.1 hp _ hx.1 hx.2)
    rw [show (r.take (i + 1)).length = i + 1 by simp; omega, trail_take (Nat.le_refl _)] at this
    exact this
  · intro kk
    induction kk using Nat.strongRecOn with
    | _ kk ih =>
      intro h1 h2 h3 h4 h5
      have hf := right_pre h h2
      rw [h5] at hf
      have hl : (r.take kk).length = kk := by simp; omega
      have hlast : lastTo (r.getD i 0) (r.take kk) (r.take kk).length = i := by
        rw [hl, last_take (Nat.le_refl _)]
        refine last_at rfl (by omega) fun j a b => ?_
        by_cases e : j = i + 1
        · subst e; exact h4
        · exact ih j b (by omega) (by omega) (by omega) h4
      unfold followsP at hf
      rw [hlast, hl, if_pos ⟨by omega, by omega⟩, decide_eq_true_eq] at hf
      omega
/-- A right rota of a valid task: what the program's functions say of it. -/
theorem rota_facts {t : Task} {r : List Int} (k : TaskOk t) (hok : t.ok = true) (hR : isRota t r = true) : checkRota t r = 0 ∧ RotaIn t r ∧ r.length = t.parts.length ∧ mistakesE t r = [AI (runC t r (extreme t r false)).bad, AI (badOf t r), AI 0] ∧ rightP t r = isRight t r := by
  obtain ⟨a, q⟩ := isRota_e hR
  have hc : checkRota t r = 0 := by unfold checkRota; rw [if_pos hok, if_pos hR]
  refine ⟨hc, q, a, ?_, rightP_eq k r q.el⟩
  unfold mistakesE
  rw [if_pos hc]
  unfold badOf
  rw [cTo_best q]; rfl
set_option maxHeartbeats 8000000 in
set_option maxRecDepth 100000 in
theorem limit_any (f : TFl) (t : Task) (z e : Bool) (rota : List Int) : ACall Try.prog 3 [aTask f t, aInts z e rota] [] (fun v h => v = .bool true ∧ h = []) := by
  have hcv := valid_ok f t
  (refine fcall_of mixed Try.func3 rfl (by decide) (hs := {}) ?k (ac := ?ac) ?c (rs := ?rs) ?r ?l ?H; (case k => kernel_rfl); (case c => (conv => (lhs; cbv))); (case r => (conv => (lhs; cbv))); (case l => exact Nat.le_of_ble_eq_true rfl))
  cases hv : validP t
  · rw [hv] at hcv
    (repeat' ((try (conv => whnf)); first | (with_reducible refine FCond.t (by first | assumption | (rw [decide_eq_true_eq]; omega) | (simp only [zA, zB, zC, zD, zE, zF, zG, ne_eq, *]; done) | (simp only [zA, zB, zC, zD, zE, zF, zG, ne_eq]; omega) | decide) ?_) | (with_reducible refine FCond.f (by first | assumption | (rw [decide_eq_false_iff_not]; omega) | (simp only [zE, zH, zI, zJ, zA, *]; done) | (simp only [zE, zH, zI, zJ, zA]; omega) | decide) ?_) | ((with_reducible refine FCond.i (fun hq => ?_) (fun hq => ?_)) <;> (try simp only [zA, zE, zD, zJ, zB, zI, Int.not_le, Int.not_lt] at hq)) | (with_reducible refine Fits.in64 (by omega) ?_) | (with_reducible refine FIdx.nat (by omega) ?_) | (with_reducible refine FIdx.int (by omega) ?_) | (with_reducible refine FTo.nat (by omega) ?_) | (with_reducible refine FTo.int (by omega) ?_) | ((with_reducible refine Need.mk ?_ ?_); focus (first | omega | (unfold maxLen; omega) | (simp only [maxLen, List.length_cons, List.length_map, List.length_range, true_or, or_true, true_and, and_true] <;> omega) | ((conv => whnf); exact ⟨rfl⟩) | ((conv => whnf); (repeat ((first | with_reducible refine FCond.t (by first | rfl | first | assumption | (rw [decide_eq_true_eq]; omega) | (simp only [zA, zB, zC, zD, zE, zF, zG, ne_eq, *]; done) | (simp only [zA, zB, zC, zD, zE, zF, zG, ne_eq]; omega) | decide) ?_ | with_reducible refine FCond.f (by first | rfl | first | assumption | (rw [decide_eq_false_iff_not]; omega) | (simp only [zE, zH, zI, zJ, zA, *]; done) | (simp only [zE, zH, zI, zJ, zA]; omega) | decide) ?_ | with_reducible refine Need.mk (by omega) ?_ | with_reducible refine FIdx.nat (by omega) ?_ | with_reducible refine FIdx.int (by omega) ?_); (conv => whnf))); exact ⟨rfl⟩))) | (with_reducible refine FApp.grow ?_) | (refine FCall.pure (hcv) ⟨Ln.sameB _ rfl, True.intro⟩ rfl ?_) | (refine FCall.pure works_ok True.intro rfl ?_)))
    all_goals (try (conv => whnf))
    all_goals ((refine ⟨⟨_, [], [], Cut.nil _, Ln.sameB _ rfl, ?_, rfl⟩⟩); rfl)
  rw [hv] at hcv
  by_cases hlen : 20 < rota.length
  · (repeat' ((try (conv => whnf)); first | (with_reducible refine FCond.t (by first | assumption | (rw [decide_eq_true_eq]; omega) | (simp only [zA, zB, zC, zD, zE, zF, zG, ne_eq, *]; done) | (simp only [zA, zB, zC, zD, zE, zF, zG, ne_eq]; omega) | decide) ?_) | (with_reducible refine FCond.f (by first | assumption | (rw [decide_eq_false_iff_not]; omega) | (simp only [zE, zH, zI, zJ, zA, *]; done) | (simp only [zE, zH, zI, zJ, zA]; omega) | decide) ?_) | ((with_reducible refine FCond.i (fun hq => ?_) (fun hq => ?_)) <;> (try simp only [zA, zE, zD, zJ, zB, zI, Int.not_le, Int.not_lt] at hq)) | (with_reducible refine Fits.in64 (by omega) ?_) | (with_reducible refine FIdx.nat (by omega) ?_) | (with_reducible refine FIdx.int (by omega) ?_) | (with_reducible refine FTo.nat (by omega) ?_) | (with_reducible refine FTo.int (by omega) ?_) | ((with_reducible refine Need.mk ?_ ?_); focus (first | omega | (unfold maxLen; omega) | (simp only [maxLen, List.length_cons, List.length_map, List.length_range, true_or, or_true, true_and, and_true] <;> omega) | ((conv => whnf); exact ⟨rfl⟩) | ((conv => whnf); (repeat ((first | with_reducible refine FCond.t (by first | rfl | first | assumption | (rw [decide_eq_true_eq]; omega) | (simp only [zA, zB, zC, zD, zE, zF, zG, ne_eq, *]; done) | (simp only [zA, zB, zC, zD, zE, zF, zG, ne_eq]; omega) | decide) ?_ | with_reducible refine FCond.f (by first | rfl | first | assumption | (rw [decide_eq_false_iff_not]; omega) | (simp only [zE, zH, zI, zJ, zA, *]; done) | (simp only [zE, zH, zI, zJ, zA]; omega) | decide) ?_ | with_reducible refine Need.mk (by omega) ?_ | with_reducible refine FIdx.nat (by omega) ?_ | with_reducible refine FIdx.int (by omega) ?_); (conv => whnf))); exact ⟨rfl⟩))) | (with_reducible refine FApp.grow ?_) | (refine FCall.pure (hcv) ⟨Ln.sameB _ rfl, True.intro⟩ rfl ?_) | (refine FCall.pure works_ok True.intro rfl ?_)))
    all_goals (try (conv => whnf))
    all_goals ((refine ⟨⟨_, [], [], Cut.nil _, Ln.sameB _ rfl, ?_, rfl⟩⟩); rfl)
  obtain ⟨v1, v2, hok⟩ : t.hands.length ≤ 20 ∧ t.parts.length ≤ 6 ∧ t.ok = true := by simpa [validP] using hv
  have k := taskOk hok
  have k1 := k.rest
  have k2 := k.hn
  have k3 := k.pn
  have cP := pPlan_ok f t (by omega) (by omega)
  have cR := isRota_ok f t z e rota (by omega) (by omega)
  have cI := isRight_ok f t z e rota (by omega) (by omega) (by omega)
  have spec := planS_spec (t := t) (hands := allL t.hands.length) k (fun h hh => allL_mem.1 hh) (allL_sorted _)
  have hE : planE t = if (planS t (allL t.hands.length)).isSome then [aInts false false (planS t (allL t.hands.length)).ll, AI (planS t (allL t.hands.length)).w, AI 0] else [nilS, AI 0, AI 3] := by unfold planE; rw [if_pos hok]
  rw [hE] at cP
  rcases spec with ⟨s1, s2⟩ | ⟨l, s1, s2, s3⟩
  · rw [s1] at cP
    replace cP : ACall Try.prog 13 [aTask f t] [] (fun v h => v = .tup 3 (ofL [nilS, AI 0, AI 3]) ∧ h = []) := cP
    have hno : isRota t rota = true → isRight t rota = false := fun a => by
      cases hb : isRight t rota
      · rfl
      · have := every_right k |>.2 ⟨a, hb⟩
        rw [s2] at this; cases this
    clear s2
    cases hr : isRota t rota
    · rw [hr] at cR
      (repeat' ((try (conv => whnf)); first | (with_reducible refine FCond.t (by first | assumption | (rw [decide_eq_true_eq]; omega) | (simp only [zA, zB, zC, zD, zE, zF, zG, ne_eq, *]; done) | (simp only [zA, zB, zC, zD, zE, zF, zG, ne_eq]; omega) | decide) ?_) | (with_reducible refine FCond.f (by first | assumption | (rw [decide_eq_false_iff_not]; omega) | (simp only [zE, zH, zI, zJ, zA, *]; done) | (simp only [zE, zH, zI, zJ, zA]; omega) | decide) ?_) | ((with_reducible refine FCond.i (fun hq => ?_) (fun hq => ?_)) <;> (try simp only [zA, zE, zD, zJ, zB, zI, Int.not_le, Int.not_lt] at hq)) | (with_reducible refine Fits.in64 (by omega) ?_) | (with_reducible refine FIdx.nat (by omega) ?_) | (with_reducible refine FIdx.int (by omega) ?_) | (with_reducible refine FTo.nat (by omega) ?_) | (with_reducible refine FTo.int (by omega) ?_) | ((with_reducible refine Need.mk ?_ ?_); focus (first | omega | (unfold maxLen; omega) | (simp only [maxLen, List.length_cons, List.length_map, List.length_range, true_or, or_true, true_and, and_true] <;> omega) | ((conv => whnf); exact ⟨rfl⟩) | ((conv => whnf); (repeat ((first | with_reducible refine FCond.t (by first | rfl | first | assumption | (rw [decide_eq_true_eq]; omega) | (simp only [zA, zB, zC, zD, zE, zF, zG, ne_eq, *]; done) | (simp only [zA, zB, zC, zD, zE, zF, zG, ne_eq]; omega) | decide) ?_ | with_reducible refine FCond.f (by first | rfl | first | assumption | (rw [decide_eq_false_iff_not]; omega) | (simp only [zE, zH, zI, zJ, zA, *]; done) | (simp only [zE, zH, zI, zJ, zA]; omega) | decide) ?_ | with_reducible refine Need.mk (by omega) ?_ | with_reducible refine FIdx.nat (by omega) ?_ | with_reducible refine FIdx.int (by omega) ?_); (conv => whnf))); exact ⟨rfl⟩))) | (with_reducible refine FApp.grow ?_) | (refine FCall.pure (hcv) ⟨Ln.sameB _ rfl, True.intro⟩ rfl ?_) | (refine FCall.pure works_ok True.intro rfl ?_) | (refine FCall.pure cP ⟨(by first | exact Ln.sameB _ rfl | exact Ln.sameB _ (by assumption) | exact Ln.slz _ _ _ _ _ _ _ (by decide) | exact Ln.bot _ | exact Ln.own _ _ _ rfl | exact Ln.ptr _ _ _ rfl | exact Ln.rp _ _ _ _ _ rfl | (refine Ln.int ?_; first | rfl | omega) | (refine Ln.ownE rfl ?_; omega) | (refine Ln.bool ?_; first | assumption | (simp; done)) | exact Ln.pub _ _ _ _ _ _ (goneB rfl) rfl (by omega) (fun _ _ _ _ => rfl) | ((first | refine Ln.fnN ?_ | refine Ln.aggN ?_ | refine Ln.tupN ?_); (repeat (first | exact True.intro | exact Ln.sameB _ rfl | exact Ln.sameB _ (by assumption) | exact Ln.slz _ _ _ _ _ _ _ (by decide) | exact Ln.bot _ | exact Ln.own _ _ _ rfl | exact Ln.ptr _ _ _ rfl | exact Ln.rp _ _ _ _ _ rfl | (refine Ln.int ?_; first | rfl | omega) | (refine Ln.ownE rfl ?_; omega) | (refine Ln.bool ?_; first | assumption | (simp; done)) | exact Ln.pub _ _ _ _ _ _ (goneB rfl) rfl (by omega) (fun _ _ _ _ => rfl) | refine Ln.fnN ?_ | refine Ln.aggN ?_ | refine Ln.tupN ?_ | refine ⟨?_, ?_⟩)))), True.intro⟩ rfl ?_) | (refine FCall.pure (cR) ⟨Ln.sameB _ rfl, Ln.sameB _ rfl, True.intro⟩ rfl ?_)))
      all_goals (try (conv => whnf))
      all_goals ((refine ⟨⟨_, [], [], Cut.nil _, Ln.sameB _ rfl, ?_, rfl⟩⟩); rfl)
    · rw [hr] at cR
      rw [hno hr] at cI
      (repeat' ((try (conv => whnf)); first | (with_reducible refine FCond.t (by first | assumption | (rw [decide_eq_true_eq]; omega) | (simp only [zA, zB, zC, zD, zE, zF, zG, ne_eq, *]; done) | (simp only [zA, zB, zC, zD, zE, zF, zG, ne_eq]; omega) | decide) ?_) | (with_reducible refine FCond.f (by first | assumption | (rw [decide_eq_false_iff_not]; omega) | (simp only [zE, zH, zI, zJ, zA, *]; done) | (simp only [zE, zH, zI, zJ, zA]; omega) | decide) ?_) | ((with_reducible refine FCond.i (fun hq => ?_) (fun hq => ?_)) <;> (try simp only [zA, zE, zD, zJ, zB, zI, Int.not_le, Int.not_lt] at hq)) | (with_reducible refine Fits.in64 (by omega) ?_) | (with_reducible refine FIdx.nat (by omega) ?_) | (with_reducible refine FIdx.int (by omega) ?_) | (with_reducible refine FTo.nat (by omega) ?_) | (with_reducible refine FTo.int (by omega) ?_) | ((with_reducible refine Need.mk ?_ ?_); focus (first | omega | (unfold maxLen; omega) | (simp only [maxLen, List.length_cons, List.length_map, List.length_range, true_or, or_true, true_and, and_true] <;> omega) | ((conv => whnf); exact ⟨rfl⟩) | ((conv => whnf); (repeat ((first | with_reducible refine FCond.t (by first | rfl | first | assumption | (rw [decide_eq_true_eq]; omega) | (simp only [zA, zB, zC, zD, zE, zF, zG, ne_eq, *]; done) | (simp only [zA, zB, zC, zD, zE, zF, zG, ne_eq]; omega) | decide) ?_ | with_reducible refine FCond.f (by first | rfl | first | assumption | (rw [decide_eq_false_iff_not]; omega) | (simp only [zE, zH, zI, zJ, zA, *]; done) | (simp only [zE, zH, zI, zJ, zA]; omega) | decide) ?_ | with_reducible refine Need.mk (by omega) ?_ | with_reducible refine FIdx.nat (by omega) ?_ | with_reducible refine FIdx.int (by omega) ?_); (conv => whnf))); exact ⟨rfl⟩))) | (with_reducible refine FApp.grow ?_) | (refine FCall.pure (hcv) ⟨Ln.sameB _ rfl, True.intro⟩ rfl ?_) | (refine FCall.pure works_ok True.intro rfl ?_) | (refine FCall.pure cP ⟨(by first | exact Ln.sameB _ rfl | exact Ln.sameB _ (by assumption) | exact Ln.slz _ _ _ _ _ _ _ (by decide) | exact Ln.bot _ | exact Ln.own _ _ _ rfl | exact Ln.ptr _ _ _ rfl | exact Ln.rp _ _ _ _ _ rfl | (refine Ln.int ?_; first | rfl | omega) | (refine Ln.ownE rfl ?_; omega) | (refine Ln.bool ?_; first | assumption | (simp; done)) | exact Ln.pub _ _ _ _ _ _ (goneB rfl) rfl (by omega) (fun _ _ _ _ => rfl) | ((first | refine Ln.fnN ?_ | refine Ln.aggN ?_ | refine Ln.tupN ?_); (repeat (first | exact True.intro | exact Ln.sameB _ rfl | exact Ln.sameB _ (by assumption) | exact Ln.slz _ _ _ _ _ _ _ (by decide) | exact Ln.bot _ | exact Ln.own _ _ _ rfl | exact Ln.ptr _ _ _ rfl | exact Ln.rp _ _ _ _ _ rfl | (refine Ln.int ?_; first | rfl | omega) | (refine Ln.ownE rfl ?_; omega) | (refine Ln.bool ?_; first | assumption | (simp; done)) | exact Ln.pub _ _ _ _ _ _ (goneB rfl) rfl (by omega) (fun _ _ _ _ => rfl) | refine Ln.fnN ?_ | refine Ln.aggN ?_ | refine Ln.tupN ?_ | refine ⟨?_, ?_⟩)))), True.intro⟩ rfl ?_) | (refine FCall.pure (cR) ⟨Ln.sameB _ rfl, Ln.sameB _ rfl, True.intro⟩ rfl ?_) | (refine FCall.pure (cI) ⟨Ln.sameB _ rfl, Ln.sameB _ rfl, True.intro⟩ rfl ?_)))
      all_goals (try (conv => whnf))
      all_goals ((refine ⟨⟨_, [], [], Cut.nil _, Ln.sameB _ rfl, ?_, rfl⟩⟩); rfl)
  · rw [s1] at cP
    replace cP : ACall Try.prog 13 [aTask f t] [] (fun v h => v = .tup 3 (ofL [aInts false false l, AI (badOf t l), AI 0]) ∧ h = []) := cP
    obtain ⟨m1, m2⟩ := (every_right k).1 s2
    obtain ⟨f1, f2, f3, f4, f5⟩ := rota_facts k hok m1
    have cR2 := isRota_ok f t false false l (by omega) (by omega)
    have cQ2 := pRight_ok f t false false l (by omega) (by omega) (by omega)
    have cM2 := mistakes_ok f t false false l (by omega) (by omega) (by omega)
    have cK2 := keeps_ok f t false false l (by omega) (by omega) (keeps_right k f2 (by rw [f5]; exact m2))
    rw [m1] at cR2
    rw [f5, m2, f1] at cQ2
    rw [f4] at cM2
    have hcase : ∀ b1 b2 : Bool, isRota t rota = b1 → isRight t rota = b2 → (b1 = true → b2 = true → (badOf t l < badOf t rota ∨ (badOf t l = badOf t rota ∧ lowerL rota l = false))) := fun b1 b2 e1 e2 a b => s3 rota ((every_right k).2 ⟨e1.trans a, e2.trans b⟩)
    clear s3 s2 s1 f1 f2 f4 f5 m1 m2 hE
    cases hr : isRota t rota
    · rw [hr] at cR
      clear hcase
      (repeat' ((try (conv => whnf)); first | (with_reducible refine FCond.t (by first | assumption | (rw [decide_eq_true_eq]; omega) | (simp only [zA, zB, zC, zD, zE, zF, zG, ne_eq, *]; done) | (simp only [zA, zB, zC, zD, zE, zF, zG, ne_eq]; omega) | decide) ?_) | (with_reducible refine FCond.f (by first | assumption | (rw [decide_eq_false_iff_not]; omega) | (simp only [zE, zH, zI, zJ, zA, *]; done) | (simp only [zE, zH, zI, zJ, zA]; omega) | decide) ?_) | ((with_reducible refine FCond.i (fun hq => ?_) (fun hq => ?_)) <;> (try simp only [zA, zE, zD, zJ, zB, zI, Int.not_le, Int.not_lt] at hq)) | (with_reducible refine Fits.in64 (by omega) ?_) | (with_reducible refine FIdx.nat (by omega) ?_) | (with_reducible refine FIdx.int (by omega) ?_) | (with_reducible refine FTo.nat (by omega) ?_) | (with_reducible refine FTo.int (by omega) ?_) | ((with_reducible refine Need.mk ?_ ?_); focus (first | omega | (unfold maxLen; omega) | (simp only [maxLen, List.length_cons, List.length_map, List.length_range, true_or, or_true, true_and, and_true] <;> omega) | ((conv => whnf); exact ⟨rfl⟩) | ((conv => whnf); (repeat ((first | with_reducible refine FCond.t (by first | rfl | first | assumption | (rw [decide_eq_true_eq]; omega) | (simp only [zA, zB, zC, zD, zE, zF, zG, ne_eq, *]; done) | (simp only [zA, zB, zC, zD, zE, zF, zG, ne_eq]; omega) | decide) ?_ | with_reducible refine FCond.f (by first | rfl | first | assumption | (rw [decide_eq_false_iff_not]; omega) | (simp only [zE, zH, zI, zJ, zA, *]; done) | (simp only [zE, zH, zI, zJ, zA]; omega) | decide) ?_ | with_reducible refine Need.mk (by omega) ?_ | with_reducible refine FIdx.nat (by omega) ?_ | with_reducible refine FIdx.int (by omega) ?_); (conv => whnf))); exact ⟨rfl⟩))) | (with_reducible refine FApp.grow ?_) | (refine FCall.pure (hcv) ⟨Ln.sameB _ rfl, True.intro⟩ rfl ?_) | (refine FCall.pure works_ok True.intro rfl ?_) | (refine FCall.pure cP ⟨(by first | exact Ln.sameB _ rfl | exact Ln.sameB _ (by assumption) | exact Ln.slz _ _ _ _ _ _ _ (by decide) | exact Ln.bot _ | exact Ln.own _ _ _ rfl | exact Ln.ptr _ _ _ rfl | exact Ln.rp _ _ _ _ _ rfl | (refine Ln.int ?_; first | rfl | omega) | (refine Ln.ownE rfl ?_; omega) | (refine Ln.bool ?_; first | assumption | (simp; done)) | exact Ln.pub _ _ _ _ _ _ (goneB rfl) rfl (by omega) (fun _ _ _ _ => rfl) | ((first | refine Ln.fnN ?_ | refine Ln.aggN ?_ | refine Ln.tupN ?_); (repeat (first | exact True.intro | exact Ln.sameB _ rfl | exact Ln.sameB _ (by assumption) | exact Ln.slz _ _ _ _ _ _ _ (by decide) | exact Ln.bot _ | exact Ln.own _ _ _ rfl | exact Ln.ptr _ _ _ rfl | exact Ln.rp _ _ _ _ _ rfl | (refine Ln.int ?_; first | rfl | omega) | (refine Ln.ownE rfl ?_; omega) | (refine Ln.bool ?_; first | assumption | (simp; done)) | exact Ln.pub _ _ _ _ _ _ (goneB rfl) rfl (by omega) (fun _ _ _ _ => rfl) | refine Ln.fnN ?_ | refine Ln.aggN ?_ | refine Ln.tupN ?_ | refine ⟨?_, ?_⟩)))), True.intro⟩ rfl ?_) | (refine FCall.pure (cR) ⟨Ln.sameB _ rfl, Ln.sameB _ rfl, True.intro⟩ rfl ?_) | (refine FCall.pure (cR2) ⟨Ln.sameB _ rfl, Ln.sameB _ rfl, True.intro⟩ rfl ?_) | (refine FCall.pure (cQ2) ⟨Ln.sameB _ rfl, Ln.sameB _ rfl, True.intro⟩ rfl ?_) | (refine FCall.pure (cM2) ⟨Ln.sameB _ rfl, Ln.sameB _ rfl, True.intro⟩ rfl ?_) | (refine FCall.pure (cK2) ⟨Ln.sameB _ rfl, Ln.sameB _ rfl, True.intro⟩ rfl ?_)))
      all_goals (try (conv => whnf))
      all_goals ((refine ⟨⟨_, [], [], Cut.nil _, Ln.sameB _ rfl, ?_, rfl⟩⟩); rfl)
    · rw [hr] at cR
      obtain ⟨g1, g2, g3, g4, g5⟩ := rota_facts k hok hr
      have cM := mistakes_ok f t z e rota (by omega) (by omega) (by omega)
      rw [g4] at cM
      clear g1 g2 g4 g5
      have cB := before_ok z e false false rota l (by omega) (by omega)
      cases hr2 : isRight t rota
      · rw [hr2] at cI
        clear hcase
        (repeat' ((try (conv => whnf)); first | (with_reducible refine FCond.t (by first | assumption | (rw [decide_eq_true_eq]; omega) | (simp only [zA, zB, zC, zD, zE, zF, zG, ne_eq, *]; done) | (simp only [zA, zB, zC, zD, zE, zF, zG, ne_eq]; omega) | decide) ?_) | (with_reducible refine FCond.f (by first | assumption | (rw [decide_eq_false_iff_not]; omega) | (simp only [zE, zH, zI, zJ, zA, *]; done) | (simp only [zE, zH, zI, zJ, zA]; omega) | decide) ?_) | ((with_reducible refine FCond.i (fun hq => ?_) (fun hq => ?_)) <;> (try simp only [zA, zE, zD, zJ, zB, zI, Int.not_le, Int.not_lt] at hq)) | (with_reducible refine Fits.in64 (by omega) ?_) | (with_reducible refine FIdx.nat (by omega) ?_) | (with_reducible refine FIdx.int (by omega) ?_) | (with_reducible refine FTo.nat (by omega) ?_) | (with_reducible refine FTo.int (by omega) ?_) | ((with_reducible refine Need.mk ?_ ?_); focus (first | omega | (unfold maxLen; omega) | (simp only [maxLen, List.length_cons, List.length_map, List.length_range, true_or, or_true, true_and, and_true] <;> omega) | ((conv => whnf); exact ⟨rfl⟩) | ((conv => whnf); (repeat ((first | with_reducible refine FCond.t (by first | rfl | first | assumption | (rw [decide_eq_true_eq]; omega) | (simp only [zA, zB, zC, zD, zE, zF, zG, ne_eq, *]; done) | (simp only [zA, zB, zC, zD, zE, zF, zG, ne_eq]; omega) | decide) ?_ | with_reducible refine FCond.f (by first | rfl | first | assumption | (rw [decide_eq_false_iff_not]; omega) | (simp only [zE, zH, zI, zJ, zA, *]; done) | (simp only [zE, zH, zI, zJ, zA]; omega) | decide) ?_ | with_reducible refine Need.mk (by omega) ?_ | with_reducible refine FIdx.nat (by omega) ?_ | with_reducible refine FIdx.int (by omega) ?_); (conv => whnf))); exact ⟨rfl⟩))) | (with_reducible refine FApp.grow ?_) | (refine FCall.pure (hcv) ⟨Ln.sameB _ rfl, True.intro⟩ rfl ?_) | (refine FCall.pure works_ok True.intro rfl ?_) | (refine FCall.pure cP ⟨(by first | exact Ln.sameB _ rfl | exact Ln.sameB _ (by assumption) | exact Ln.slz _ _ _ _ _ _ _ (by decide) | exact Ln.bot _ | exact Ln.own _ _ _ rfl | exact Ln.ptr _ _ _ rfl | exact Ln.rp _ _ _ _ _ rfl | (refine Ln.int ?_; first | rfl | omega) | (refine Ln.ownE rfl ?_; omega) | (refine Ln.bool ?_; first | assumption | (simp; done)) | exact Ln.pub _ _ _ _ _ _ (goneB rfl) rfl (by omega) (fun _ _ _ _ => rfl) | ((first | refine Ln.fnN ?_ | refine Ln.aggN ?_ | refine Ln.tupN ?_); (repeat (first | exact True.intro | exact Ln.sameB _ rfl | exact Ln.sameB _ (by assumption) | exact Ln.slz _ _ _ _ _ _ _ (by decide) | exact Ln.bot _ | exact Ln.own _ _ _ rfl | exact Ln.ptr _ _ _ rfl | exact Ln.rp _ _ _ _ _ rfl | (refine Ln.int ?_; first | rfl | omega) | (refine Ln.ownE rfl ?_; omega) | (refine Ln.bool ?_; first | assumption | (simp; done)) | exact Ln.pub _ _ _ _ _ _ (goneB rfl) rfl (by omega) (fun _ _ _ _ => rfl) | refine Ln.fnN ?_ | refine Ln.aggN ?_ | refine Ln.tupN ?_ | refine ⟨?_, ?_⟩)))), True.intro⟩ rfl ?_) | (refine FCall.pure (cR) ⟨Ln.sameB _ rfl, Ln.sameB _ rfl, True.intro⟩ rfl ?_) | (refine FCall.pure (cI) ⟨Ln.sameB _ rfl, Ln.sameB _ rfl, True.intro⟩ rfl ?_) | (refine FCall.pure (cR2) ⟨Ln.sameB _ rfl, Ln.sameB _ rfl, True.intro⟩ rfl ?_) | (refine FCall.pure (cQ2) ⟨Ln.sameB _ rfl, Ln.sameB _ rfl, True.intro⟩ rfl ?_) | (refine FCall.pure (cM2) ⟨Ln.sameB _ rfl, Ln.sameB _ rfl, True.intro⟩ rfl ?_) | (refine FCall.pure (cK2) ⟨Ln.sameB _ rfl, Ln.sameB _ rfl, True.intro⟩ rfl ?_)))
        all_goals (try (conv => whnf))
        all_goals ((refine ⟨⟨_, [], [], Cut.nil _, Ln.sameB _ rfl, ?_, rfl⟩⟩); rfl)
      · rw [hr2] at cI
        have hs := hcase true true hr hr2 rfl rfl
        clear hcase
        (repeat' ((try (conv => whnf)); first | (with_reducible refine FCond.t (by first | assumption | (rw [decide_eq_true_eq]; omega) | (simp only [zA, zB, zC, zD, zE, zF, zG, ne_eq, *]; done) | (simp only [zA, zB, zC, zD, zE, zF, zG, ne_eq]; omega) | decide) ?_) | (with_reducible refine FCond.f (by first | assumption | (rw [decide_eq_false_iff_not]; omega) | (simp only [zE, zH, zI, zJ, zA, *]; done) | (simp only [zE, zH, zI, zJ, zA]; omega) | decide) ?_) | ((with_reducible refine FCond.i (fun hq => ?_) (fun hq => ?_)) <;> (try simp only [zA, zE, zD, zJ, zB, zI, Int.not_le, Int.not_lt] at hq)) | (with_reducible refine Fits.in64 (by omega) ?_) | (with_reducible refine FIdx.nat (by omega) ?_) | (with_reducible refine FIdx.int (by omega) ?_) | (with_reducible refine FTo.nat (by omega) ?_) | (with_reducible refine FTo.int (by omega) ?_) | ((with_reducible refine Need.mk ?_ ?_); focus (first | omega | (unfold maxLen; omega) | (simp only [maxLen, List.length_cons, List.length_map, List.length_range, true_or, or_true, true_and, and_true] <;> omega) | ((conv => whnf); exact ⟨rfl⟩) | ((conv => whnf); (repeat ((first | with_reducible refine FCond.t (by first | rfl | first | assumption | (rw [decide_eq_true_eq]; omega) | (simp only [zA, zB, zC, zD, zE, zF, zG, ne_eq, *]; done) | (simp only [zA, zB, zC, zD, zE, zF, zG, ne_eq]; omega) | decide) ?_ | with_reducible refine FCond.f (by first | rfl | first | assumption | (rw [decide_eq_false_iff_not]; omega) | (simp only [zE, zH, zI, zJ, zA, *]; done) | (simp only [zE, zH, zI, zJ, zA]; omega) | decide) ?_ | with_reducible refine Need.mk (by omega) ?_ | with_reducible refine FIdx.nat (by omega) ?_ | with_reducible refine FIdx.int (by omega) ?_); (conv => whnf))); exact ⟨rfl⟩))) | (with_reducible refine FApp.grow ?_) | (refine FCall.pure (hcv) ⟨Ln.sameB _ rfl, True.intro⟩ rfl ?_) | (refine FCall.pure works_ok True.intro rfl ?_) | (refine FCall.pure cP ⟨(by first | exact Ln.sameB _ rfl | exact Ln.sameB _ (by assumption) | exact Ln.slz _ _ _ _ _ _ _ (by decide) | exact Ln.bot _ | exact Ln.own _ _ _ rfl | exact Ln.ptr _ _ _ rfl | exact Ln.rp _ _ _ _ _ rfl | (refine Ln.int ?_; first | rfl | omega) | (refine Ln.ownE rfl ?_; omega) | (refine Ln.bool ?_; first | assumption | (simp; done)) | exact Ln.pub _ _ _ _ _ _ (goneB rfl) rfl (by omega) (fun _ _ _ _ => rfl) | ((first | refine Ln.fnN ?_ | refine Ln.aggN ?_ | refine Ln.tupN ?_); (repeat (first | exact True.intro | exact Ln.sameB _ rfl | exact Ln.sameB _ (by assumption) | exact Ln.slz _ _ _ _ _ _ _ (by decide) | exact Ln.bot _ | exact Ln.own _ _ _ rfl | exact Ln.ptr _ _ _ rfl | exact Ln.rp _ _ _ _ _ rfl | (refine Ln.int ?_; first | rfl | omega) | (refine Ln.ownE rfl ?_; omega) | (refine Ln.bool ?_; first | assumption | (simp; done)) | exact Ln.pub _ _ _ _ _ _ (goneB rfl) rfl (by omega) (fun _ _ _ _ => rfl) | refine Ln.fnN ?_ | refine Ln.aggN ?_ | refine Ln.tupN ?_ | refine ⟨?_, ?_⟩)))), True.intro⟩ rfl ?_) | (refine FCall.pure (cR) ⟨Ln.sameB _ rfl, Ln.sameB _ rfl, True.intro⟩ rfl ?_) | (refine FCall.pure (cI) ⟨Ln.sameB _ rfl, Ln.sameB _ rfl, True.intro⟩ rfl ?_) | (refine FCall.pure (cR2) ⟨Ln.sameB _ rfl, Ln.sameB _ rfl, True.intro⟩ rfl ?_) | (refine FCall.pure (cQ2) ⟨Ln.sameB _ rfl, Ln.sameB _ rfl, True.intro⟩ rfl ?_) | (refine FCall.pure (cM2) ⟨Ln.sameB _ rfl, Ln.sameB _ rfl, True.intro⟩ rfl ?_) | (refine FCall.pure (cK2) ⟨Ln.sameB _ rfl, Ln.sameB _ rfl, True.intro⟩ rfl ?_) | (refine FCall.pure (cM) ⟨Ln.sameB _ rfl, Ln.sameB _ rfl, True.intro⟩ rfl ?_) | (refine FCall.pure (cB) ⟨Ln.sameB _ rfl, Ln.sameB _ rfl, True.intro⟩ rfl ?_)))
        all_goals (try (conv => whnf))
        · (refine ⟨⟨_, [], [], Cut.nil _, Ln.sameB _ rfl, ?_, rfl⟩⟩)
          rfl
        · (refine ⟨⟨_, [], [], Cut.nil _, Ln.sameB _ rfl, ?_, rfl⟩⟩)
          rfl
        · exfalso
          rcases hs with h | ⟨_, h⟩
          · omega
          · rw [h] at hq; cases hq
end Go.Proofs.Ytomkjfhepfinhaa
