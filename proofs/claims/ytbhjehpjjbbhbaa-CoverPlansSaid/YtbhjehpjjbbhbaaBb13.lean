/- Cover: Plan of the reference. / Cover: the statement CoverPlans. -/
import Derived.Test.YtbhjehpjjbbhbaaBb12
import Derived.Test.YtbhjehpjjbbhbaaBb10
import Derived.Test.YtbhjehpjjbbhbaaBb9
set_option linter.unusedSimpArgs false
set_option linter.unusedVariables false
namespace Go.Proofs.Ytbhjehpjjbbhbaa
open Go.RowKit

theorem every_all (f : PoF) (p : Pool) (h : PoolOk p) (hsm : Small p) : ∀ r, EveryOk f p r
  | 0 => every_zero f p h
  | r + 1 => every_step f p h hsm r (every_all f p h hsm r)
def oAll : Nat → AV
  | 0 => nilS
  | k + 1 => .own 2 (k + 1)
def aBlk (f : PoF) (p : Pool) : Nat → List AB
  | 0 => [.box 4 (cPool f p), rowZ p.folk.length (leftTo p p.folk.length)]
  | k + 1 => [.box 4 (cPool f p), rowZ p.folk.length (leftTo p p.folk.length), .row (k + 1) 1 (fun s _ => aNI (coversT p s))]
theorem grow_ni {p : Pool} {n k o : Nat} (hk : k < n + 1 + 1) (ho : o < 1) : aNI (coversT p k) = appc (n + 1) (fun s _ => aNI (coversT p s)) (bslC (fun _ => ofL [.sl true true 0 0 fun _ _ => .bot]) [(0, aNI (coversT p (n + 1)))]) k o := by
  obtain rfl : o = 0 := by omega
  by_cases h : k < n + 1
  · rw [appc, if_pos h]
  · obtain rfl : k = n + 1 := by omega
    rw [appc, if_neg h, Nat.sub_self]; rfl
theorem left_row {p : Pool} {i k o : Nat} : AI (leftTo p (i + 1) k) = updRm (fun k _ => AI (leftTo p i k)) i (fun _ => AI p.most) k o := by
  simp only [updRm]
  by_cases e : k = i
  · subst e; rw [if_pos rfl]; exact int_eq left_new.symm
  · rw [if_neg e]; exact int_eq (left_keep e).symm
def pickI (p : Pool) (L : List (List Int)) : Nat → List Int
  | 0 => L.getD 0 []
  | k + 1 => if costT p (L.getD k []) < costT p (pickI p L k) then L.getD k [] else pickI p L k
theorem map_get (l : List (List Nat)) (k : Nat) : (l.map toI).getD k [] = toI (l.getD k []) := by
  simp only [List.getD, List.getElem?_map]
  cases l[k]? <;> rfl
theorem pickI_eq (p : Pool) (l : List (List Nat)) : ∀ k, pickI p (l.map toI) k = toI (pickT p l k)
  | 0 => map_get l 0
  | k + 1 => by
    rw [pickI, pickT, pickI_eq p l k, map_get, cost_toI, cost_toI]
    split <;> rfl
set_option maxHeartbeats 8000000
set_option maxRecDepth 100000
theorem refPlan_y (f : PoF) (p : Pool) (hn : NearP p) (hk : p.ok = true) (hsm : Small p) : ACall Try.prog 42 [aPool f p] [] (fun r h => r = .tup 3 (ofL [outI (refPlanE p).1, AI (refPlanE p).2.1, AI (refPlanE p).2.2]) ∧ h = []) := by
  have cC := refCheck_ok f p hn
  rw [check_0.2 hk] at cC
  have h := pool_d hk
  have s6 := h.s6
  have n8 := h.n8
  have hE : refPlanE p = if (everyV p p.needs.length (leftL p)).length = 0 then ([], 0, 3) else (toI (pickT p (everyV p p.needs.length (leftL p)) (everyV p p.needs.length (leftL p)).length), costL p (pickT p (everyV p p.needs.length (leftL p)) (everyV p p.needs.length (leftL p)).length), 0) := by unfold refPlanE; rw [if_pos hk]
  have cE := every_all f p h hsm p.needs.length 0 (by omega) [] rfl true true (fun e => by have := h.s1; omega) (leftL p) (leftL_8 h) false false
  (refine fcall_of mixed Try.func42 rfl (by decide) (hs := { pub := [13], ord := [(20, [(0, []), (1, []), (2, []), (3, []), (4, []), (6, []), (7, []), (5, [6]), (8, []), (9, [])])] }) ?k (ac := ?ac) ?c (rs := ?rs) ?r ?l ?H; (case k => kernel_rfl); (case c => (conv => (lhs; cbv))); (case r => (conv => (lhs; cbv))); (case l => exact Nat.le_of_ble_eq_true rfl))
  (repeat' ((try (conv => whnf)); first | (with_reducible first | refine FCond.tA ?_ | refine FCond.fA ?_) | ((with_reducible refine FCond.i (fun hq => ?_) (fun hq => ?_)) <;> (try simp only [zA, zE, zD, zJ, zB, zI, Int.not_le, Int.not_lt] at hq)) | (with_reducible first | refine Fits.in64 (by omega) ?_ | refine FIdx.nat (by omega) ?_ | refine FIdx.int (by omega) ?_ | refine FTo.nat (by omega) ?_ | refine FTo.int (by omega) ?_) | ((with_reducible refine Need.mk ?_ ?_); focus exact needA) | (with_reducible refine FApp.grow ?_) | (refine FCall.pure (cC) ⟨Ln.sameB _ rfl, True.intro⟩ rfl ?_)))
  all_goals (try (conv => whnf))
  refine FLoop.of (ACalls.mono _) (X := Nat) (fun i => [(1, .ptr 0 0), (5, .own 1 p.folk.length), (6, AI i)]) (fun i => [.box 4 (cPool f p), rowZ p.folk.length (leftTo p i)]) (fun i => i ≤ p.folk.length) (fun i => p.folk.length - i) 0 ⟨Nat.zero_le _, [0, 1], Cut.of (Nat.le_of_ble_eq_true rfl) rfl rfl (CutL.turned rfl LnB.A (CutL.turned rfl (LnB.rowE (Nat.le_refl _) (fun k hk o ho => by obtain rfl : o = 0 := Nat.lt_one_iff.1 ho; exact int_eq (if_neg (Nat.not_lt_zero k)))) CutL.done)), allA⟩ ?_
  intro i hi
  by_cases hlt : i < p.folk.length
  · (repeat' ((try (conv => whnf)); first | (with_reducible first | refine FCond.tA ?_ | refine FCond.fA ?_) | ((with_reducible refine FCond.i (fun hq => ?_) (fun hq => ?_)) <;> (try simp only [zA, zE, zD, zJ, zB, zI, Int.not_le, Int.not_lt] at hq)) | (with_reducible first | refine Fits.in64 (by omega) ?_ | refine FIdx.nat (by omega) ?_ | refine FIdx.int (by omega) ?_ | refine FTo.nat (by omega) ?_ | refine FTo.int (by omega) ?_) | ((with_reducible refine Need.mk ?_ ?_); focus exact needA) | (with_reducible refine FApp.grow ?_)))
    all_goals (try (conv => whnf))
    (exact ⟨⟨(i + 1), hlt, by show _ < _; omega, [0, 1], (by (refine Cut.of (Nat.le_of_ble_eq_true rfl) rfl rfl ?_; repeat (first | exact CutL.done | (refine CutL.turned rfl (by first | exact LnB.rowS | exact LnB.rowE (Nat.le_refl _) (fun k hk o ho => left_row) | exact LnB.A) ?_) | (refine CutL.gone (Nat.lt_of_lt_of_le (Nat.lt_succ_self _) (Nat.le_of_ble_eq_true rfl)) ?_)))), allA⟩⟩)
  · obtain rfl : i = p.folk.length := by omega
    (repeat' ((try (conv => whnf)); first | (with_reducible first | refine FCond.tA ?_ | refine FCond.fA ?_) | ((with_reducible refine FCond.i (fun hq => ?_) (fun hq => ?_)) <;> (try simp only [zA, zE, zD, zJ, zB, zI, Int.not_le, Int.not_lt] at hq)) | (with_reducible first | refine Fits.in64 (by omega) ?_ | refine FIdx.nat (by omega) ?_ | refine FIdx.int (by omega) ?_ | refine FTo.nat (by omega) ?_ | refine FTo.int (by omega) ?_) | ((with_reducible refine Need.mk ?_ ?_); focus exact needA) | (with_reducible refine FApp.grow ?_)))
    all_goals (try (conv => whnf))
    refine FLoop.of (ACalls.mono _) (X := Nat) (fun s => [(1, .ptr 0 0), (5, .own 1 p.folk.length), (7, oAll s), (8, AI s)]) (aBlk f p) (fun s => s ≤ p.needs.length) (fun s => p.needs.length - s) 0 ⟨Nat.zero_le _, [0, 1], Cut.A, allA⟩ ?_
    intro s hs
    by_cases hlt : s < p.needs.length
    · have cV := coversN_ok f p s hlt h
      cases s
      all_goals
        (repeat' ((try (conv => whnf)); first | (with_reducible first | refine FCond.tA ?_ | refine FCond.fA ?_) | ((with_reducible refine FCond.i (fun hq => ?_) (fun hq => ?_)) <;> (try simp only [zA, zE, zD, zJ, zB, zI, Int.not_le, Int.not_lt] at hq)) | (with_reducible first | refine Fits.in64 (by omega) ?_ | refine FIdx.nat (by omega) ?_ | refine FIdx.int (by omega) ?_ | refine FTo.nat (by omega) ?_ | refine FTo.int (by omega) ?_) | ((with_reducible refine Need.mk ?_ ?_); focus exact needA) | (with_reducible refine FApp.grow ?_) | (refine FCall.pure (cV) ⟨Ln.sameB _ rfl, Ln.sameB _ rfl, True.intro⟩ rfl ?_)))
        all_goals (try (conv => whnf))
      · (exact ⟨⟨(0 + 1), hlt, by show _ < _; omega, [0, 1, 2], (by (refine Cut.of (Nat.le_of_ble_eq_true rfl) rfl rfl ?_; repeat (first | exact CutL.done | (refine CutL.turned rfl (by first | exact LnB.rowS | exact LnB.rowE (Nat.le_refl _) (fun k hk o ho => by obtain rfl : k = 0 := Nat.lt_one_iff.1 hk; obtain rfl : o = 0 := Nat.lt_one_iff.1 ho; rfl) | exact LnB.A) ?_) | (refine CutL.gone (Nat.lt_of_lt_of_le (Nat.lt_succ_self _) (Nat.le_of_ble_eq_true rfl)) ?_)))), allA⟩⟩)
      · rename_i n
        (exact ⟨⟨(n + 1 + 1), hlt, by show _ < _; omega, [0, 1, 3], (by (refine Cut.of (Nat.le_of_ble_eq_true rfl) rfl rfl ?_; repeat (first | exact CutL.done | (refine CutL.turned rfl (by first | exact LnB.rowS | exact LnB.rowE (Nat.le_refl _) (fun k hk o ho => grow_ni hk ho) | exact LnB.A) ?_) | (refine CutL.gone (Nat.lt_of_lt_of_le (Nat.lt_succ_self _) (Nat.le_of_ble_eq_true rfl)) ?_)))), allA⟩⟩)
    · obtain rfl : s = p.needs.length := by omega
      obtain ⟨m, hm⟩ : ∃ m, p.needs.length = m + 1 := ⟨p.needs.length - 1, by have := h.s1; omega⟩
      have hbl : aBlk f p p.needs.length = [.box 4 (cPool f p), rowZ p.folk.length (leftTo p p.folk.length), .row p.needs.length 1 (fun s _ => aNI (coversT p s))] := by rw [hm]; rfl
      have hol : oAll p.needs.length = .own 2 p.needs.length := by rw [hm]; rfl
      rw [hbl, hol]
      have cE : ACall Try.prog 71 [aPool f p, aAll p, aInts true true (toI []), aInts false false (leftN p (leftL p))] [] (fun v h => v = aLs ((everyV p p.needs.length (leftL p)).map toI) ∧ h = []) := cE
      have hvl := ev_len hsm.n5 p.needs.length (Nat.le_refl _) (leftL p)
      have hvl2 : 32 ^ p.needs.length ≤ 32768 := Nat.le_trans (Nat.pow_le_pow_right (by decide) (show p.needs.length ≤ 3 from hsm.s3)) (by decide)
      have hmem := fun v => (mem_every (p := p) p.needs.length (leftL p) v)
      generalize everyV p p.needs.length (leftL p) = V at hE cE hvl hmem
      rw [hE]
      (repeat' ((try (conv => whnf)); first | (with_reducible first | refine FCond.tA ?_ | refine FCond.fA ?_) | ((with_reducible refine FCond.i (fun hq => ?_) (fun hq => ?_)) <;> (try simp only [zA, zE, zD, zJ, zB, zI, Int.not_le, Int.not_lt] at hq)) | (with_reducible first | refine Fits.in64 (by omega) ?_ | refine FIdx.nat (by omega) ?_ | refine FIdx.int (by omega) ?_ | refine FTo.nat (by omega) ?_ | refine FTo.int (by omega) ?_) | ((with_reducible refine Need.mk ?_ ?_); focus exact needA) | (with_reducible refine FApp.grow ?_)))
      all_goals (try (conv => whnf))
      refine FWk.of [(1, .ptr 0 0), (5, aInts false false (leftN p (leftL p))), (7, aAll p)] [.box 4 (cPool f p)] [0] (Cut.of (Nat.le_of_ble_eq_true rfl) rfl rfl (CutL.turned rfl LnB.A CutL.done)) ⟨Ln.A, Ln.pubE (goneB rfl) rfl (Nat.le_refl _) (leftN_len p _).symm (fun k hk o ho => int_eq (by rw [leftN_get hk, leftL_get (by omega)])), Ln.pubE (goneB rfl) rfl (Nat.le_refl _) rfl (fun _ _ _ _ => rfl), True.intro⟩ ?_
      rcases V with _ | ⟨v0, vs⟩
      · (repeat' ((try (conv => whnf)); first | (with_reducible first | refine FCond.tA ?_ | refine FCond.fA ?_) | ((with_reducible refine FCond.i (fun hq => ?_) (fun hq => ?_)) <;> (try simp only [zA, zE, zD, zJ, zB, zI, Int.not_le, Int.not_lt] at hq)) | (with_reducible first | refine Fits.in64 (by omega) ?_ | refine FIdx.nat (by omega) ?_ | refine FIdx.int (by omega) ?_ | refine FTo.nat (by omega) ?_ | refine FTo.int (by omega) ?_) | ((with_reducible refine Need.mk ?_ ?_); focus exact needA) | (with_reducible refine FApp.grow ?_) | (refine FCall.pure cE ⟨Ln.sameB _ rfl, Ln.sameB _ rfl, Ln.slz _ _ _ _ _ _ _ (fun h => h), Ln.sameB _ rfl, True.intro⟩ rfl ?_)))
        all_goals (try (conv => whnf))
        exact ⟨⟨.tup 3 (ofL [outI [], AI 0, AI 3]), [], [], Cut.nil _, Ln.tupN ⟨⟨⟨True.intro, Ln.slz _ _ _ _ _ _ _ (fun _ => rfl)⟩, Ln.A⟩, Ln.A⟩, rfl, rfl⟩⟩
      · (repeat' ((try (conv => whnf)); first | (with_reducible first | refine FCond.tA ?_ | refine FCond.fA ?_) | ((with_reducible refine FCond.i (fun hq => ?_) (fun hq => ?_)) <;> (try simp only [zA, zE, zD, zJ, zB, zI, Int.not_le, Int.not_lt] at hq)) | (with_reducible first | refine Fits.in64 (by omega) ?_ | refine FIdx.nat (by omega) ?_ | refine FIdx.int (by omega) ?_ | refine FTo.nat (by omega) ?_ | refine FTo.int (by omega) ?_) | ((with_reducible refine Need.mk ?_ ?_); focus exact needA) | (with_reducible refine FApp.grow ?_) | (refine FCall.pure cE ⟨Ln.sameB _ rfl, Ln.sameB _ rfl, Ln.slz _ _ _ _ _ _ _ (fun h => h), Ln.sameB _ rfl, True.intro⟩ rfl ?_)))
        all_goals (try (conv => whnf))
        · exact absurd hq (by rw [List.length_map, List.length_cons]; omega)
        have hcost : ∀ v, v ∈ (v0 :: vs) → ACall Try.prog 39 [aPool f p, aInts false false (toI v)] [] (fun r h => r = AI (costT p (toI v)) ∧ h = []) := fun v hv => by
          have hl := ((fit_iff h _ _ _ (Nat.le_refl _) (leftL_8 h)).1 ((hmem v).1 hv)).1
          exact refCost_ok f p false false (toI v) h (fun k _ => by rw [toI_get]; omega) (by rw [toI_len]; omega)
        have hLn : ((v0 :: vs).map toI).length = vs.length + 1 := by rw [List.length_map]; rfl
        have hvl : vs.length + 1 ≤ 32 ^ p.needs.length := hvl
        have hpick : ∀ k, k ≤ vs.length + 1 → pickI p ((v0 :: vs).map toI) k = toI (pickT p (v0 :: vs) k) ∧ pickT p (v0 :: vs) k ∈ (v0 :: vs) := fun k hk => by
          obtain ⟨j, h1, h2, _⟩ := pick_at (p := p) (l := v0 :: vs) (by simp) k hk
          exact ⟨pickI_eq p _ k, by rw [h2]; exact getD_memV h1⟩
        have hget : ∀ k, k < vs.length + 1 → ((v0 :: vs).map toI).getD k [] = toI ((v0 :: vs).getD k []) ∧ (v0 :: vs).getD k [] ∈ (v0 :: vs) := fun k hk => ⟨map_get _ k, getD_memV hk⟩
        rw [if_neg (show ¬ (v0 :: vs).length = 0 by simp)]
        generalize hLL : (v0 :: vs).map toI = LL at hLn hpick hget ⊢
        refine FLoop.of (ACalls.mono _) (X := Nat × List Int) (fun x => [(1, .ptr 0 0), (2, aInts false false x.2), (9, aLs LL), (10, AI x.1)]) (fun _ => [.box 4 (cPool f p)]) (fun x => x.1 ≤ vs.length + 1 ∧ pickI p LL x.1 = x.2) (fun x => vs.length + 1 - x.1) (0, LL.getD 0 []) ⟨⟨Nat.zero_le _, rfl⟩, [0], Cut.A, allA⟩ ?_
        rintro ⟨i, w⟩ ⟨hi, hw⟩
        simp only at hi hw
        have cP := hcost _ (hpick i hi).2
        rw [← (hpick i hi).1, hw] at cP
        by_cases hlt : i < vs.length + 1
        · have cG := hcost _ (hget i hlt).2
          rw [← (hget i hlt).1] at cG
          have hst : pickI p LL (i + 1) = if costT p (LL.getD i []) < costT p w then LL.getD i [] else w := by rw [pickI, hw]
          (repeat' ((try (conv => whnf)); first | (with_reducible first | refine FCond.tA ?_ | refine FCond.fA ?_) | ((with_reducible refine FCond.i (fun hq => ?_) (fun hq => ?_)) <;> (try simp only [zA, zE, zD, zJ, zB, zI, Int.not_le, Int.not_lt] at hq)) | (with_reducible first | refine Fits.in64 (by omega) ?_ | refine FIdx.nat (by omega) ?_ | refine FIdx.int (by omega) ?_ | refine FTo.nat (by omega) ?_ | refine FTo.int (by omega) ?_) | ((with_reducible refine Need.mk ?_ ?_); focus exact needA) | (with_reducible refine FApp.grow ?_) | (refine FCall.pure (cG) ⟨Ln.sameB _ rfl, Ln.sameB _ rfl, True.intro⟩ rfl ?_) | (refine FCall.pure (cP) ⟨Ln.sameB _ rfl, Ln.sameB _ rfl, True.intro⟩ rfl ?_)))
          all_goals (try (conv => whnf))
          · rw [if_pos hq] at hst
            (exact ⟨⟨(i + 1, LL.getD i []), ⟨hlt, hst⟩, by show _ < _; omega, [0], Cut.A, allA⟩⟩)
          · rw [if_neg (by omega)] at hst
            (exact ⟨⟨(i + 1, w), ⟨hlt, hst⟩, by show _ < _; omega, [0], Cut.A, allA⟩⟩)
        · obtain rfl : i = vs.length + 1 := by omega
          obtain ⟨hp1, hp2⟩ := hpick (vs.length + 1) (Nat.le_refl _)
          have hl := ((fit_iff h _ _ _ (Nat.le_refl _) (leftL_8 h)).1 ((hmem _).1 hp2)).1
          obtain rfl : w = toI (pickT p (v0 :: vs) (vs.length + 1)) := hw.symm.trans hp1
          rw [cost_toI] at cP
          (repeat' ((try (conv => whnf)); first | (with_reducible first | refine FCond.tA ?_ | refine FCond.fA ?_) | ((with_reducible refine FCond.i (fun hq => ?_) (fun hq => ?_)) <;> (try simp only [zA, zE, zD, zJ, zB, zI, Int.not_le, Int.not_lt] at hq)) | (with_reducible first | refine Fits.in64 (by omega) ?_ | refine FIdx.nat (by omega) ?_ | refine FIdx.int (by omega) ?_ | refine FTo.nat (by omega) ?_ | refine FTo.int (by omega) ?_) | ((with_reducible refine Need.mk ?_ ?_); focus exact needA) | (with_reducible refine FApp.grow ?_) | (refine FCall.pure (cP) ⟨Ln.sameB _ rfl, Ln.sameB _ rfl, True.intro⟩ rfl ?_)))
          all_goals (try (conv => whnf))
          refine ⟨⟨.tup 3 (ofL [aInts false false (toI (pickT p (v0 :: vs) (vs.length + 1))), AI (costL p (pickT p (v0 :: vs) (vs.length + 1))), AI 0]), [], [], Cut.nil _, allA, ?_, rfl⟩⟩
          show _ = AV.tup 3 (ofL [outI (toI (pickT p (v0 :: vs) (vs.length + 1))), AI (costL p (pickT p (v0 :: vs) (vs.length + 1))), AI 0])
          rw [outI_of (l := toI (pickT p (v0 :: vs) (vs.length + 1))) (m := p.needs.length - 1) (by rw [toI_len, hl]; have := h.s1; omega)]
end Go.Proofs.Ytbhjehpjjbbhbaa

namespace Go.Proofs.Ytbhjehpjjbbhbaa
open Go.RowKit

set_option maxHeartbeats 8000000
set_option maxRecDepth 100000
theorem refPlan_n (f : PoF) (p : Pool) (hn : NearP p) (hk : p.ok = false) : ACall Try.prog 42 [aPool f p] [] (fun r h => r = .tup 3 (ofL [outI (refPlanE p).1, AI (refPlanE p).2.1, AI (refPlanE p).2.2]) ∧ h = []) := by
  have cC := refCheck_ok f p hn
  rw [check_100 hk] at cC
  have hE : refPlanE p = ([], 0, 100) := by unfold refPlanE; rw [hk]; rfl
  rw [hE]
  (refine fcall_of mixed Try.func42 rfl (by decide) (hs := { pub := [13], ord := [(20, [(0, []), (1, []), (2, []), (3, []), (4, []), (6, []), (7, []), (5, [6]), (8, []), (9, [])])] }) ?k (ac := ?ac) ?c (rs := ?rs) ?r ?l ?H; (case k => kernel_rfl); (case c => (conv => (lhs; cbv))); (case r => (conv => (lhs; cbv))); (case l => exact Nat.le_of_ble_eq_true rfl))
  (repeat' ((try (conv => whnf)); first | (with_reducible first | refine FCond.tA ?_ | refine FCond.fA ?_) | ((with_reducible refine FCond.i (fun hq => ?_) (fun hq => ?_)) <;> (try simp only [zA, zE, zD, zJ, zB, zI, Int.not_le, Int.not_lt] at hq)) | (with_reducible first | refine Fits.in64 (by omega) ?_ | refine FIdx.nat (by omega) ?_ | refine FIdx.int (by omega) ?_ | refine FTo.nat (by omega) ?_ | refine FTo.int (by omega) ?_) | ((with_reducible refine Need.mk ?_ ?_); focus exact needA) | (with_reducible refine FApp.grow ?_) | (refine FCall.pure (cC) ⟨Ln.sameB _ rfl, True.intro⟩ rfl ?_)))
  all_goals (try (conv => whnf))
  exact ⟨⟨.tup 3 (ofL [outI [], AI 0, AI 100]), [], [], Cut.nil _, Ln.tupN ⟨⟨⟨True.intro, Ln.slz _ _ _ _ _ _ _ (fun _ => rfl)⟩, Ln.A⟩, Ln.A⟩, rfl, rfl⟩⟩
theorem refPlan_ok (f : PoF) (p : Pool) (hn : NearP p) (hf : farT p = false) : ACall Try.prog 42 [aPool f p] [] (fun r h => r = .tup 3 (ofL [outI (planE p).1, AI (planE p).2.1, AI (planE p).2.2]) ∧ h = []) := by
  rw [← refPlan_eq]
  cases hk : p.ok
  · exact refPlan_n f p hn hk
  · exact refPlan_y f p hn hk (small_of hf hk)
theorem planE_len (p : Pool) : (planE p).1.length ≤ 1000000 := by
  cases hk : p.ok
  · unfold planE; rw [hk]; exact Nat.zero_le _
  · have h := pool_d hk
    have s6 := h.s6
    rcases plan_best h hk with ⟨v, hE, hv1, _⟩ | ⟨hE, _⟩
    · rw [hE]
      have := (watch_d hv1).len
      show (toI v).length ≤ _
      omega
    · rw [hE]; exact Nat.zero_le _
theorem plans_any (f : PoF) (p : Pool) (s : Int) : ACall Try.prog 10 [aPool f p, AI s] [] (fun v h => v = .bool true ∧ h = []) := by
  have hcv := farT_ok f p
  (refine fcall_of mixed Try.func10 rfl (by decide) (hs := {}) ?k (ac := ?ac) ?c (rs := ?rs) ?r ?l ?H; (case k => kernel_rfl); (case c => (conv => (lhs; cbv))); (case r => (conv => (lhs; cbv))); (case l => exact Nat.le_of_ble_eq_true rfl))
  cases hv : farT p
  · rw [hv] at hcv
    have hn := near_of hv
    have cC := copy_ok f p hn
    have n1 := planE_len p
    (repeat' ((try (conv => whnf)); first | (with_reducible first | refine FCond.tA ?_ | refine FCond.fA ?_) | ((with_reducible refine FCond.i (fun hq => ?_) (fun hq => ?_)) <;> (try simp only [zA, zE, zD, zJ, zB, zI, Int.not_le, Int.not_lt] at hq)) | (with_reducible first | refine Fits.in64 (by omega) ?_ | refine FIdx.nat (by omega) ?_ | refine FIdx.int (by omega) ?_ | refine FTo.nat (by omega) ?_ | refine FTo.int (by omega) ?_) | ((with_reducible refine Need.mk ?_ ?_); focus exact needA) | (with_reducible refine FApp.grow ?_) | (refine FCall.pure (hcv) ⟨Ln.sameB _ rfl, True.intro⟩ rfl ?_) | (refine FCall.pure (cC) ⟨Ln.sameB _ rfl, True.intro⟩ rfl ?_) | (refine FCall.pure ((pSlot_ok _ _ _ hn)) ⟨Ln.sameB _ rfl, Ln.sameB _ rfl, True.intro⟩ rfl ?_) | (refine FCall.pure ((refSlot_ok _ _ _ hn)) ⟨Ln.sameB _ rfl, Ln.sameB _ rfl, True.intro⟩ rfl ?_) | (refine FCall.pure ((plan_ok _ _ hn)) ⟨Ln.sameB _ rfl, True.intro⟩ rfl ?_) | (refine FCall.pure ((refPlan_ok _ _ hn hv)) ⟨Ln.sameB _ rfl, True.intro⟩ rfl ?_) | (refine FCall.pure ((sameInts_ok _ _ _ _ (planE p).1 (planE p).1 n1)) ⟨Ln.sameB _ rfl, Ln.sameB _ rfl, True.intro⟩ rfl ?_) | (refine FCall.pure works_ok True.intro rfl ?_)))
    all_goals (try (conv => whnf))
    all_goals first | ((refine ⟨⟨_, [], [], Cut.nil _, Ln.sameB _ rfl, ?_, rfl⟩⟩); rfl) | exact absurd rfl hq
  · rw [hv] at hcv
    (repeat' ((try (conv => whnf)); first | (with_reducible first | refine FCond.tA ?_ | refine FCond.fA ?_) | ((with_reducible refine FCond.i (fun hq => ?_) (fun hq => ?_)) <;> (try simp only [zA, zE, zD, zJ, zB, zI, Int.not_le, Int.not_lt] at hq)) | (with_reducible first | refine Fits.in64 (by omega) ?_ | refine FIdx.nat (by omega) ?_ | refine FIdx.int (by omega) ?_ | refine FTo.nat (by omega) ?_ | refine FTo.int (by omega) ?_) | ((with_reducible refine Need.mk ?_ ?_); focus exact needA) | (with_reducible refine FApp.grow ?_) | (refine FCall.pure (hcv) ⟨Ln.sameB _ rfl, True.intro⟩ rfl ?_) | (refine FCall.pure works_ok True.intro rfl ?_)))
    all_goals (try (conv => whnf))
    all_goals ((refine ⟨⟨_, [], [], Cut.nil _, Ln.sameB _ rfl, ?_, rfl⟩⟩); rfl)
end Go.Proofs.Ytbhjehpjjbbhbaa
