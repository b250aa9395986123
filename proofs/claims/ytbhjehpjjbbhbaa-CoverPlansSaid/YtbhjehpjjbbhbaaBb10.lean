/- Cover: Plan of the program (printed by gen_coo.py). / Cover: Pay, Cost, covers of the reference (printed by gen_cop.py). / Cover, plain: the watch of Plan is the cheapest one, and of those the lowest. / Cover, plain: the watches that Plan looks at are the safe ones. / Cover: the laws' helpers: sameInts, Far, valid. / Cover: the example, works. / Cover: the reference's Copy, in memory of its own. -/
import Derived.Test.YtbhjehpjjbbhbaaBb9
import Derived.Test.YtbhjehpjjbbhbaaBb6
set_option linter.unusedSimpArgs false
set_option linter.unusedVariables false
namespace Go.Proofs.Ytbhjehpjjbbhbaa
open Go.RowKit
theorem from_all (f : PoF) (p : Pool) (h : PoolOk p) : ∀ r, FromOk f p r
  | 0 => from_zero f p h
  | r + 1 => from_step f p h r (from_all f p h r)
def leftTo (p : Pool) (i k : Nat) : Int := if k < i then p.most else 0
def leftL (p : Pool) : List Int := (List.range 8).map fun k => leftTo p p.folk.length k
theorem leftL_get {p : Pool} {k : Nat} (h : k < 8) : (leftL p).getD k 0 = leftTo p p.folk.length k := by
  unfold leftL
  simp [List.getD, h]
theorem leftL_8 {p : Pool} (h : PoolOk p) : T8 (leftL p) := by
  refine ⟨by simp [leftL], fun k hk => ?_⟩
  rw [leftL_get hk]
  have := h.most
  unfold leftTo
  split <;> omega
def planE (p : Pool) : List Int × Int × Int := if p.ok then (if (fromT p p.needs.length (leftL p)).2 < 0 then ([], 0, 3) else ((fromT p p.needs.length (leftL p)).1, (fromT p p.needs.length (leftL p)).2, 0)) else ([], 0, 100)
theorem left_keep {p : Pool} {i j : Nat} (h : j ≠ i) : leftTo p i j = leftTo p (i + 1) j := by
  unfold leftTo
  by_cases h1 : j < i
  · rw [if_pos h1, if_pos (by omega)]
  · rw [if_neg h1, if_neg (by omega)]
theorem left_new {p : Pool} {i : Nat} : p.most = leftTo p (i + 1) i := (if_pos (by omega)).symm
theorem grow_row {p : Pool} {n k o : Nat} (hk : k < n + 1 + 1) (ho : o < 1) : outU (coversT p k) = appc (n + 1) (fun s _ => outU (coversT p s)) (bslC (fun _ => ofL [.sl true true 0 0 fun _ _ => .bot]) [(0, outU (coversT p (n + 1)))]) k o := by
  obtain rfl : o = 0 := by omega
  by_cases h : k < n + 1
  · rw [appc, if_pos h]
  · obtain rfl : k = n + 1 := by omega
    rw [appc, if_neg h, Nat.sub_self]; rfl
def gBlk (f : PoF) (p : Pool) : Nat → List AB
  | 0 => [.mp 9 [], .box 3 (ofL [iOpen f p, .sl true true 0 0 fun _ _ => .bot, .mpv 0]), .box 9 (cKey 0 (leftTo p p.folk.length))]
  | k + 1 => [.mp 9 [], .box 3 (ofL [iOpen f p, .own 3 (k + 1), .mpv 0]), .box 9 (cKey 0 (leftTo p p.folk.length)), .row (k + 1) 1 (fun s _ => outU (coversT p s))]
set_option maxHeartbeats 8000000
set_option maxRecDepth 100000
theorem plan_y (f : PoF) (p : Pool) (hn : NearP p) (hk : p.ok = true) : ACall Try.prog 16 [aPool f p] [] (fun r h => r = .tup 3 (ofL [outI (planE p).1, AI (planE p).2.1, AI (planE p).2.2]) ∧ h = []) := by
  have cO := open_y f p hn (check_0.2 hk)
  have h := pool_d hk
  have s6 := h.s6
  have n8 := h.n8
  have hm := h.most
  have cF := from_all f p h p.needs.length 0 (by omega) (leftL p) [] (leftL_8 h) (good_nil p)
  have hE : planE p = if (fromT p p.needs.length (leftL p)).2 < 0 then ([], 0, 3) else ((fromT p p.needs.length (leftL p)).1, (fromT p p.needs.length (leftL p)).2, 0) := by unfold planE; rw [if_pos hk]
  generalize hfr : fromT p p.needs.length (leftL p) = fr at hE cF
  rw [hE]
  clear hE
  (refine fcall_of mixed Try.func16 rfl (by decide) (hs := { pub := [16], ord := [(14, [(0, []), (1, []), (2, []), (3, []), (4, []), (5, []), (6, []), (7, [4]), (8, [4]), (9, []), (10, []), (11, []), (12, [])])] }) ?k (ac := ?ac) ?c (rs := ?rs) ?r ?l ?H; (case k => kernel_rfl); (case c => (conv => (lhs; cbv))); (case r => (conv => (lhs; cbv))); (case l => exact Nat.le_of_ble_eq_true rfl))
  (repeat' ((try (conv => whnf)); first | (with_reducible first | refine FCond.tA ?_ | refine FCond.fA ?_) | ((with_reducible refine FCond.i (fun hq => ?_) (fun hq => ?_)) <;> (try simp only [zA, zE, zD, zJ, zB, zI, Int.not_le, Int.not_lt] at hq)) | (with_reducible first | refine Fits.in64 (by omega) ?_ | refine FIdx.nat (by omega) ?_ | refine FIdx.int (by omega) ?_ | refine FTo.nat (by omega) ?_ | refine FTo.int (by omega) ?_) | ((with_reducible refine Need.mk ?_ ?_); focus exact needA) | (with_reducible refine FApp.grow ?_) | (refine FCall.pure (cO) ⟨Ln.sameB _ rfl, True.intro⟩ rfl ?_)))
  all_goals (try (conv => whnf))
  refine FLoop.of (ACalls.mono _) (X := Nat) (fun i => [(1, .ptr 0 0), (5, iOpen f p), (6, .ptr 2 0), (7, .ptr 3 0), (25, AI p.folk.length), (26, AI i)]) (fun i => [.box 4 (cPool f p), .mp 9 [], .box 3 (ofL [iOpen f p, .sl true true 0 0 fun _ _ => .bot, .mpv 1]), .box 9 (cKey 0 (leftTo p i))]) (fun i => i ≤ p.folk.length) (fun i => p.folk.length - i) 0 ⟨Nat.zero_le _, [0, 1, 2, 3], Cut.of (Nat.le_of_ble_eq_true rfl) rfl rfl (CutL.turned rfl LnB.A (CutL.turned rfl LnB.A (CutL.turned rfl (LnB.boxN ⟨⟨⟨True.intro, Ln.A⟩, Ln.slz _ _ _ _ _ _ _ (fun _ => rfl)⟩, Ln.mpv _ _ rfl⟩) (CutL.turned rfl (LnB.boxN ⟨⟨⟨⟨⟨⟨⟨⟨⟨True.intro, Ln.A⟩, Ln.int (if_neg (Nat.not_lt_zero _)).symm⟩, Ln.int (if_neg (Nat.not_lt_zero _)).symm⟩, Ln.int (if_neg (Nat.not_lt_zero _)).symm⟩, Ln.int (if_neg (Nat.not_lt_zero _)).symm⟩, Ln.int (if_neg (Nat.not_lt_zero _)).symm⟩, Ln.int (if_neg (Nat.not_lt_zero _)).symm⟩, Ln.int (if_neg (Nat.not_lt_zero _)).symm⟩, Ln.int (if_neg (Nat.not_lt_zero _)).symm⟩) CutL.done)))), allA⟩ ?_
  intro i hi
  by_cases hlt : i < p.folk.length
  · have hkeep := fun j => left_keep (p := p) (i := i) (j := j)
    have hnew := left_new (p := p) (i := i)
    obtain h0 | h0 | h0 | h0 | h0 | h0 | h0 | h0 : i = 0 ∨ i = 1 ∨ i = 2 ∨ i = 3 ∨ i = 4 ∨ i = 5 ∨ i = 6 ∨ i = 7 := by omega
    · subst h0
      (repeat' ((try (conv => whnf)); first | (with_reducible first | refine FCond.tA ?_ | refine FCond.fA ?_) | ((with_reducible refine FCond.i (fun hq => ?_) (fun hq => ?_)) <;> (try simp only [zA, zE, zD, zJ, zB, zI, Int.not_le, Int.not_lt] at hq)) | (with_reducible first | refine Fits.in64 (by omega) ?_ | refine FIdx.nat (by omega) ?_ | refine FIdx.int (by omega) ?_ | refine FTo.nat (by omega) ?_ | refine FTo.int (by omega) ?_) | ((with_reducible refine Need.mk ?_ ?_); focus exact needA) | (with_reducible refine FApp.grow ?_)))
      all_goals (try (conv => whnf))
      exact ⟨⟨0 + 1, hlt, by show _ < _; omega, [0, 1, 2, 3], Cut.of (Nat.le_of_ble_eq_true rfl) rfl rfl (CutL.turned rfl LnB.A (CutL.turned rfl LnB.A (CutL.turned rfl (LnB.boxN ⟨⟨⟨True.intro, Ln.A⟩, Ln.slz _ _ _ _ _ _ _ (fun _ => rfl)⟩, Ln.mpv _ _ rfl⟩) (CutL.turned rfl (LnB.boxN ⟨⟨⟨⟨⟨⟨⟨⟨⟨True.intro, Ln.A⟩, Ln.int (hnew)⟩, Ln.int (hkeep 1 (by decide))⟩, Ln.int (hkeep 2 (by decide))⟩, Ln.int (hkeep 3 (by decide))⟩, Ln.int (hkeep 4 (by decide))⟩, Ln.int (hkeep 5 (by decide))⟩, Ln.int (hkeep 6 (by decide))⟩, Ln.int (hkeep 7 (by decide))⟩) CutL.done)))), allA⟩⟩
    · subst h0
      (repeat' ((try (conv => whnf)); first | (with_reducible first | refine FCond.tA ?_ | refine FCond.fA ?_) | ((with_reducible refine FCond.i (fun hq => ?_) (fun hq => ?_)) <;> (try simp only [zA, zE, zD, zJ, zB, zI, Int.not_le, Int.not_lt] at hq)) | (with_reducible first | refine Fits.in64 (by omega) ?_ | refine FIdx.nat (by omega) ?_ | refine FIdx.int (by omega) ?_ | refine FTo.nat (by omega) ?_ | refine FTo.int (by omega) ?_) | ((with_reducible refine Need.mk ?_ ?_); focus exact needA) | (with_reducible refine FApp.grow ?_)))
      all_goals (try (conv => whnf))
      exact ⟨⟨1 + 1, hlt, by show _ < _; omega, [0, 1, 2, 3], Cut.of (Nat.le_of_ble_eq_true rfl) rfl rfl (CutL.turned rfl LnB.A (CutL.turned rfl LnB.A (CutL.turned rfl (LnB.boxN ⟨⟨⟨True.intro, Ln.A⟩, Ln.slz _ _ _ _ _ _ _ (fun _ => rfl)⟩, Ln.mpv _ _ rfl⟩) (CutL.turned rfl (LnB.boxN ⟨⟨⟨⟨⟨⟨⟨⟨⟨True.intro, Ln.A⟩, Ln.int (hkeep 0 (by decide))⟩, Ln.int (hnew)⟩, Ln.int (hkeep 2 (by decide))⟩, Ln.int (hkeep 3 (by decide))⟩, Ln.int (hkeep 4 (by decide))⟩, Ln.int (hkeep 5 (by decide))⟩, Ln.int (hkeep 6 (by decide))⟩, Ln.int (hkeep 7 (by decide))⟩) CutL.done)))), allA⟩⟩
    · subst h0
      (repeat' ((try (conv => whnf)); first | (with_reducible first | refine FCond.tA ?_ | refine FCond.fA ?_) | ((with_reducible refine FCond.i (fun hq => ?_) (fun hq => ?_)) <;> (try simp only [zA, zE, zD, zJ, zB, zI, Int.not_le, Int.not_lt] at hq)) | (with_reducible first | refine Fits.in64 (by omega) ?_ | refine FIdx.nat (by omega) ?_ | refine FIdx.int (by omega) ?_ | refine FTo.nat (by omega) ?_ | refine FTo.int (by omega) ?_) | ((with_reducible refine Need.mk ?_ ?_); focus exact needA) | (with_reducible refine FApp.grow ?_)))
      all_goals (try (conv => whnf))
      exact ⟨⟨2 + 1, hlt, by show _ < _; omega, [0, 1, 2, 3], Cut.of (Nat.le_of_ble_eq_true rfl) rfl rfl (CutL.turned rfl LnB.A (CutL.turned rfl LnB.A (CutL.turned rfl (LnB.boxN ⟨⟨⟨True.intro, Ln.A⟩, Ln.slz _ _ _ _ _ _ _ (fun _ => rfl)⟩, Ln.mpv _ _ rfl⟩) (CutL.turned rfl (LnB.boxN ⟨⟨⟨⟨⟨⟨⟨⟨⟨True.intro, Ln.A⟩, Ln.int (hkeep 0 (by decide))⟩, Ln.int (hkeep 1 (by decide))⟩, Ln.int (hnew)⟩, Ln.int (hkeep 3 (by decide))⟩, Ln.int (hkeep 4 (by decide))⟩, Ln.int (hkeep 5 (by decide))⟩, Ln.int (hkeep 6 (by decide))⟩, Ln.int (hkeep 7 (by decide))⟩) CutL.done)))), allA⟩⟩
    · subst h0
      (repeat' ((try (conv => whnf)); first | (with_reducible first | refine FCond.tA ?_ | refine FCond.fA ?_) | ((with_reducible refine FCond.i (fun hq => ?_) (fun hq => ?_)) <;> (try simp only [zA, zE, zD, zJ, zB, zI, Int.not_le, Int.not_lt] at hq)) | (with_reducible first | refine Fits.in64 (by omega) ?_ | refine FIdx.nat (by omega) ?_ | refine FIdx.int (by omega) ?_ | refine FTo.nat (by omega) ?_ | refine FTo.int (by omega) ?_) | ((with_reducible refine Need.mk ?_ ?_); focus exact needA) | (with_reducible refine FApp.grow ?_)))
      all_goals (try (conv => whnf))
      exact ⟨⟨3 + 1, hlt, by show _ < _; omega, [0, 1, 2, 3], Cut.of (Nat.le_of_ble_eq_true rfl) rfl rfl (CutL.turned rfl LnB.A (CutL.turned rfl LnB.A (CutL.turned rfl (LnB.boxN ⟨⟨⟨True.intro, Ln.A⟩, Ln.slz _ _ _ _ _ _ _ (fun _ => rfl)⟩, Ln.mpv _ _ rfl⟩) (CutL.turned rfl (LnB.boxN ⟨⟨⟨⟨⟨⟨⟨⟨⟨True.intro, Ln.A⟩, Ln.int (hkeep 0 (by decide))⟩, Ln.int (hkeep 1 (by decide))⟩, Ln.int (hkeep 2 (by decide))⟩, Ln.int (hnew)⟩, Ln.int (hkeep 4 (by decide))⟩, Ln.int (hkeep 5 (by decide))⟩, Ln.int (hkeep 6 (by decide))⟩, Ln.int (hkeep 7 (by decide))⟩) CutL.done)))), allA⟩⟩
    · subst h0
      (repeat' ((try (conv => whnf)); first | (with_reducible first | refine FCond.tA ?_ | refine FCond.fA ?_) | ((with_reducible refine FCond.i (fun hq => ?_) (fun hq => ?_)) <;> (try simp only [zA, zE, zD, zJ, zB, zI, Int.not_le, Int.not_lt] at hq)) | (with_reducible first | refine Fits.in64 (by omega) ?_ | refine FIdx.nat (by omega) ?_ | refine FIdx.int (by omega) ?_ | refine FTo.nat (by omega) ?_ | refine FTo.int (by omega) ?_) | ((with_reducible refine Need.mk ?_ ?_); focus exact needA) | (with_reducible refine FApp.grow ?_)))
      all_goals (try (conv => whnf))
      exact ⟨⟨4 + 1, hlt, by show _ < _; omega, [0, 1, 2, 3], Cut.of (Nat.le_of_ble_eq_true rfl) rfl rfl (CutL.turned rfl LnB.A (CutL.turned rfl LnB.A (CutL.turned rfl (LnB.boxN ⟨⟨⟨True.intro, Ln.A⟩, Ln.slz _ _ _ _ _ _ _ (fun _ => rfl)⟩, Ln.mpv _ _ rfl⟩) (CutL.turned rfl (LnB.boxN ⟨⟨⟨⟨⟨⟨⟨⟨⟨True.intro, Ln.A⟩, Ln.int (hkeep 0 (by decide))⟩, Ln.int (hkeep 1 (by decide))⟩, Ln.int (hkeep 2 (by decide))⟩, Ln.int (hkeep 3 (by decide))⟩, Ln.int (hnew)⟩, Ln.int (hkeep 5 (by decide))⟩, Ln.int (hkeep 6 (by decide))⟩, Ln.int (hkeep 7 (by decide))⟩) CutL.done)))), allA⟩⟩
    · subst h0
      (repeat' ((try (conv => whnf)); first | (with_reducible first | refine FCond.tA ?_ | refine FCond.fA ?_) | ((with_reducible refine FCond.i (fun hq => ?_) (fun hq => ?_)) <;> (try simp only [zA, zE, zD, zJ, zB, zI, Int.not_le, Int.not_lt] at hq)) | (with_reducible first | refine Fits.in64 (by omega) ?_ | refine FIdx.nat (by omega) ?_ | refine FIdx.int (by omega) ?_ | refine FTo.nat (by omega) ?_ | refine FTo.int (by omega) ?_) | ((with_reducible refine Need.mk ?_ ?_); focus exact needA) | (with_reducible refine FApp.grow ?_)))
      all_goals (try (conv => whnf))
      exact ⟨⟨5 + 1, hlt, by show _ < _; omega, [0, 1, 2, 3], Cut.of (Nat.le_of_ble_eq_true rfl) rfl rfl (CutL.turned rfl LnB.A (CutL.turned rfl LnB.A (CutL.turned rfl (LnB.boxN ⟨⟨⟨True.intro, Ln.A⟩, Ln.slz _ _ _ _ _ _ _ (fun _ => rfl)⟩, Ln.mpv _ _ rfl⟩) (CutL.turned rfl (LnB.boxN ⟨⟨⟨⟨⟨⟨⟨⟨⟨True.intro, Ln.A⟩, Ln.int (hkeep 0 (by decide))⟩, Ln.int (hkeep 1 (by decide))⟩, Ln.int (hkeep 2 (by decide))⟩, Ln.int (hkeep 3 (by decide))⟩, Ln.int (hkeep 4 (by decide))⟩, Ln.int (hnew)⟩, Ln.int (hkeep 6 (by decide))⟩, Ln.int (hkeep 7 (by decide))⟩) CutL.done)))), allA⟩⟩
    · subst h0
      (repeat' ((try (conv => whnf)); first | (with_reducible first | refine FCond.tA ?_ | refine FCond.fA ?_) | ((with_reducible refine FCond.i (fun hq => ?_) (fun hq => ?_)) <;> (try simp only [zA, zE, zD, zJ, zB, zI, Int.not_le, Int.not_lt] at hq)) | (with_reducible first | refine Fits.in64 (by omega) ?_ | refine FIdx.nat (by omega) ?_ | refine FIdx.int (by omega) ?_ | refine FTo.nat (by omega) ?_ | refine FTo.int (by omega) ?_) | ((with_reducible refine Need.mk ?_ ?_); focus exact needA) | (with_reducible refine FApp.grow ?_)))
      all_goals (try (conv => whnf))
      exact ⟨⟨6 + 1, hlt, by show _ < _; omega, [0, 1, 2, 3], Cut.of (Nat.le_of_ble_eq_true rfl) rfl rfl (CutL.turned rfl LnB.A (CutL.turned rfl LnB.A (CutL.turned rfl (LnB.boxN ⟨⟨⟨True.intro, Ln.A⟩, Ln.slz _ _ _ _ _ _ _ (fun _ => rfl)⟩, Ln.mpv _ _ rfl⟩) (CutL.turned rfl (LnB.boxN ⟨⟨⟨⟨⟨⟨⟨⟨⟨True.intro, Ln.A⟩, Ln.int (hkeep 0 (by decide))⟩, Ln.int (hkeep 1 (by decide))⟩, Ln.int (hkeep 2 (by decide))⟩, Ln.int (hkeep 3 (by decide))⟩, Ln.int (hkeep 4 (by decide))⟩, Ln.int (hkeep 5 (by decide))⟩, Ln.int (hnew)⟩, Ln.int (hkeep 7 (by decide))⟩) CutL.done)))), allA⟩⟩
    · subst h0
      (repeat' ((try (conv => whnf)); first | (with_reducible first | refine FCond.tA ?_ | refine FCond.fA ?_) | ((with_reducible refine FCond.i (fun hq => ?_) (fun hq => ?_)) <;> (try simp only [zA, zE, zD, zJ, zB, zI, Int.not_le, Int.not_lt] at hq)) | (with_reducible first | refine Fits.in64 (by omega) ?_ | refine FIdx.nat (by omega) ?_ | refine FIdx.int (by omega) ?_ | refine FTo.nat (by omega) ?_ | refine FTo.int (by omega) ?_) | ((with_reducible refine Need.mk ?_ ?_); focus exact needA) | (with_reducible refine FApp.grow ?_)))
      all_goals (try (conv => whnf))
      exact ⟨⟨7 + 1, hlt, by show _ < _; omega, [0, 1, 2, 3], Cut.of (Nat.le_of_ble_eq_true rfl) rfl rfl (CutL.turned rfl LnB.A (CutL.turned rfl LnB.A (CutL.turned rfl (LnB.boxN ⟨⟨⟨True.intro, Ln.A⟩, Ln.slz _ _ _ _ _ _ _ (fun _ => rfl)⟩, Ln.mpv _ _ rfl⟩) (CutL.turned rfl (LnB.boxN ⟨⟨⟨⟨⟨⟨⟨⟨⟨True.intro, Ln.A⟩, Ln.int (hkeep 0 (by decide))⟩, Ln.int (hkeep 1 (by decide))⟩, Ln.int (hkeep 2 (by decide))⟩, Ln.int (hkeep 3 (by decide))⟩, Ln.int (hkeep 4 (by decide))⟩, Ln.int (hkeep 5 (by decide))⟩, Ln.int (hkeep 6 (by decide))⟩, Ln.int (hnew)⟩) CutL.done)))), allA⟩⟩
  · obtain rfl : i = p.folk.length := by omega
    (repeat' ((try (conv => whnf)); first | (with_reducible first | refine FCond.tA ?_ | refine FCond.fA ?_) | ((with_reducible refine FCond.i (fun hq => ?_) (fun hq => ?_)) <;> (try simp only [zA, zE, zD, zJ, zB, zI, Int.not_le, Int.not_lt] at hq)) | (with_reducible first | refine Fits.in64 (by omega) ?_ | refine FIdx.nat (by omega) ?_ | refine FIdx.int (by omega) ?_ | refine FTo.nat (by omega) ?_ | refine FTo.int (by omega) ?_) | ((with_reducible refine Need.mk ?_ ?_); focus exact needA) | (with_reducible refine FApp.grow ?_)))
    all_goals (try (conv => whnf))
    refine FLoop.of (ACalls.mono _) (X := Nat) (fun s => [(5, iOpen f p), (6, .ptr 1 0), (7, .ptr 2 0), (37, AI p.needs.length), (38, AI s)]) (gBlk f p) (fun s => s ≤ p.needs.length) (fun s => p.needs.length - s) 0 ⟨Nat.zero_le _, [1, 2, 3], Cut.of (Nat.le_of_ble_eq_true rfl) rfl rfl (CutL.turned rfl LnB.A (CutL.turned rfl (LnB.boxN ⟨⟨⟨True.intro, Ln.A⟩, Ln.slz _ _ _ _ _ _ _ (fun _ => rfl)⟩, Ln.mpv _ _ rfl⟩) (CutL.turned rfl LnB.A CutL.done))), allA⟩ ?_
    intro s hs
    by_cases hlt : s < p.needs.length
    · have cS := slot_ok f p s hlt h
      cases s
      all_goals
        (repeat' ((try (conv => whnf)); first | (with_reducible first | refine FCond.tA ?_ | refine FCond.fA ?_) | ((with_reducible refine FCond.i (fun hq => ?_) (fun hq => ?_)) <;> (try simp only [zA, zE, zD, zJ, zB, zI, Int.not_le, Int.not_lt] at hq)) | (with_reducible first | refine Fits.in64 (by omega) ?_ | refine FIdx.nat (by omega) ?_ | refine FIdx.int (by omega) ?_ | refine FTo.nat (by omega) ?_ | refine FTo.int (by omega) ?_) | ((with_reducible refine Need.mk ?_ ?_); focus exact needA) | (with_reducible refine FApp.grow ?_) | (refine FCall.pure (cS) ⟨Ln.sameB _ rfl, Ln.sameB _ rfl, True.intro⟩ rfl ?_)))
        all_goals (try (conv => whnf))
      · exact ⟨⟨0 + 1, hlt, by show _ < _; omega, [0, 1, 2, 3], Cut.of (Nat.le_of_ble_eq_true rfl) rfl rfl (CutL.turned rfl LnB.A (CutL.turned rfl (LnB.boxN ⟨⟨⟨True.intro, Ln.A⟩, Ln.own _ _ _ rfl⟩, Ln.mpv _ _ rfl⟩) (CutL.turned rfl LnB.A (CutL.turned rfl (LnB.rowE (Nat.le_refl _) (fun k hk o ho => by obtain rfl : k = 0 := Nat.lt_one_iff.1 hk; obtain rfl : o = 0 := Nat.lt_one_iff.1 ho; rfl)) CutL.done)))), allA⟩⟩
      · rename_i n
        exact ⟨⟨n + 1 + 1, hlt, by show _ < _; omega, [0, 1, 2, 4], Cut.of (Nat.le_of_ble_eq_true rfl) rfl rfl (CutL.turned rfl LnB.A (CutL.turned rfl (LnB.boxN ⟨⟨⟨True.intro, Ln.A⟩, Ln.own _ _ _ rfl⟩, Ln.mpv _ _ rfl⟩) (CutL.turned rfl LnB.A (CutL.turned rfl (LnB.rowE (Nat.le_refl _) (fun k hk o ho => grow_row hk ho)) CutL.done)))), allA⟩⟩
    · obtain rfl : s = p.needs.length := by omega
      obtain ⟨m, hm⟩ : ∃ m, p.needs.length = m + 1 := ⟨p.needs.length - 1, by have := h.s1; omega⟩
      have hbl : gBlk f p p.needs.length = [.mp 9 [], .box 3 (ofL [iOpen f p, .own 3 p.needs.length, .mpv 0]), .box 9 (cKey 0 (leftTo p p.folk.length)), .row p.needs.length 1 (fun s _ => outU (coversT p s))] := by rw [hm]; rfl
      rw [hbl]
      (repeat' ((try (conv => whnf)); first | (with_reducible first | refine FCond.tA ?_ | refine FCond.fA ?_) | ((with_reducible refine FCond.i (fun hq => ?_) (fun hq => ?_)) <;> (try simp only [zA, zE, zD, zJ, zB, zI, Int.not_le, Int.not_lt] at hq)) | (with_reducible first | refine Fits.in64 (by omega) ?_ | refine FIdx.nat (by omega) ?_ | refine FIdx.int (by omega) ?_ | refine FTo.nat (by omega) ?_ | refine FTo.int (by omega) ?_) | ((with_reducible refine Need.mk ?_ ?_); focus exact needA) | (with_reducible refine FApp.grow ?_)))
      all_goals (try (conv => whnf))
      refine FWk.of [(6, .ptr 0 0), (7, .ptr 2 0)] [.box 3 (cPlanner f p), .mp 9 [], .box 9 (cKey 0 (leftTo p p.folk.length))] [1, 0, 2] (Cut.of (Nat.le_of_ble_eq_true rfl) rfl rfl (CutL.turned rfl (LnB.boxN ⟨⟨⟨True.intro, Ln.A⟩, Ln.pubE (goneB rfl) rfl (Nat.le_refl _) rfl (fun _ _ _ _ => rfl)⟩, Ln.mpv _ _ rfl⟩) (CutL.turned rfl LnB.A (CutL.turned rfl LnB.A CutL.done)))) allA ?_
      by_cases hc : fr.2 < 0
      · rw [if_pos hc]
        (repeat' ((try (conv => whnf)); first | (with_reducible first | refine FCond.tA ?_ | refine FCond.fA ?_) | ((with_reducible refine FCond.i (fun hq => ?_) (fun hq => ?_)) <;> (try simp only [zA, zE, zD, zJ, zB, zI, Int.not_le, Int.not_lt] at hq)) | (with_reducible first | refine Fits.in64 (by omega) ?_ | refine FIdx.nat (by omega) ?_ | refine FIdx.int (by omega) ?_ | refine FTo.nat (by omega) ?_ | refine FTo.int (by omega) ?_) | ((with_reducible refine Need.mk ?_ ?_); focus exact needA) | (with_reducible refine FApp.grow ?_) | ((refine FCall.give [0, 1] [] cF rfl rfl ⟨⟨_, rfl, trivial, LnB.A⟩, ⟨_, rfl, trivial, LnB.A⟩, True.intro⟩ ⟨Ln.A, Ln.aggN ⟨⟨⟨⟨⟨⟨⟨⟨⟨True.intro, Ln.int rfl⟩, Ln.int (leftL_get (by decide)).symm⟩, Ln.int (leftL_get (by decide)).symm⟩, Ln.int (leftL_get (by decide)).symm⟩, Ln.int (leftL_get (by decide)).symm⟩, Ln.int (leftL_get (by decide)).symm⟩, Ln.int (leftL_get (by decide)).symm⟩, Ln.int (leftL_get (by decide)).symm⟩, Ln.int (leftL_get (by decide)).symm⟩, True.intro⟩ ?_); rintro _ _ ⟨L2, hL2, rfl, rfl⟩; (refine ⟨by exact Nat.le_of_ble_eq_true rfl, .inl rfl, ?_⟩))))
        all_goals (try (conv => whnf))
        exact ⟨⟨.tup 3 (ofL [outI [], AI 0, AI 3]), [], [], Cut.nil _, Ln.tupN ⟨⟨⟨True.intro, Ln.slz _ _ _ _ _ _ _ (by decide)⟩, Ln.A⟩, Ln.A⟩, rfl, rfl⟩⟩
      · rw [if_neg hc]
        (repeat' ((try (conv => whnf)); first | (with_reducible first | refine FCond.tA ?_ | refine FCond.fA ?_) | ((with_reducible refine FCond.i (fun hq => ?_) (fun hq => ?_)) <;> (try simp only [zA, zE, zD, zJ, zB, zI, Int.not_le, Int.not_lt] at hq)) | (with_reducible first | refine Fits.in64 (by omega) ?_ | refine FIdx.nat (by omega) ?_ | refine FIdx.int (by omega) ?_ | refine FTo.nat (by omega) ?_ | refine FTo.int (by omega) ?_) | ((with_reducible refine Need.mk ?_ ?_); focus exact needA) | (with_reducible refine FApp.grow ?_) | ((refine FCall.give [0, 1] [] cF rfl rfl ⟨⟨_, rfl, trivial, LnB.A⟩, ⟨_, rfl, trivial, LnB.A⟩, True.intro⟩ ⟨Ln.A, Ln.aggN ⟨⟨⟨⟨⟨⟨⟨⟨⟨True.intro, Ln.int rfl⟩, Ln.int (leftL_get (by decide)).symm⟩, Ln.int (leftL_get (by decide)).symm⟩, Ln.int (leftL_get (by decide)).symm⟩, Ln.int (leftL_get (by decide)).symm⟩, Ln.int (leftL_get (by decide)).symm⟩, Ln.int (leftL_get (by decide)).symm⟩, Ln.int (leftL_get (by decide)).symm⟩, Ln.int (leftL_get (by decide)).symm⟩, True.intro⟩ ?_); rintro _ _ ⟨L2, hL2, rfl, rfl⟩; (refine ⟨by exact Nat.le_of_ble_eq_true rfl, .inl rfl, ?_⟩))))
        all_goals (try (conv => whnf))
        (refine ⟨⟨_, [], [], Cut.nil _, Ln.sameB _ rfl, ?_, rfl⟩⟩)
        rfl
theorem plan_n (f : PoF) (p : Pool) (hn : NearP p) (hk : p.ok = false) : ACall Try.prog 16 [aPool f p] [] (fun r h => r = .tup 3 (ofL [outI (planE p).1, AI (planE p).2.1, AI (planE p).2.2]) ∧ h = []) := by
  have hc : checkP p = 100 := check_100 hk
  have cO := open_n f p hn (by omega)
  have hE : planE p = ([], 0, 100) := by unfold planE; rw [hk]; rfl
  rw [hE]
  rw [hc] at cO
  (refine fcall_of mixed Try.func16 rfl (by decide) (hs := { pub := [16], ord := [(14, [(0, []), (1, []), (2, []), (3, []), (4, []), (5, []), (6, []), (7, [4]), (8, [4]), (9, []), (10, []), (11, []), (12, [])])] }) ?k (ac := ?ac) ?c (rs := ?rs) ?r ?l ?H; (case k => kernel_rfl); (case c => (conv => (lhs; cbv))); (case r => (conv => (lhs; cbv))); (case l => exact Nat.le_of_ble_eq_true rfl))
  (repeat' ((try (conv => whnf)); first | (with_reducible first | refine FCond.tA ?_ | refine FCond.fA ?_) | ((with_reducible refine FCond.i (fun hq => ?_) (fun hq => ?_)) <;> (try simp only [zA, zE, zD, zJ, zB, zI, Int.not_le, Int.not_lt] at hq)) | (with_reducible first | refine Fits.in64 (by omega) ?_ | refine FIdx.nat (by omega) ?_ | refine FIdx.int (by omega) ?_ | refine FTo.nat (by omega) ?_ | refine FTo.int (by omega) ?_) | ((with_reducible refine Need.mk ?_ ?_); focus exact needA) | (with_reducible refine FApp.grow ?_) | (refine FCall.pure (cO) ⟨Ln.sameB _ rfl, True.intro⟩ rfl ?_)))
  all_goals (try (conv => whnf))
  exact ⟨⟨.tup 3 (ofL [outI [], AI 0, AI 100]), [], [], Cut.nil _, Ln.tupN ⟨⟨⟨True.intro, Ln.slz _ _ _ _ _ _ _ (by decide)⟩, Ln.A⟩, Ln.A⟩, rfl, rfl⟩⟩
theorem plan_ok (f : PoF) (p : Pool) (hn : NearP p) : ACall Try.prog 16 [aPool f p] [] (fun r h => r = .tup 3 (ofL [outI (planE p).1, AI (planE p).2.1, AI (planE p).2.2]) ∧ h = []) := by
  cases hk : p.ok
  · exact plan_n f p hn hk
  · exact plan_y f p hn hk
end Go.Proofs.Ytbhjehpjjbbhbaa

namespace Go.Proofs.Ytbhjehpjjbbhbaa
open Go.RowKit

abbrev rowI (n : Nat) (l : List Int) : AB := .row n 1 (fun k _ => AI (l.getD k 0))
theorem getD_snoc (l : List Int) (x : Int) (k : Nat) : (l ++ [x]).getD k 0 = if k < l.length then l.getD k 0 else if k = l.length then x else 0 := by
  simp only [List.getD]
  by_cases h : k < l.length
  · rw [if_pos h, List.getElem?_append_left h]
  · rw [if_neg h, List.getElem?_append_right (by omega)]
    by_cases e : k = l.length
    · subst e; simp
    · rw [if_neg e, List.getElem?_eq_none (by simp; omega)]; rfl
def covQ (p : Pool) (s g : Nat) : Bool := canT p s g && coveredT p s g
def covI (p : Pool) (s i : Nat) : List Int := (((List.range (2 ^ p.folk.length)).drop i).filter (covQ p s)).map fun (g : Nat) => (g : Int)
def covL (p : Pool) (s : Nat) : List Int := (coversT p s).map fun (g : Nat) => (g : Int)
theorem covI_0 (p : Pool) (s : Nat) : covI p s 0 = covL p s := rfl
theorem drop_range {n i : Nat} (h : i < n) : (List.range n).drop i = i :: (List.range n).drop (i + 1) := by
  rw [drop_eq 0 (by rw [List.length_range]; exact h)]
  congr 1
  simp [List.getD, h]
theorem covI_yes {p : Pool} {s i : Nat} (h : i < 2 ^ p.folk.length) (hb : covQ p s i = true) : covI p s i = (i : Int) :: covI p s (i + 1) := by
  unfold covI; rw [drop_range h, List.filter_cons, if_pos hb]; rfl
theorem covI_no {p : Pool} {s i : Nat} (h : i < 2 ^ p.folk.length) (hb : covQ p s i = false) : covI p s i = covI p s (i + 1) := by
  unfold covI; rw [drop_range h, List.filter_cons, if_neg (by rw [hb]; decide)]
theorem covI_end {p : Pool} {s i : Nat} (h : 2 ^ p.folk.length ≤ i) : covI p s i = [] := by
  unfold covI; rw [List.drop_eq_nil_of_le (by rw [List.length_range]; exact h)]; rfl
theorem canBe_nat {p : Pool} {s i : Nat} (h : i < 2 ^ p.folk.length) : canBe p s i = canT p s i := by
  have hi : inB i 0 ((2 ^ p.folk.length : Nat) - 1) = true := decide_eq_true (by omega)
  unfold canBe; rw [hi, Int.toNat_natCast]; rfl
theorem covQ_d {p : Pool} {s i : Nat} (h : covQ p s i = true) : canT p s i = true ∧ coveredT p s i = true := by
  unfold covQ at h; rwa [Bool.and_eq_true] at h
def costTo (p : Pool) (w : List Int) : Nat → Int
  | 0 => 0
  | k + 1 => costTo p w k + payT p (w.getD k 0).toNat
def costT (p : Pool) (w : List Int) : Int := costTo p w w.length
theorem costTo_b {p : Pool} (h : PoolOk p) (w : List Int) : ∀ k, 0 ≤ costTo p w k ∧ costTo p w k ≤ 8000 * k
  | 0 => by show (0:Int) ≤ 0 ∧ (0:Int) ≤ _; omega
  | k + 1 => by
    have := costTo_b h w k
    have := pay_b h (w.getD k 0).toNat
    show 0 ≤ costTo p w k + _ ∧ costTo p w k + _ ≤ _
    omega
set_option maxHeartbeats 4000000
set_option maxRecDepth 100000
theorem refPay_ok (f : PoF) (p : Pool) (g : Nat) (h : PoolOk p) : ACall Try.prog 38 [aPool f p, AI g] [] (fun r h => r = AI (payT p g) ∧ h = []) := by
  have n8 := h.n8
  (refine fcall_of mixed Try.func38 rfl (by decide) (hs := {}) ?k (ac := ?ac) ?c (rs := ?rs) ?r ?l ?H; (case k => kernel_rfl); (case c => (conv => (lhs; cbv))); (case r => (conv => (lhs; cbv))); (case l => exact Nat.le_of_ble_eq_true rfl))
  (repeat' ((try (conv => whnf)); first | (with_reducible first | refine FCond.tA ?_ | refine FCond.fA ?_) | ((with_reducible refine FCond.i (fun hq => ?_) (fun hq => ?_)) <;> (try simp only [zA, zE, zD, zJ, zB, zI, Int.not_le, Int.not_lt] at hq)) | (with_reducible first | refine Fits.in64 (by omega) ?_ | refine FIdx.nat (by omega) ?_ | refine FIdx.int (by omega) ?_ | refine FTo.nat (by omega) ?_ | refine FTo.int (by omega) ?_) | ((with_reducible refine Need.mk ?_ ?_); focus exact needA) | (with_reducible refine FApp.grow ?_)))
  all_goals (try (conv => whnf))
  refine FLoop.of (ACalls.mono _) (X := Nat) (fun i => [(1, AI g), (2, .ptr 0 0), (5, AI (payTo p g i)), (6, AI i)]) (fun _ => [.box 4 (cPool f p)]) (fun i => i ≤ p.folk.length) (fun i => p.folk.length - i) 0 ⟨Nat.zero_le _, [0], Cut.A, allA⟩ ?_
  intro i hi
  have hb := payTo_b h g i hi
  by_cases hlt : i < p.folk.length
  · have hf := (h.folk i hlt).2.2
    have hst : payTo p g (i + 1) = payTo p g i + if g.testBit i then (p.folk.getD i fo0).pay else 0 := rfl
    (repeat' ((try (conv => whnf)); first | (with_reducible first | refine FCond.tA ?_ | refine FCond.fA ?_) | ((with_reducible refine FCond.i (fun hq => ?_) (fun hq => ?_)) <;> (try simp only [zA, zE, zD, zJ, zB, zI, Int.not_le, Int.not_lt] at hq)) | (with_reducible first | refine Fits.in64 (by omega) ?_ | refine FIdx.nat (by omega) ?_ | refine FIdx.int (by omega) ?_ | refine FTo.nat (by omega) ?_ | refine FTo.int (by omega) ?_) | ((with_reducible refine Need.mk ?_ ?_); focus exact needA) | (with_reducible refine FApp.grow ?_) | (refine FCall.pure ((has_ok g i (by omega))) ⟨Ln.sameB _ rfl, Ln.sameB _ rfl, True.intro⟩ rfl ?_)))
    all_goals (try (conv => whnf))
    · rw [hq, if_pos rfl] at hst
      (exact ⟨⟨(i + 1), hlt, by show _ < _; omega, [0], Cut.A, allA⟩⟩)
    · rw [hq, if_neg (by decide), Int.add_zero] at hst
      (exact ⟨⟨(i + 1), hlt, by show _ < _; omega, [0], Cut.A, allA⟩⟩)
  · obtain rfl : i = p.folk.length := by omega
    (repeat' ((try (conv => whnf)); first | (with_reducible first | refine FCond.tA ?_ | refine FCond.fA ?_) | ((with_reducible refine FCond.i (fun hq => ?_) (fun hq => ?_)) <;> (try simp only [zA, zE, zD, zJ, zB, zI, Int.not_le, Int.not_lt] at hq)) | (with_reducible first | refine Fits.in64 (by omega) ?_ | refine FIdx.nat (by omega) ?_ | refine FIdx.int (by omega) ?_ | refine FTo.nat (by omega) ?_ | refine FTo.int (by omega) ?_) | ((with_reducible refine Need.mk ?_ ?_); focus exact needA) | (with_reducible refine FApp.grow ?_)))
    all_goals (try (conv => whnf))
    (refine ⟨⟨_, [], [], Cut.nil _, Ln.sameB _ rfl, ?_, rfl⟩⟩)
    rfl
theorem refCost_ok (f : PoF) (p : Pool) (z e : Bool) (w : List Int) (h : PoolOk p) (hw : ∀ k, k < w.length → 0 ≤ w.getD k 0) (hl : w.length ≤ 1000) : ACall Try.prog 39 [aPool f p, aInts z e w] [] (fun r h => r = AI (costT p w) ∧ h = []) := by
  (refine fcall_of mixed Try.func39 rfl (by decide) (hs := {}) ?k (ac := ?ac) ?c (rs := ?rs) ?r ?l ?H; (case k => kernel_rfl); (case c => (conv => (lhs; cbv))); (case r => (conv => (lhs; cbv))); (case l => exact Nat.le_of_ble_eq_true rfl))
  (repeat' ((try (conv => whnf)); first | (with_reducible first | refine FCond.tA ?_ | refine FCond.fA ?_) | ((with_reducible refine FCond.i (fun hq => ?_) (fun hq => ?_)) <;> (try simp only [zA, zE, zD, zJ, zB, zI, Int.not_le, Int.not_lt] at hq)) | (with_reducible first | refine Fits.in64 (by omega) ?_ | refine FIdx.nat (by omega) ?_ | refine FIdx.int (by omega) ?_ | refine FTo.nat (by omega) ?_ | refine FTo.int (by omega) ?_) | ((with_reducible refine Need.mk ?_ ?_); focus exact needA) | (with_reducible refine FApp.grow ?_)))
  all_goals (try (conv => whnf))
  refine FLoop.of (ACalls.mono _) (X := Nat) (fun i => [(1, aInts z e w), (2, .ptr 0 0), (5, AI (costTo p w i)), (6, AI i)]) (fun _ => [.box 4 (cPool f p)]) (fun i => i ≤ w.length) (fun i => w.length - i) 0 ⟨Nat.zero_le _, [0], Cut.A, allA⟩ ?_
  intro i hi
  have hb := costTo_b h w i
  by_cases hlt : i < w.length
  · have c1 := refPay_ok f p (w.getD i 0).toNat h
    rw [Int.toNat_of_nonneg (hw i hlt)] at c1
    have hpb := pay_b h (w.getD i 0).toNat
    have hst : costTo p w (i + 1) = costTo p w i + payT p (w.getD i 0).toNat := rfl
    (repeat' ((try (conv => whnf)); first | (with_reducible first | refine FCond.tA ?_ | refine FCond.fA ?_) | ((with_reducible refine FCond.i (fun hq => ?_) (fun hq => ?_)) <;> (try simp only [zA, zE, zD, zJ, zB, zI, Int.not_le, Int.not_lt] at hq)) | (with_reducible first | refine Fits.in64 (by omega) ?_ | refine FIdx.nat (by omega) ?_ | refine FIdx.int (by omega) ?_ | refine FTo.nat (by omega) ?_ | refine FTo.int (by omega) ?_) | ((with_reducible refine Need.mk ?_ ?_); focus exact needA) | (with_reducible refine FApp.grow ?_) | (refine FCall.pure (c1) ⟨Ln.sameB _ rfl, Ln.sameB _ rfl, True.intro⟩ rfl ?_)))
    all_goals (try (conv => whnf))
    (exact ⟨⟨(i + 1), hlt, by show _ < _; omega, [0], Cut.A, allA⟩⟩)
  · obtain rfl : i = w.length := by omega
    (repeat' ((try (conv => whnf)); first | (with_reducible first | refine FCond.tA ?_ | refine FCond.fA ?_) | ((with_reducible refine FCond.i (fun hq => ?_) (fun hq => ?_)) <;> (try simp only [zA, zE, zD, zJ, zB, zI, Int.not_le, Int.not_lt] at hq)) | (with_reducible first | refine Fits.in64 (by omega) ?_ | refine FIdx.nat (by omega) ?_ | refine FIdx.int (by omega) ?_ | refine FTo.nat (by omega) ?_ | refine FTo.int (by omega) ?_) | ((with_reducible refine Need.mk ?_ ?_); focus exact needA) | (with_reducible refine FApp.grow ?_)))
    all_goals (try (conv => whnf))
    (refine ⟨⟨_, [], [], Cut.nil _, Ln.sameB _ rfl, ?_, rfl⟩⟩)
    rfl
theorem covers_ok (f : PoF) (p : Pool) (s : Nat) (hs : s < p.needs.length) (h : PoolOk p) : ACall Try.prog 70 [aPool f p, AI s] [] (fun r h => r = outI (covL p s) ∧ h = []) := by
  have n8 := h.n8
  have s6 := h.s6
  have hp8 := pow8 n8
  (refine fcall_of mixed Try.func70 rfl (by decide) (hs := {}) ?k (ac := ?ac) ?c (rs := ?rs) ?r ?l ?H; (case k => kernel_rfl); (case c => (conv => (lhs; cbv))); (case r => (conv => (lhs; cbv))); (case l => exact Nat.le_of_ble_eq_true rfl))
  (repeat' ((try (conv => whnf)); first | (with_reducible first | refine FCond.tA ?_ | refine FCond.fA ?_) | ((with_reducible refine FCond.i (fun hq => ?_) (fun hq => ?_)) <;> (try simp only [zA, zE, zD, zJ, zB, zI, Int.not_le, Int.not_lt] at hq)) | (with_reducible first | refine Fits.in64 (by omega) ?_ | refine FIdx.nat (by omega) ?_ | refine FIdx.int (by omega) ?_ | refine FTo.nat (by omega) ?_ | refine FTo.int (by omega) ?_) | ((with_reducible refine Need.mk ?_ ?_); focus exact needA) | (with_reducible first | refine FBit.hasT rfl (by assumption) ?_ | refine FBit.hasF rfl (by assumption) ?_ | refine FBit.shrN rfl (by omega) ?_ | refine FBit.half rfl ?_ | refine FBit.shl1 rfl (by omega) ?_ | refine Fits.inU (by omega) ?_ | refine FBit.shrNI rfl (by omega) ?_ | refine FBit.shrIN rfl (by omega) (by omega) ?_ | refine FBit.shrI rfl (by omega) (by omega) ?_ | refine FBit.shl1I rfl (by omega) ?_) | (with_reducible refine FBit.has rfl (fun hq => ?_) (fun hq => ?_)) | (with_reducible first | refine FBit.and1 rfl ?_ | refine FBit.andN rfl (by omega) (by omega) ?_ | refine FBit.orN rfl (by omega) (by omega) ?_ | refine FBit.andNotN rfl (by omega) (by omega) ?_) | (with_reducible refine FApp.grow ?_)))
  all_goals (try (conv => whnf))
  refine FLoop.of (ACalls.mono _) (X := Nat × Nat × List Int) (fun x => [(1, AI s), (2, .ptr 0 0), (5, match x.2.1 with | 0 => nilS | m + 1 => .own 1 (m + 1)), (6, AI x.1)]) (fun x => match x.2.1 with
    | 0 => [.box 4 (cPool f p)]
    | m + 1 => [.box 4 (cPool f p), rowI (m + 1) x.2.2]) (fun x => x.1 ≤ 2 ^ p.folk.length ∧ x.2.1 = x.2.2.length ∧ x.2.2 ++ covI p s x.1 = covL p s ∧ x.2.1 ≤ x.1) (fun x => 2 ^ p.folk.length - x.1) (0, 0, []) ⟨⟨Nat.zero_le _, rfl, rfl, Nat.le_refl _⟩, [0], Cut.A, allA⟩ ?_
  rintro ⟨i, m, l⟩ ⟨hi, hm, hl, hmi⟩
  change i ≤ 2 ^ p.folk.length at hi
  change m = l.length at hm
  change l ++ covI p s i = covL p s at hl
  change m ≤ i at hmi
  dsimp only
  have hml : m + 1 = (l ++ [(i : Int)]).length := by rw [List.length_append, hm]; rfl
  by_cases hlt : i < 2 ^ p.folk.length
  · by_cases hk : covQ p s i = true
    · have hs2 : (l ++ [(i : Int)]) ++ covI p s (i + 1) = covL p s := by rw [List.append_assoc, List.singleton_append, ← covI_yes hlt hk]; exact hl
      obtain ⟨k1, k2⟩ := covQ_d hk
      have c1 := canBe_ok f p s i (by omega) (by omega) h
      have c2 := covered_ok f p s i hs (by omega) h
      rw [canBe_nat hlt, k1] at c1
      rw [k2] at c2
      rcases m with _ | m
      · obtain rfl : l = [] := List.length_eq_zero_iff.1 hm.symm
        (repeat' ((try (conv => whnf)); first | (with_reducible first | refine FCond.tA ?_ | refine FCond.fA ?_) | ((with_reducible refine FCond.i (fun hq => ?_) (fun hq => ?_)) <;> (try simp only [zA, zE, zD, zJ, zB, zI, Int.not_le, Int.not_lt] at hq)) | (with_reducible first | refine Fits.in64 (by omega) ?_ | refine FIdx.nat (by omega) ?_ | refine FIdx.int (by omega) ?_ | refine FTo.nat (by omega) ?_ | refine FTo.int (by omega) ?_) | ((with_reducible refine Need.mk ?_ ?_); focus exact needA) | (with_reducible first | refine FBit.hasT rfl (by assumption) ?_ | refine FBit.hasF rfl (by assumption) ?_ | refine FBit.shrN rfl (by omega) ?_ | refine FBit.half rfl ?_ | refine FBit.shl1 rfl (by omega) ?_ | refine Fits.inU (by omega) ?_ | refine FBit.shrNI rfl (by omega) ?_ | refine FBit.shrIN rfl (by omega) (by omega) ?_ | refine FBit.shrI rfl (by omega) (by omega) ?_ | refine FBit.shl1I rfl (by omega) ?_) | (with_reducible refine FBit.has rfl (fun hq => ?_) (fun hq => ?_)) | (with_reducible first | refine FBit.and1 rfl ?_ | refine FBit.andN rfl (by omega) (by omega) ?_ | refine FBit.orN rfl (by omega) (by omega) ?_ | refine FBit.andNotN rfl (by omega) (by omega) ?_) | (with_reducible refine FApp.grow ?_) | (refine FCall.pure (c1) ⟨Ln.sameB _ rfl, Ln.sameB _ rfl, Ln.sameB _ rfl, True.intro⟩ rfl ?_) | (refine FCall.pure (c2) ⟨Ln.sameB _ rfl, Ln.sameB _ rfl, Ln.sameB _ rfl, True.intro⟩ rfl ?_)))
        all_goals (try (conv => whnf))
        (exact ⟨⟨(i + 1, 1, [] ++ [(i : Int)]), ⟨hlt, hml, hs2, Nat.succ_le_succ hmi⟩, by show _ - (i + 1) < _ - i; omega, [0, 1], (by (refine Cut.of (Nat.le_of_ble_eq_true rfl) rfl rfl ?_; repeat (first | exact CutL.done | (refine CutL.turned rfl (by first | exact LnB.rowS | exact LnB.app (fun k hk => absurd hk (Nat.not_lt_zero k)) (fun _ _ => rfl) | exact LnB.A) ?_) | (refine CutL.gone (Nat.lt_of_lt_of_le (Nat.lt_succ_self _) (Nat.le_of_ble_eq_true rfl)) ?_)))), allA⟩⟩)
      · (repeat' ((try (conv => whnf)); first | (with_reducible first | refine FCond.tA ?_ | refine FCond.fA ?_) | ((with_reducible refine FCond.i (fun hq => ?_) (fun hq => ?_)) <;> (try simp only [zA, zE, zD, zJ, zB, zI, Int.not_le, Int.not_lt] at hq)) | (with_reducible first | refine Fits.in64 (by omega) ?_ | refine FIdx.nat (by omega) ?_ | refine FIdx.int (by omega) ?_ | refine FTo.nat (by omega) ?_ | refine FTo.int (by omega) ?_) | ((with_reducible refine Need.mk ?_ ?_); focus exact needA) | (with_reducible first | refine FBit.hasT rfl (by assumption) ?_ | refine FBit.hasF rfl (by assumption) ?_ | refine FBit.shrN rfl (by omega) ?_ | refine FBit.half rfl ?_ | refine FBit.shl1 rfl (by omega) ?_ | refine Fits.inU (by omega) ?_ | refine FBit.shrNI rfl (by omega) ?_ | refine FBit.shrIN rfl (by omega) (by omega) ?_ | refine FBit.shrI rfl (by omega) (by omega) ?_ | refine FBit.shl1I rfl (by omega) ?_) | (with_reducible refine FBit.has rfl (fun hq => ?_) (fun hq => ?_)) | (with_reducible first | refine FBit.and1 rfl ?_ | refine FBit.andN rfl (by omega) (by omega) ?_ | refine FBit.orN rfl (by omega) (by omega) ?_ | refine FBit.andNotN rfl (by omega) (by omega) ?_) | (with_reducible refine FApp.grow ?_) | (refine FCall.pure (c1) ⟨Ln.sameB _ rfl, Ln.sameB _ rfl, Ln.sameB _ rfl, True.intro⟩ rfl ?_) | (refine FCall.pure (c2) ⟨Ln.sameB _ rfl, Ln.sameB _ rfl, Ln.sameB _ rfl, True.intro⟩ rfl ?_)))
        all_goals (try (conv => whnf))
        (exact ⟨⟨(i + 1, m + 1 + 1, l ++ [(i : Int)]), ⟨hlt, hml, hs2, Nat.succ_le_succ hmi⟩, by show _ - (i + 1) < _ - i; omega, [0, 2], (by (refine Cut.of (Nat.le_of_ble_eq_true rfl) rfl rfl ?_; repeat (first | exact CutL.done | (refine CutL.turned rfl (by first | exact LnB.rowS | exact LnB.app (fun k hk o ho => int_eq (by rw [getD_snoc, if_pos (by omega)])) (fun o ho => by show AI _ = AI _; exact int_eq (by rw [getD_snoc, if_neg (by omega), if_pos (by omega)])) | exact LnB.A) ?_) | (refine CutL.gone (Nat.lt_of_lt_of_le (Nat.lt_succ_self _) (Nat.le_of_ble_eq_true rfl)) ?_)))), allA⟩⟩)
    · have hk := Bool.eq_false_iff.2 hk
      have hs2 : l ++ covI p s (i + 1) = covL p s := by rw [← covI_no hlt hk]; exact hl
      have c1 := canBe_ok f p s i (by omega) (by omega) h
      have c2 := covered_ok f p s i hs (by omega) h
      rw [canBe_nat hlt] at c1
      rcases m with _ | m
      · (repeat' ((try (conv => whnf)); first | (with_reducible first | refine FCond.tA ?_ | refine FCond.fA ?_) | ((with_reducible refine FCond.i (fun hq => ?_) (fun hq => ?_)) <;> (try simp only [zA, zE, zD, zJ, zB, zI, Int.not_le, Int.not_lt] at hq)) | (with_reducible first | refine Fits.in64 (by omega) ?_ | refine FIdx.nat (by omega) ?_ | refine FIdx.int (by omega) ?_ | refine FTo.nat (by omega) ?_ | refine FTo.int (by omega) ?_) | ((with_reducible refine Need.mk ?_ ?_); focus exact needA) | (with_reducible first | refine FBit.hasT rfl (by assumption) ?_ | refine FBit.hasF rfl (by assumption) ?_ | refine FBit.shrN rfl (by omega) ?_ | refine FBit.half rfl ?_ | refine FBit.shl1 rfl (by omega) ?_ | refine Fits.inU (by omega) ?_ | refine FBit.shrNI rfl (by omega) ?_ | refine FBit.shrIN rfl (by omega) (by omega) ?_ | refine FBit.shrI rfl (by omega) (by omega) ?_ | refine FBit.shl1I rfl (by omega) ?_) | (with_reducible refine FBit.has rfl (fun hq => ?_) (fun hq => ?_)) | (with_reducible first | refine FBit.and1 rfl ?_ | refine FBit.andN rfl (by omega) (by omega) ?_ | refine FBit.orN rfl (by omega) (by omega) ?_ | refine FBit.andNotN rfl (by omega) (by omega) ?_) | (with_reducible refine FApp.grow ?_) | (refine FCall.pure (c1) ⟨Ln.sameB _ rfl, Ln.sameB _ rfl, Ln.sameB _ rfl, True.intro⟩ rfl ?_) | (refine FCall.pure (c2) ⟨Ln.sameB _ rfl, Ln.sameB _ rfl, Ln.sameB _ rfl, True.intro⟩ rfl ?_)))
        all_goals (try (conv => whnf))
        all_goals first | exact absurd (show covQ p s i = true by unfold covQ; rw [Bool.and_eq_true]; exact ⟨by assumption, by assumption⟩) (by rw [hk]; decide) | (exact ⟨⟨(i + 1, 0, l), ⟨hlt, hm, hs2, Nat.le_succ_of_le hmi⟩, by show _ - (i + 1) < _ - i; omega, [0], Cut.A, allA⟩⟩)
      · (repeat' ((try (conv => whnf)); first | (with_reducible first | refine FCond.tA ?_ | refine FCond.fA ?_) | ((with_reducible refine FCond.i (fun hq => ?_) (fun hq => ?_)) <;> (try simp only [zA, zE, zD, zJ, zB, zI, Int.not_le, Int.not_lt] at hq)) | (with_reducible first | refine Fits.in64 (by omega) ?_ | refine FIdx.nat (by omega) ?_ | refine FIdx.int (by omega) ?_ | refine FTo.nat (by omega) ?_ | refine FTo.int (by omega) ?_) | ((with_reducible refine Need.mk ?_ ?_); focus exact needA) | (with_reducible first | refine FBit.hasT rfl (by assumption) ?_ | refine FBit.hasF rfl (by assumption) ?_ | refine FBit.shrN rfl (by omega) ?_ | refine FBit.half rfl ?_ | refine FBit.shl1 rfl (by omega) ?_ | refine Fits.inU (by omega) ?_ | refine FBit.shrNI rfl (by omega) ?_ | refine FBit.shrIN rfl (by omega) (by omega) ?_ | refine FBit.shrI rfl (by omega) (by omega) ?_ | refine FBit.shl1I rfl (by omega) ?_) | (with_reducible refine FBit.has rfl (fun hq => ?_) (fun hq => ?_)) | (with_reducible first | refine FBit.and1 rfl ?_ | refine FBit.andN rfl (by omega) (by omega) ?_ | refine FBit.orN rfl (by omega) (by omega) ?_ | refine FBit.andNotN rfl (by omega) (by omega) ?_) | (with_reducible refine FApp.grow ?_) | (refine FCall.pure (c1) ⟨Ln.sameB _ rfl, Ln.sameB _ rfl, Ln.sameB _ rfl, True.intro⟩ rfl ?_) | (refine FCall.pure (c2) ⟨Ln.sameB _ rfl, Ln.sameB _ rfl, Ln.sameB _ rfl, True.intro⟩ rfl ?_)))
        all_goals (try (conv => whnf))
        all_goals first | exact absurd (show covQ p s i = true by unfold covQ; rw [Bool.and_eq_true]; exact ⟨by assumption, by assumption⟩) (by rw [hk]; decide) | (exact ⟨⟨(i + 1, m + 1, l), ⟨hlt, hm, hs2, Nat.le_succ_of_le hmi⟩, by show _ - (i + 1) < _ - i; omega, [0, 1], Cut.A, allA⟩⟩)
  · have hE : covL p s = l := by rw [← hl, covI_end (by omega), List.append_nil]
    rcases m with _ | m
    · obtain rfl : l = [] := List.length_eq_zero_iff.1 hm.symm
      (repeat' ((try (conv => whnf)); first | (with_reducible first | refine FCond.tA ?_ | refine FCond.fA ?_) | ((with_reducible refine FCond.i (fun hq => ?_) (fun hq => ?_)) <;> (try simp only [zA, zE, zD, zJ, zB, zI, Int.not_le, Int.not_lt] at hq)) | (with_reducible first | refine Fits.in64 (by omega) ?_ | refine FIdx.nat (by omega) ?_ | refine FIdx.int (by omega) ?_ | refine FTo.nat (by omega) ?_ | refine FTo.int (by omega) ?_) | ((with_reducible refine Need.mk ?_ ?_); focus exact needA) | (with_reducible first | refine FBit.hasT rfl (by assumption) ?_ | refine FBit.hasF rfl (by assumption) ?_ | refine FBit.shrN rfl (by omega) ?_ | refine FBit.half rfl ?_ | refine FBit.shl1 rfl (by omega) ?_ | refine Fits.inU (by omega) ?_ | refine FBit.shrNI rfl (by omega) ?_ | refine FBit.shrIN rfl (by omega) (by omega) ?_ | refine FBit.shrI rfl (by omega) (by omega) ?_ | refine FBit.shl1I rfl (by omega) ?_) | (with_reducible refine FBit.has rfl (fun hq => ?_) (fun hq => ?_)) | (with_reducible first | refine FBit.and1 rfl ?_ | refine FBit.andN rfl (by omega) (by omega) ?_ | refine FBit.orN rfl (by omega) (by omega) ?_ | refine FBit.andNotN rfl (by omega) (by omega) ?_) | (with_reducible refine FApp.grow ?_) | (refine FCall.pure (c1) ⟨Ln.sameB _ rfl, Ln.sameB _ rfl, Ln.sameB _ rfl, True.intro⟩ rfl ?_) | (refine FCall.pure (c2) ⟨Ln.sameB _ rfl, Ln.sameB _ rfl, Ln.sameB _ rfl, True.intro⟩ rfl ?_)))
      all_goals (try (conv => whnf))
      rw [hE]
      exact ⟨⟨outI [], [], [], Cut.nil _, Ln.slz _ _ _ _ _ _ _ (by decide), rfl, rfl⟩⟩
    · (repeat' ((try (conv => whnf)); first | (with_reducible first | refine FCond.tA ?_ | refine FCond.fA ?_) | ((with_reducible refine FCond.i (fun hq => ?_) (fun hq => ?_)) <;> (try simp only [zA, zE, zD, zJ, zB, zI, Int.not_le, Int.not_lt] at hq)) | (with_reducible first | refine Fits.in64 (by omega) ?_ | refine FIdx.nat (by omega) ?_ | refine FIdx.int (by omega) ?_ | refine FTo.nat (by omega) ?_ | refine FTo.int (by omega) ?_) | ((with_reducible refine Need.mk ?_ ?_); focus exact needA) | (with_reducible first | refine FBit.hasT rfl (by assumption) ?_ | refine FBit.hasF rfl (by assumption) ?_ | refine FBit.shrN rfl (by omega) ?_ | refine FBit.half rfl ?_ | refine FBit.shl1 rfl (by omega) ?_ | refine Fits.inU (by omega) ?_ | refine FBit.shrNI rfl (by omega) ?_ | refine FBit.shrIN rfl (by omega) (by omega) ?_ | refine FBit.shrI rfl (by omega) (by omega) ?_ | refine FBit.shl1I rfl (by omega) ?_) | (with_reducible refine FBit.has rfl (fun hq => ?_) (fun hq => ?_)) | (with_reducible first | refine FBit.and1 rfl ?_ | refine FBit.andN rfl (by omega) (by omega) ?_ | refine FBit.orN rfl (by omega) (by omega) ?_ | refine FBit.andNotN rfl (by omega) (by omega) ?_) | (with_reducible refine FApp.grow ?_) | (refine FCall.pure (c1) ⟨Ln.sameB _ rfl, Ln.sameB _ rfl, Ln.sameB _ rfl, True.intro⟩ rfl ?_) | (refine FCall.pure (c2) ⟨Ln.sameB _ rfl, Ln.sameB _ rfl, Ln.sameB _ rfl, True.intro⟩ rfl ?_)))
      all_goals (try (conv => whnf))
      rw [hE, outI_of hm]
      exact ⟨⟨aInts false false l, [], [], Cut.nil _, Ln.pubE (goneB rfl) rfl (Nat.le_refl _) hm (fun _ _ _ _ => rfl), rfl, rfl⟩⟩
end Go.Proofs.Ytbhjehpjjbbhbaa

namespace Go.Proofs.Ytbhjehpjjbbhbaa
open Go.RowKit

/-- Of two lists of one length: the first one is lower at the first place at which they differ. -/
def ltL : List Int → List Int → Bool
  | x :: xs, y :: ys => if x = y then ltL xs ys else decide (x < y)
  | _, _ => false
def toI (v : List Nat) : List Int := v.map fun (g : Nat) => (g : Int)
def costL (p : Pool) : List Nat → Int
  | [] => 0
  | g :: v => payT p g + costL p v
/-- Sets that cover the last r slots, and leave nobody on call too often. -/
def FitW (p : Pool) : Nat → List Int → List Nat → Prop
  | 0, _, v => v = []
  | r + 1, t, v => ∃ g v', v = g :: v' ∧ g ∈ coversT p (p.needs.length - (r + 1)) ∧ fitsU p.folk.length g t = true ∧ FitW p r (useL p.folk.length g t) v'
theorem costL_nn {p : Pool} (h : PoolOk p) : ∀ v, 0 ≤ costL p v
  | [] => Int.le_refl _
  | g :: v => by have := costL_nn h v; have := (pay_b h g).1; show 0 ≤ payT p g + costL p v; omega
/-- An answer is a best one of some watches. -/
structure Best (p : Pool) (S : List Nat → Prop) (b : List Int × Int) : Prop where
  is : 0 ≤ b.2 → ∃ v, S v ∧ b = (toI v, costL p v)
  le : ∀ v, S v → 0 ≤ b.2 ∧ (b.2 < costL p v ∨ b.2 = costL p v ∧ ltL (toI v) b.1 = false)
def Heads (p : Pool) (r : Nat) (t : List Int) (l : List Nat) (k : Nat) (v : List Nat) : Prop := ∃ j v', j < k ∧ v = l.getD j 0 :: v' ∧ fitsU p.folk.length (l.getD j 0) t = true ∧ FitW p r (useL p.folk.length (l.getD j 0) t) v'
theorem sorted_lt {l : List Nat} (h : l.Pairwise (· < ·)) {i j : Nat} (hij : i < j) (hj : j < l.length) : l.getD i 0 < l.getD j 0 := by
  have := List.pairwise_iff_getElem.1 h i j (by omega) hj hij
  simpa [List.getD, List.getElem?_eq_getElem hj, List.getElem?_eq_getElem (show i < l.length by omega)] using this
theorem fold_best {p : Pool} (h : PoolOk p) {r : Nat} {F : List Int → List Int × Int} (hF : ∀ t, Best p (FitW p r t) (F t)) (t : List Int) {l : List Nat} (hl : l.Pairwise (· < ·)) : ∀ k, k ≤ l.length → Best p (Heads p r t l k) (foldF p F t l k)
  | 0, _ => ⟨fun h0 => absurd h0 (by show ¬ (0 : Int) ≤ -1; decide), fun v ⟨j, _, hj, _⟩ => absurd hj (Nat.not_lt_zero j)⟩
  | k + 1, hk => by
    have ih := fold_best h hF t hl k (by omega)
    have up : ∀ v, Heads p r t l k v → Heads p r t l (k + 1) v := fun v ⟨j, v', h1, h2⟩ => ⟨j, v', by omega, h2⟩
    have hpay := (pay_b h (l.getD k 0)).1
    rw [foldF]
    generalize hb : foldF p F t l k = b at ih ⊢
    have hf := hF (useL p.folk.length (l.getD k 0) t)
    generalize hc : F (useL p.folk.length (l.getD k 0) t) = c at hf
    -- a watch that begins with this set
    have hnew : ∀ v, Heads p r t l (k + 1) v → ¬ Heads p r t l k v → fitsU p.folk.length (l.getD k 0) t = true ∧ ∃ v', v = l.getD k 0 :: v' ∧ 0 ≤ c.2 ∧ (c.2 < costL p v' ∨ c.2 = costL p v' ∧ ltL (toI v') c.1 = false) := by
      rintro v ⟨j, v', h1, rfl, h3, h4⟩ hno
      have e : j = k := by
        by_cases e : j = k
        · exact e
        · exact absurd ⟨j, v', by omega, rfl, h3, h4⟩ hno
      subst e
      exact ⟨h3, v', rfl, hf.le v' h4⟩
    -- what is kept stands
    have keep : 0 ≤ b.2 → b.2 ≤ payT p (l.getD k 0) + max c.2 0 → Best p (Heads p r t l (k + 1)) b := by
      intro h0 hle
      refine ⟨fun h1 => by obtain ⟨v, h2, h3⟩ := ih.is h1; exact ⟨v, up v h2, h3⟩, fun v hv => ?_⟩
      by_cases ho : Heads p r t l k v
      · exact ih.le v ho
      · obtain ⟨_, v', rfl, h1, h2⟩ := hnew v hv ho
        refine ⟨h0, ?_⟩
        have hcl : costL p (l.getD k 0 :: v') = payT p (l.getD k 0) + costL p v' := rfl
        have hle2 : b.2 ≤ costL p (l.getD k 0 :: v') := by rcases h2 with h2 | h2 <;> omega
        by_cases e : b.2 = costL p (l.getD k 0 :: v')
        · refine .inr ⟨e, ?_⟩
          obtain ⟨u, ⟨j, u', j1, rfl, _⟩, j3⟩ := ih.is h0
          rw [j3]
          have hlt := sorted_lt hl j1 (by omega)
          show (if ((l.getD k 0 : Nat) : Int) = ((l.getD j 0 : Nat) : Int) then _ else decide (((l.getD k 0 : Nat) : Int) < ((l.getD j 0 : Nat) : Int))) = false
          rw [if_neg (by omega)]
          exact decide_eq_false (by omega)
        · exact .inl (by omega)
    have keepN : (∀ v, Heads p r t l (k + 1) v → Heads p r t l k v) → Best p (Heads p r t l (k + 1)) b := fun hs => ⟨fun h1 => by obtain ⟨v, h2, h3⟩ := ih.is h1; exact ⟨v, up v h2, h3⟩, fun v hv => ih.le v (hs v hv)⟩
    unfold stepF
    rw [hc]
    by_cases hfit : fitsU p.folk.length (l.getD k 0) t = true
    · rw [if_pos hfit]
      by_cases h1 : 0 ≤ b.2 ∧ b.2 ≤ payT p (l.getD k 0)
      · rw [if_pos h1]
        exact keep h1.1 (by omega)
      · rw [if_neg h1]
        by_cases h2 : 0 ≤ c.2 ∧ (b.2 < 0 ∨ payT p (l.getD k 0) + c.2 < b.2)
        · rw [if_pos h2]
          obtain ⟨u, hu, hcu⟩ := hf.is h2.1
          refine ⟨fun _ => ⟨l.getD k 0 :: u, ⟨k, u, Nat.lt_succ_self k, rfl, hfit, hu⟩, by rw [hcu]; rfl⟩, fun v hv => ⟨by show 0 ≤ payT p (l.getD k 0) + c.2; omega, ?_⟩⟩
          show payT p (l.getD k 0) + c.2 < costL p v ∨ payT p (l.getD k 0) + c.2 = costL p v ∧ ltL (toI v) (((l.getD k 0 : Nat) : Int) :: c.1) = false
          by_cases ho : Heads p r t l k v
          · obtain ⟨i1, i2⟩ := ih.le v ho
            exact .inl (by rcases i2 with i2 | i2 <;> omega)
          · obtain ⟨_, v', rfl, i1, i2⟩ := hnew v hv ho
            have hcl : costL p (l.getD k 0 :: v') = payT p (l.getD k 0) + costL p v' := rfl
            rcases i2 with i2 | ⟨i2, i3⟩
            · exact .inl (by omega)
            · refine .inr ⟨by omega, ?_⟩
              show (if ((l.getD k 0 : Nat) : Int) = ((l.getD k 0 : Nat) : Int) then ltL (toI v') c.1 else _) = false
              rw [if_pos rfl]; exact i3
        · rw [if_neg h2]
          by_cases hb0 : 0 ≤ b.2
          · by_cases hc0 : 0 ≤ c.2
            · exact keep hb0 (by omega)
            · exact keepN fun v hv => by
                by_cases ho : Heads p r t l k v
                · exact ho
                · obtain ⟨_, v', _, i1, _⟩ := hnew v hv ho
                  exact absurd i1 hc0
          · exact keepN fun v hv => by
              by_cases ho : Heads p r t l k v
              · exact ho
              · obtain ⟨_, v', _, i1, _⟩ := hnew v hv ho
                exact absurd ⟨i1, .inl (by omega)⟩ h2
    · rw [if_neg hfit]
      exact keepN fun v hv => by
        by_cases ho : Heads p r t l k v
        · exact ho
        · exact absurd (hnew v hv ho).1 hfit
theorem mem_getD {l : List Nat} {x : Nat} (h : x ∈ l) : ∃ j, j < l.length ∧ l.getD j 0 = x := by
  obtain ⟨j, hj, e⟩ := List.mem_iff_getElem.1 h
  exact ⟨j, hj, by simp [List.getD, List.getElem?_eq_getElem hj, e]⟩
theorem from_best {p : Pool} (h : PoolOk p) : ∀ r t, Best p (FitW p r t) (fromT p r t)
  | 0, t => ⟨fun _ => ⟨[], rfl, rfl⟩, fun v hv => by
      have hv : v = [] := hv
      subst hv
      exact ⟨Int.le_refl 0, .inr ⟨rfl, rfl⟩⟩⟩
  | r + 1, t => by
    have hb := fold_best h (from_best h r) t (covers_sorted p (p.needs.length - (r + 1))) _ (Nat.le_refl _)
    have e : ∀ v, Heads p r t (coversT p (p.needs.length - (r + 1))) (coversT p (p.needs.length - (r + 1))).length v ↔ FitW p (r + 1) t v := by
      intro v
      constructor
      · rintro ⟨j, v', h1, h2, h3⟩
        exact ⟨_, v', h2, getD_memN h1, h3⟩
      · rintro ⟨g, v', h1, h2, h3⟩
        obtain ⟨j, j1, rfl⟩ := mem_getD h2
        exact ⟨j, v', j1, h1, h3⟩
    rw [fromT]
    exact ⟨fun h0 => by obtain ⟨v, h1, h2⟩ := hb.is h0; exact ⟨v, (e v).1 h1, h2⟩, fun v hv => hb.le v ((e v).2 hv)⟩
end Go.Proofs.Ytbhjehpjjbbhbaa

namespace Go.Proofs.Ytbhjehpjjbbhbaa
open Go.RowKit

def onV (i : Nat) : List Nat → Nat
  | [] => 0
  | g :: v => (if g.testBit i then 1 else 0) + onV i v
theorem covers_iff {p : Pool} {s g : Nat} : g ∈ coversT p s ↔ g < 2 ^ p.folk.length ∧ canT p s g = true ∧ coveredT p s g = true := by
  unfold coversT
  rw [List.mem_filter, List.mem_range, Bool.and_eq_true]
theorem fit_iff {p : Pool} (h : PoolOk p) : ∀ r t v, r ≤ p.needs.length → T8 t → (FitW p r t v ↔ v.length = r ∧ (∀ j, j < r → v.getD j 0 ∈ coversT p (p.needs.length - r + j)) ∧ ∀ i, i < p.folk.length → (onV i v : Int) ≤ t.getD i 0)
  | 0, t, v, _, ht => by
    constructor
    · intro e
      have e : v = [] := e
      subst e
      exact ⟨rfl, fun j hj => absurd hj (Nat.not_lt_zero j), fun i hi => (ht.b i (by have := h.n8; omega)).1⟩
    · rintro ⟨e, _, _⟩
      exact List.length_eq_zero_iff.1 e
  | r + 1, t, v, hr, ht => by
    have n8 := h.n8
    constructor
    · rintro ⟨g, v', rfl, h1, h2, h3⟩
      obtain ⟨k1, k2, k3⟩ := (fit_iff h r (useL p.folk.length g t) v' (by omega) (useL_8 ht h2)).1 h3
      refine ⟨by rw [List.length_cons, k1], fun j hj => ?_, fun i hi => ?_⟩
      · rcases j with _ | j
        · exact h1
        · have := k2 j (by omega)
          rw [show p.needs.length - (r + 1) + (j + 1) = p.needs.length - r + j by omega]
          exact this
      · have := k3 i hi
        rw [useL_get (by omega)] at this
        unfold useTo at this
        show (((if g.testBit i then 1 else 0) + onV i v' : Nat) : Int) ≤ _
        cases hb : g.testBit i with
        | false => rw [hb, if_neg (by rintro ⟨_, h⟩; cases h)] at this; rw [if_neg (by decide)]; omega
        | true => rw [hb, if_pos ⟨hi, rfl⟩] at this; rw [if_pos rfl]; omega
    · rintro ⟨h1, h2, h3⟩
      rcases v with _ | ⟨g, v'⟩
      · cases h1
      · have hfit : fitsU p.folk.length g t = true := by
          unfold fitsU
          rw [List.all_eq_true]
          intro i hi
          have hi := List.mem_range.1 hi
          have := h3 i hi
          have this : (((if g.testBit i then 1 else 0) + onV i v' : Nat) : Int) ≤ _ := this
          cases hb : g.testBit i with
          | false => rfl
          | true => rw [hb, if_pos rfl] at this; exact decide_eq_true (show 1 ≤ t.getD i 0 by omega)
        refine ⟨g, v', rfl, h2 0 (by omega), hfit, (fit_iff h r (useL p.folk.length g t) v' (by omega) (useL_8 ht hfit)).2 ⟨by simpa using h1, fun j hj => ?_, fun i hi => ?_⟩⟩
        · have := h2 (j + 1) (by omega)
          rw [show p.needs.length - (r + 1) + (j + 1) = p.needs.length - r + j by omega] at this
          exact this
        · have := h3 i hi
          have this : (((if g.testBit i then 1 else 0) + onV i v' : Nat) : Int) ≤ _ := this
          rw [useL_get (by omega)]
          unfold useTo
          cases hb : g.testBit i with
          | false => rw [hb, if_neg (by decide)] at this; rw [if_neg (by rintro ⟨_, h⟩; cases h)]; omega
          | true => rw [hb, if_pos rfl] at this; rw [if_pos ⟨hi, rfl⟩]; omega
theorem on_cons (x : Int) (w : List Int) (i : Nat) : ∀ k, onTo (x :: w) i (k + 1) = (if x.toNat.testBit i then 1 else 0) + onTo w i k
  | 0 => by show 0 + (if x.toNat.testBit i then 1 else 0) = _; rw [Nat.zero_add]; rfl
  | k + 1 => by
    rw [onTo, on_cons x w i k, onTo, Nat.add_assoc]
    rfl
theorem on_toI (i : Nat) : ∀ v : List Nat, onTo (toI v) i v.length = onV i v
  | [] => rfl
  | g :: v => by
    show onTo ((g : Int) :: toI v) i (v.length + 1) = _
    rw [on_cons, on_toI i v, Int.toNat_natCast]; rfl
theorem cost_cons (p : Pool) (x : Int) (w : List Int) : ∀ k, costTo p (x :: w) (k + 1) = payT p x.toNat + costTo p w k
  | 0 => by show 0 + payT p x.toNat = payT p x.toNat + 0; omega
  | k + 1 => by
    rw [costTo, cost_cons p x w k, costTo, Int.add_assoc]
    rfl
theorem toI_len (v : List Nat) : (toI v).length = v.length := List.length_map _
theorem toI_get (v : List Nat) (k : Nat) : (toI v).getD k 0 = (v.getD k 0 : Nat) := by
  unfold toI
  simp only [List.getD, List.getElem?_map]
  cases v[k]? <;> rfl
theorem cost_toI (p : Pool) : ∀ v : List Nat, costT p (toI v) = costL p v
  | [] => rfl
  | g :: v => by
    have := cost_toI p v
    unfold costT at *
    rw [toI_len] at *
    show costTo p ((g : Int) :: toI v) (v.length + 1) = _
    rw [cost_cons, this, Int.toNat_natCast]; rfl
theorem toI_of {w : List Int} (h : ∀ s, s < w.length → 0 ≤ w.getD s 0) : toI (w.map Int.toNat) = w := by
  unfold toI
  rw [List.map_map]
  conv => rhs; rw [← List.map_id w]
  refine List.map_congr_left fun x hx => ?_
  obtain ⟨j, hj, e⟩ := List.mem_iff_getElem.1 hx
  have := h j hj
  simp [List.getD, List.getElem?_eq_getElem hj, e] at this
  show ((x.toNat : Nat) : Int) = x
  omega
/-- A safe watch is one that Plan looks at. -/
theorem fit_safe {p : Pool} (h : PoolOk p) {v : List Nat} : FitW p p.needs.length (leftL p) v ↔ isWatch p (toI v) = true ∧ safeT p (toI v) = true := by
  rw [fit_iff h _ _ _ (Nat.le_refl _) (leftL_8 h)]
  have n8 := h.n8
  have hgv : ∀ s, ((toI v).getD s 0).toNat = v.getD s 0 := fun s => by rw [toI_get, Int.toNat_natCast]
  constructor
  · rintro ⟨h1, h2, h3⟩
    have hm : ∀ s, s < (toI v).length → v.getD s 0 ∈ coversT p s := fun s hs => by
      have := h2 s (by rw [toI_len] at hs; omega)
      rwa [Nat.sub_self, Nat.zero_add] at this
    refine ⟨?_, rall_yes fun s hs => by rw [hgv]; exact (covers_iff.1 (hm s hs)).2.2⟩
    unfold isWatch
    rw [Bool.and_eq_true, Bool.and_eq_true]
    refine ⟨⟨decide_eq_true (by rw [toI_len, h1]), rall_yes fun s hs => ?_⟩, rall_yes fun i hi => decide_eq_true ?_⟩
    · obtain ⟨c1, c2, _⟩ := covers_iff.1 (hm s hs)
      unfold canBe
      rw [hgv, c2, Bool.and_true, toI_get]
      exact decide_eq_true (by omega)
    · have := h3 i hi
      rw [leftL_get (by omega)] at this
      unfold leftTo at this
      rw [if_pos hi] at this
      rw [toI_len, on_toI]; exact this
  · rintro ⟨h1, h2⟩
    have k := watch_d h1
    have hl := k.len
    rw [toI_len] at hl
    refine ⟨hl, fun s hs => ?_, fun i hi => ?_⟩
    · rw [Nat.sub_self, Nat.zero_add]
      obtain ⟨e1, e2, e3⟩ := k.el s (by rw [toI_len]; omega)
      rw [hgv] at e2 e3
      have := rall_get (p := fun s => coveredT p s ((toI v).getD s 0).toNat) h2 (show s < (toI v).length by rw [toI_len]; omega)
      rw [hgv] at this
      exact covers_iff.2 ⟨e2, e3, this⟩
    · have := k.on i hi
      rw [toI_len, on_toI] at this
      rw [leftL_get (by omega)]
      unfold leftTo
      rw [if_pos hi]; exact this
/-- THE THEOREM OF THE LEAST COST. -/
theorem plan_best {p : Pool} (h : PoolOk p) (hk : p.ok = true) : (∃ v, planE p = (toI v, costL p v, 0) ∧ isWatch p (toI v) = true ∧ safeT p (toI v) = true ∧ ∀ w, isWatch p w = true → safeT p w = true → costL p v < costT p w ∨ costL p v = costT p w ∧ ltL w (toI v) = false) ∨ (planE p = ([], 0, 3) ∧ ∀ w, isWatch p w = true → safeT p w = false) := by
  have hb := from_best h p.needs.length (leftL p)
  have hw : ∀ w, isWatch p w = true → safeT p w = true → 0 ≤ (fromT p p.needs.length (leftL p)).2 ∧ ((fromT p p.needs.length (leftL p)).2 < costT p w ∨ (fromT p p.needs.length (leftL p)).2 = costT p w ∧ ltL w (fromT p p.needs.length (leftL p)).1 = false) := fun w h1 h2 => by
    have e := toI_of (w := w) fun s hs => ((watch_d h1).el s hs).1
    have := hb.le (w.map Int.toNat) ((fit_safe h).2 (by rw [e]; exact ⟨h1, h2⟩))
    rwa [← cost_toI, e] at this
  unfold planE
  rw [if_pos hk]
  by_cases h0 : (fromT p p.needs.length (leftL p)).2 < 0
  · refine .inr ⟨by rw [if_pos h0], fun w h1 => ?_⟩
    cases h2 : safeT p w
    · rfl
    · have := (hw w h1 h2).1; omega
  · obtain ⟨v, h1, h2⟩ := hb.is (by omega)
    obtain ⟨h3, h4⟩ := (fit_safe h).1 h1
    refine .inl ⟨v, by rw [if_neg h0, h2], h3, h4, fun w h5 h6 => ?_⟩
    have := (hw w h5 h6).2
    rwa [h2] at this
/-- The best set of a slot. -/
theorem best_min {p : Pool} {l : List Nat} : ∀ k j, j ≤ k → payT p (bestTo p l k) ≤ payT p (l.getD j 0)
  | 0, j, h => by obtain rfl : j = 0 := by omega
                  exact Int.le_refl _
  | k + 1, j, h => by
    have ih := fun h => best_min (p := p) (l := l) k j h
    rw [bestTo]
    unfold stepB
    by_cases e : j = k + 1
    · subst e
      split
      · exact Int.le_refl _
      · omega
    · have := ih (by omega)
      split <;> omega
def sumS (p : Pool) : Nat → Int
  | 0 => 0
  | s + 1 => sumS p s + payT p (bestG p (coversT p s))
theorem sumS_b {p : Pool} (h : PoolOk p) : ∀ s, 0 ≤ sumS p s ∧ sumS p s ≤ 8000 * s
  | 0 => by show (0:Int) ≤ 0 ∧ (0:Int) ≤ _; omega
  | s + 1 => by
    have := sumS_b h s
    have := pay_b h (bestG p (coversT p s))
    show 0 ≤ sumS p s + _ ∧ sumS p s + _ ≤ _
    omega
theorem best_le {p : Pool} {s g : Nat} (h : g ∈ coversT p s) : payT p (bestG p (coversT p s)) ≤ payT p g := by
  obtain ⟨j, h1, rfl⟩ := mem_getD h
  exact best_min _ j (by omega)
theorem safe_mem {p : Pool} {w : List Int} (h1 : isWatch p w = true) (h2 : safeT p w = true) {s : Nat} (hs : s < w.length) : (w.getD s 0).toNat ∈ coversT p s := by
  obtain ⟨_, e2, e3⟩ := (watch_d h1).el s hs
  exact covers_iff.2 ⟨e2, e3, rall_get (p := fun s => coveredT p s (w.getD s 0).toNat) h2 hs⟩
theorem sum_le {p : Pool} {w : List Int} (h1 : isWatch p w = true) (h2 : safeT p w = true) : ∀ k, k ≤ w.length → sumS p k ≤ costTo p w k
  | 0, _ => Int.le_refl _
  | k + 1, h => by
    have := sum_le h1 h2 k (by omega)
    have := best_le (safe_mem h1 h2 (show k < w.length by omega))
    show sumS p k + _ ≤ costTo p w k + _
    omega
end Go.Proofs.Ytbhjehpjjbbhbaa

namespace Go.Proofs.Ytbhjehpjjbbhbaa
open Go.RowKit

theorem same_step {a b : List Int} {i : Nat} (hl : a.length = b.length) (hi : i < a.length) (h : a.take i = b.take i) (e : a.getD i 0 = b.getD i 0) : a.take (i + 1) = b.take (i + 1) := by
  have hb : i < b.length := by omega
  rw [List.take_add_one, List.take_add_one, h]
  simp only [List.getD, List.getElem?_eq_getElem hi, List.getElem?_eq_getElem hb, Option.getD_some] at e
  rw [List.getElem?_eq_getElem hi, List.getElem?_eq_getElem hb, e]
set_option maxHeartbeats 4000000
set_option maxRecDepth 100000
theorem sameInts_ok (z e z2 e2 : Bool) (a b : List Int) (h1 : a.length ≤ 1000000) : ACall Try.prog 34 [aInts z e a, aInts z2 e2 b] [] (fun r h => r = .bool (decide (a = b)) ∧ h = []) := by
  (refine fcall_of mixed Try.func34 rfl (by decide) (hs := {}) ?k (ac := ?ac) ?c (rs := ?rs) ?r ?l ?H; (case k => kernel_rfl); (case c => (conv => (lhs; cbv))); (case r => (conv => (lhs; cbv))); (case l => exact Nat.le_of_ble_eq_true rfl))
  (repeat' ((try (conv => whnf)); first | (with_reducible first | refine FCond.tA ?_ | refine FCond.fA ?_) | ((with_reducible refine FCond.i (fun hq => ?_) (fun hq => ?_)) <;> (try simp only [zA, zE, zD, zJ, zB, zI, Int.not_le, Int.not_lt] at hq)) | (with_reducible first | refine Fits.in64 (by omega) ?_ | refine FIdx.nat (by omega) ?_ | refine FIdx.int (by omega) ?_ | refine FTo.nat (by omega) ?_ | refine FTo.int (by omega) ?_) | ((with_reducible refine Need.mk ?_ ?_); focus exact needA) | (with_reducible refine FApp.grow ?_)))
  all_goals (try (conv => whnf))
  · (refine ⟨⟨_, [], [], Cut.nil _, Ln.sameB _ rfl, ?_, rfl⟩⟩)
    rw [decide_eq_false fun h => hq (by rw [h])]
  · have hl : a.length = b.length := by omega
    refine FLoop.of (ACalls.mono _) (X := Nat) (fun i => [(0, aInts z e a), (1, aInts z2 e2 b), (5, AI i)]) (fun _ => []) (fun i => i ≤ a.length ∧ a.take i = b.take i) (fun i => a.length - i) 0 ⟨⟨by omega, rfl⟩, [], Cut.A, allA⟩ ?_
    rintro i ⟨hi, hL⟩
    by_cases hlt : i < a.length
    · (repeat' ((try (conv => whnf)); first | (with_reducible first | refine FCond.tA ?_ | refine FCond.fA ?_) | ((with_reducible refine FCond.i (fun hq => ?_) (fun hq => ?_)) <;> (try simp only [zA, zE, zD, zJ, zB, zI, Int.not_le, Int.not_lt] at hq)) | (with_reducible first | refine Fits.in64 (by omega) ?_ | refine FIdx.nat (by omega) ?_ | refine FIdx.int (by omega) ?_ | refine FTo.nat (by omega) ?_ | refine FTo.int (by omega) ?_) | ((with_reducible refine Need.mk ?_ ?_); focus exact needA) | (with_reducible refine FApp.grow ?_)))
      all_goals (try (conv => whnf))
      · (refine ⟨⟨_, [], [], Cut.nil _, Ln.sameB _ rfl, ?_, rfl⟩⟩)
        rw [decide_eq_false fun h => hq (by rw [h])]
      · (exact ⟨⟨(i + 1), ⟨by omega, same_step hl hlt hL hq⟩, by show _ < _; omega, [], Cut.A, allA⟩⟩)
    · (repeat' ((try (conv => whnf)); first | (with_reducible first | refine FCond.tA ?_ | refine FCond.fA ?_) | ((with_reducible refine FCond.i (fun hq => ?_) (fun hq => ?_)) <;> (try simp only [zA, zE, zD, zJ, zB, zI, Int.not_le, Int.not_lt] at hq)) | (with_reducible first | refine Fits.in64 (by omega) ?_ | refine FIdx.nat (by omega) ?_ | refine FIdx.int (by omega) ?_ | refine FTo.nat (by omega) ?_ | refine FTo.int (by omega) ?_) | ((with_reducible refine Need.mk ?_ ?_); focus exact needA) | (with_reducible refine FApp.grow ?_)))
      all_goals (try (conv => whnf))
      (refine ⟨⟨_, [], [], Cut.nil _, Ln.sameB _ rfl, ?_, rfl⟩⟩)
      rw [List.take_of_length_le (by omega), List.take_of_length_le (by omega)] at hL
      rw [decide_eq_true hL]
/-- Too large for the laws. -/
def bigR (r : List Int) : Bool := decide (20 < r.length)
def farT (p : Pool) : Bool := decide (20 < p.folk.length) || decide (20 < p.needs.length) || p.needs.any bigR || (p.ok && (decide (5 < p.folk.length) || decide (3 < p.needs.length) || decide (3 < p.nT)))
theorem near_of {p : Pool} (h : farT p = false) : NearP p := by
  simp only [farT, Bool.or_eq_false_iff, decide_eq_false_iff_not, Nat.not_lt] at h
  obtain ⟨⟨⟨a, b⟩, d⟩, e⟩ := h
  refine ⟨by omega, by omega, fun i hi => ?_⟩
  rw [List.any_eq_false] at d
  have hb := d (p.needs.getD i []) (by simp [List.getD, List.getElem?_eq_getElem hi])
  have hb : ¬ 20 < (p.needs.getD i []).length := fun hh => hb (decide_eq_true hh)
  show (p.needs.getD i []).length ≤ 1000
  omega
structure Small (p : Pool) : Prop where
  n5 : p.folk.length ≤ 5
  s3 : p.needs.length ≤ 3
  t3 : p.nT ≤ 3
theorem small_of {p : Pool} (h : farT p = false) (hk : p.ok = true) : Small p := by
  simp only [farT, hk, Bool.true_and, Bool.or_eq_false_iff, decide_eq_false_iff_not, Nat.not_lt] at h
  obtain ⟨_, ⟨a, b⟩, d⟩ := h
  exact ⟨a, b, d⟩
theorem any_step {α : Type} {p : α → Bool} {l : List α} {i : Nat} (d : α) (h : i < l.length) (e : l.any p = (l.drop i).any p) (hp : p (l.getD i d) = false) : l.any p = (l.drop (i + 1)).any p := by
  rw [e, drop_eq d h, List.any_cons, hp, Bool.false_or]
theorem any_yes {α : Type} {p : α → Bool} {l : List α} {i : Nat} (d : α) (h : i < l.length) (e : l.any p = (l.drop i).any p) (hp : p (l.getD i d) = true) : l.any p = true := by
  rw [e, drop_eq d h, List.any_cons, hp, Bool.true_or]
theorem any_end {α : Type} {p : α → Bool} {l : List α} {i : Nat} (h : l.length ≤ i) (e : l.any p = (l.drop i).any p) : l.any p = false := by
  rw [e, List.drop_eq_nil_of_le h]; rfl
theorem farT_ok (f : PoF) (p : Pool) : ACall Try.prog 28 [aPool f p] [] (fun r h => r = .bool (farT p) ∧ h = []) := by
  (refine fcall_of mixed Try.func28 rfl (by decide) (hs := {}) ?k (ac := ?ac) ?c (rs := ?rs) ?r ?l ?H; (case k => kernel_rfl); (case c => (conv => (lhs; cbv))); (case r => (conv => (lhs; cbv))); (case l => exact Nat.le_of_ble_eq_true rfl))
  (repeat' ((try (conv => whnf)); first | (with_reducible first | refine FCond.tA ?_ | refine FCond.fA ?_) | ((with_reducible refine FCond.i (fun hq => ?_) (fun hq => ?_)) <;> (try simp only [zA, zE, zD, zJ, zB, zI, Int.not_le, Int.not_lt] at hq)) | (with_reducible first | refine Fits.in64 (by omega) ?_ | refine FIdx.nat (by omega) ?_ | refine FIdx.int (by omega) ?_ | refine FTo.nat (by omega) ?_ | refine FTo.int (by omega) ?_) | ((with_reducible refine Need.mk ?_ ?_); focus exact needA) | (with_reducible refine FApp.grow ?_)))
  all_goals (try (conv => whnf))
  · (refine ⟨⟨_, [], [], Cut.nil _, Ln.sameB _ rfl, ?_, rfl⟩⟩)
    unfold farT
    rw [decide_eq_true (by omega)]; rfl
  · (refine ⟨⟨_, [], [], Cut.nil _, Ln.sameB _ rfl, ?_, rfl⟩⟩)
    unfold farT
    rw [decide_eq_true (p := 20 < p.needs.length) (by omega)]; simp
  · refine FLoop.of (ACalls.mono _) (X := Nat) (fun i => [(1, .ptr 0 0), (3, AI i)]) (fun _ => [.box 4 (cPool f p)]) (fun i => i ≤ p.needs.length ∧ p.needs.any bigR = (p.needs.drop i).any bigR) (fun i => p.needs.length - i) 0 ⟨⟨Nat.zero_le _, rfl⟩, [0], Cut.A, allA⟩ ?_
    rintro i ⟨hi, hL⟩
    by_cases hlt : i < p.needs.length
    · (repeat' ((try (conv => whnf)); first | (with_reducible first | refine FCond.tA ?_ | refine FCond.fA ?_) | ((with_reducible refine FCond.i (fun hq => ?_) (fun hq => ?_)) <;> (try simp only [zA, zE, zD, zJ, zB, zI, Int.not_le, Int.not_lt] at hq)) | (with_reducible first | refine Fits.in64 (by omega) ?_ | refine FIdx.nat (by omega) ?_ | refine FIdx.int (by omega) ?_ | refine FTo.nat (by omega) ?_ | refine FTo.int (by omega) ?_) | ((with_reducible refine Need.mk ?_ ?_); focus exact needA) | (with_reducible refine FApp.grow ?_)))
      all_goals (try (conv => whnf))
      · (refine ⟨⟨_, [], [], Cut.nil _, Ln.sameB _ rfl, ?_, rfl⟩⟩)
        unfold farT
        rw [any_yes [] hlt hL (by unfold bigR; rw [decide_eq_true (by omega)])]; simp
      · (exact ⟨⟨(i + 1), ⟨hlt, any_step [] hlt hL (by unfold bigR; rw [decide_eq_false (by omega)])⟩, by show _ < _; omega, [0], Cut.A, allA⟩⟩)
    · have hE := any_end (by omega) hL
      have hA : farT p = (p.ok && (decide (5 < p.folk.length) || decide (3 < p.needs.length) || decide (3 < p.nT))) := by
        unfold farT
        rw [decide_eq_false (p := 20 < p.folk.length) (by omega), decide_eq_false (p := 20 < p.needs.length) (by omega), hE]; rfl
      have hn : NearP p := by
        refine ⟨by omega, by omega, fun i hi => ?_⟩
        rw [List.any_eq_false] at hE
        have hb := hE (p.needs.getD i []) (by simp [List.getD, List.getElem?_eq_getElem hi])
        have hb : ¬ 20 < (p.needs.getD i []).length := fun hh => hb (decide_eq_true hh)
        show (p.needs.getD i []).length ≤ 1000
        omega
      have cC := refCheck_ok f p hn
      rw [hA]
      cases hk : p.ok
      · rw [check_100 hk] at cC
        (repeat' ((try (conv => whnf)); first | (with_reducible first | refine FCond.tA ?_ | refine FCond.fA ?_) | ((with_reducible refine FCond.i (fun hq => ?_) (fun hq => ?_)) <;> (try simp only [zA, zE, zD, zJ, zB, zI, Int.not_le, Int.not_lt] at hq)) | (with_reducible first | refine Fits.in64 (by omega) ?_ | refine FIdx.nat (by omega) ?_ | refine FIdx.int (by omega) ?_ | refine FTo.nat (by omega) ?_ | refine FTo.int (by omega) ?_) | ((with_reducible refine Need.mk ?_ ?_); focus exact needA) | (with_reducible refine FApp.grow ?_) | (refine FCall.pure (cC) ⟨Ln.sameB _ rfl, True.intro⟩ rfl ?_)))
        all_goals (try (conv => whnf))
        (refine ⟨⟨_, [], [], Cut.nil _, Ln.sameB _ rfl, ?_, rfl⟩⟩)
        rfl
      · have h := pool_d hk
        have s1 := h.s1
        rw [check_0.2 hk] at cC
        have cT := tongues_ok f p (by omega)
        (repeat' ((try (conv => whnf)); first | (with_reducible first | refine FCond.tA ?_ | refine FCond.fA ?_) | ((with_reducible refine FCond.i (fun hq => ?_) (fun hq => ?_)) <;> (try simp only [zA, zE, zD, zJ, zB, zI, Int.not_le, Int.not_lt] at hq)) | (with_reducible first | refine Fits.in64 (by omega) ?_ | refine FIdx.nat (by omega) ?_ | refine FIdx.int (by omega) ?_ | refine FTo.nat (by omega) ?_ | refine FTo.int (by omega) ?_) | ((with_reducible refine Need.mk ?_ ?_); focus exact needA) | (with_reducible refine FApp.grow ?_) | (refine FCall.pure (cC) ⟨Ln.sameB _ rfl, True.intro⟩ rfl ?_) | (refine FCall.pure (cT) ⟨Ln.sameB _ rfl, True.intro⟩ rfl ?_)))
        all_goals (try (conv => whnf))
        all_goals
          (refine ⟨⟨_, [], [], Cut.nil _, Ln.sameB _ rfl, ?_, rfl⟩⟩)
          first
            | (rw [decide_eq_true (p := 5 < p.folk.length) (by omega)]; rfl)
            | (rw [decide_eq_false (p := 5 < p.folk.length) (by omega), decide_eq_true (p := 3 < p.needs.length) (by omega)]; rfl)
            | (rw [decide_eq_false (p := 5 < p.folk.length) (by omega), decide_eq_false (p := 3 < p.needs.length) (by omega)]; exact bool_eq (decide_eq_decide.2 (by omega)))
def validT (p : Pool) : Bool := !farT p && p.ok
theorem valid_ok (f : PoF) (p : Pool) : ACall Try.prog 11 [aPool f p] [] (fun r h => r = .bool (validT p) ∧ h = []) := by
  have cF := farT_ok f p
  (refine fcall_of mixed Try.func11 rfl (by decide) (hs := {}) ?k (ac := ?ac) ?c (rs := ?rs) ?r ?l ?H; (case k => kernel_rfl); (case c => (conv => (lhs; cbv))); (case r => (conv => (lhs; cbv))); (case l => exact Nat.le_of_ble_eq_true rfl))
  cases hf : farT p
  · have cC := refCheck_ok f p (near_of hf)
    rw [hf] at cF
    (repeat' ((try (conv => whnf)); first | (with_reducible first | refine FCond.tA ?_ | refine FCond.fA ?_) | ((with_reducible refine FCond.i (fun hq => ?_) (fun hq => ?_)) <;> (try simp only [zA, zE, zD, zJ, zB, zI, Int.not_le, Int.not_lt] at hq)) | (with_reducible first | refine Fits.in64 (by omega) ?_ | refine FIdx.nat (by omega) ?_ | refine FIdx.int (by omega) ?_ | refine FTo.nat (by omega) ?_ | refine FTo.int (by omega) ?_) | ((with_reducible refine Need.mk ?_ ?_); focus exact needA) | (with_reducible refine FApp.grow ?_) | (refine FCall.pure (cF) ⟨Ln.sameB _ rfl, True.intro⟩ rfl ?_) | (refine FCall.pure (cC) ⟨Ln.sameB _ rfl, True.intro⟩ rfl ?_)))
    all_goals (try (conv => whnf))
    (refine ⟨⟨_, [], [], Cut.nil _, Ln.sameB _ rfl, ?_, rfl⟩⟩)
    unfold validT checkP
    rw [hf]
    cases p.ok <;> rfl
  · rw [hf] at cF
    (repeat' ((try (conv => whnf)); first | (with_reducible first | refine FCond.tA ?_ | refine FCond.fA ?_) | ((with_reducible refine FCond.i (fun hq => ?_) (fun hq => ?_)) <;> (try simp only [zA, zE, zD, zJ, zB, zI, Int.not_le, Int.not_lt] at hq)) | (with_reducible first | refine Fits.in64 (by omega) ?_ | refine FIdx.nat (by omega) ?_ | refine FIdx.int (by omega) ?_ | refine FTo.nat (by omega) ?_ | refine FTo.int (by omega) ?_) | ((with_reducible refine Need.mk ?_ ?_); focus exact needA) | (with_reducible refine FApp.grow ?_) | (refine FCall.pure (cF) ⟨Ln.sameB _ rfl, True.intro⟩ rfl ?_)))
    all_goals (try (conv => whnf))
    (refine ⟨⟨_, [], [], Cut.nil _, Ln.sameB _ rfl, ?_, rfl⟩⟩)
    unfold validT
    rw [hf]; rfl
theorem valid_d {p : Pool} (h : validT p = true) : NearP p ∧ p.ok = true ∧ PoolOk p ∧ Small p := by
  unfold validT at h
  rw [Bool.and_eq_true, Bool.not_eq_true'] at h
  exact ⟨near_of h.1, h.2, pool_d h.2, small_of h.1 h.2⟩
end Go.Proofs.Ytbhjehpjjbbhbaa

namespace Go.Proofs.Ytbhjehpjjbbhbaa
open Go.RowKit

def exP : Pool := ⟨[⟨1, 3, 10⟩, ⟨3, 3, 25⟩, ⟨2, 1, 12⟩, ⟨2, 3, 20⟩, ⟨1, 2, 15⟩], [[1, 1], [1, 0]], 1, 2⟩
theorem ex_plan : planE exP = ([7, 17], 72, 0) := by decide +kernel
theorem ex_missed : missedE exP [15, 17] = ([2, 1, 0, 0, 1], 0) := by decide +kernel
theorem ex_near : NearP exP := ⟨by decide, by decide, fun s hs => by
  rcases (show s = 0 ∨ s = 1 by have : s < 2 := hs; omega) with rfl | rfl <;> decide⟩
def exF : PoF := ⟨false, true, false, true, fun _ => false, fun _ => true⟩
theorem LeV.ints {l : List Int} {c : Nat → Nat → AV} {n : Nat} (hn : n = l.length) (h : ∀ k, k < n → c k 0 = AI (l.getD k 0)) : LeV (.sl false true n 1 c) (aInts false true l) := by
  subst hn
  exact LeV.sl (fun h => h) (fun k hk o ho => by obtain rfl : o = 0 := (by omega); exact LeV.of (h k hk).symm)
theorem k2 {p : Nat → Prop} (h0 : p 0) (h1 : p 1) : ∀ k, k < 2 → p k := fun k hk => by
  rcases (show k = 0 ∨ k = 1 by omega) with rfl | rfl
  · exact h0
  · exact h1
theorem k3 {p : Nat → Prop} (h0 : p 0) (h1 : p 1) (h2 : p 2) : ∀ k, k < 3 → p k := fun k hk => by
  rcases (show k = 0 ∨ k = 1 ∨ k = 2 by omega) with rfl | rfl | rfl
  · exact h0
  · exact h1
  · exact h2
theorem k5 {p : Nat → Prop} (h0 : p 0) (h1 : p 1) (h2 : p 2) (h3 : p 3) (h4 : p 4) : ∀ k, k < 5 → p k := fun k hk => by
  rcases (show k = 0 ∨ k = 1 ∨ k = 2 ∨ k = 3 ∨ k = 4 by omega) with rfl | rfl | rfl | rfl | rfl
  · exact h0
  · exact h1
  · exact h2
  · exact h3
  · exact h4
set_option maxHeartbeats 4000000
set_option maxRecDepth 100000
theorem example_ok : ACall Try.prog 43 [] [] (fun r h' => r = aPool exF exP ∧ h' = []) := by
  (refine fcall_of mixed Try.func43 rfl (by decide) (hs := {}) ?k (ac := ?ac) ?c (rs := ?rs) ?r ?l ?H; (case k => kernel_rfl); (case c => (conv => (lhs; cbv))); (case r => (conv => (lhs; cbv))); (case l => exact Nat.le_of_ble_eq_true rfl))
  (repeat' ((try (conv => whnf)); first | (with_reducible first | refine FCond.tA ?_ | refine FCond.fA ?_) | ((with_reducible refine FCond.i (fun hq => ?_) (fun hq => ?_)) <;> (try simp only [zA, zE, zD, zJ, zB, zI, Int.not_le, Int.not_lt] at hq)) | (with_reducible first | refine Fits.in64 (by omega) ?_ | refine FIdx.nat (by omega) ?_ | refine FIdx.int (by omega) ?_ | refine FTo.nat (by omega) ?_ | refine FTo.int (by omega) ?_) | ((with_reducible refine Need.mk ?_ ?_); focus exact needA) | (with_reducible refine FApp.grow ?_)))
  (try (conv => whnf))
  refine ⟨⟨aPool exF exP, [], [], Cut.nil _, Ln.aggN ⟨⟨⟨⟨True.intro, Ln.sl _ _ _ _ _ _ _ (fun h => h) ?fo⟩, Ln.le _ _ True.intro (LeV.sl (fun h => h) ?ne)⟩, Ln.A⟩, Ln.A⟩, rfl, rfl⟩⟩
  case fo => exact k5 (k3 rfl rfl rfl) (k3 rfl rfl rfl) (k3 rfl rfl rfl) (k3 rfl rfl rfl) (k3 rfl rfl rfl)
  case ne => exact k2 (fun o ho => by obtain rfl : o = 0 := (by omega); exact LeV.ints rfl (k2 rfl rfl)) (fun o ho => by obtain rfl : o = 0 := (by omega); exact LeV.ints rfl (k2 rfl rfl))
theorem ex_planC : ACall Try.prog 16 [aPool exF exP] [] (fun r h => r = .tup 3 (ofL [outI [7, 17], AI 72, AI 0]) ∧ h = []) := by
  have := plan_ok exF exP ex_near
  rwa [ex_plan] at this
theorem ex_missC : ACall Try.prog 24 [aPool exF exP, aInts false true [15, 17]] [] (fun r h => r = .tup 2 (ofL [outI [2, 1, 0, 0, 1], AI 0]) ∧ h = []) := by
  have := pMissed_ok exF exP false true [15, 17] ex_near (fun s hs => by
    rcases (show s = 0 ∨ s = 1 by have : s < 2 := hs; omega) with rfl | rfl <;> exact ⟨by decide, by decide⟩) (by decide)
  rwa [ex_missed] at this
theorem ex_sameP : ACall Try.prog 34 [aInts false false [7, 17], aInts false true [7, 17]] [] (fun r h => r = .bool true ∧ h = []) := sameInts_ok false false false true [7, 17] [7, 17] (by decide)
theorem ex_sameM : ACall Try.prog 34 [aInts false false [2, 1, 0, 0, 1], aInts false true [2, 1, 0, 0, 1]] [] (fun r h => r = .bool true ∧ h = []) := sameInts_ok false false false true [2, 1, 0, 0, 1] [2, 1, 0, 0, 1] (by decide)
theorem Ln.lits {σ : Nat → Nat → Prop} {Bp : Nat → Prop} {H : List AB} {c : Nat → Nat → AV} {n : Nat} {l : List Int} (hn : n = l.length) (h : ∀ k, k < n → c k 0 = AI (l.getD k 0)) : Ln σ Bp H (.sl false true n 1 c) (aInts false true l) := by
  subst hn
  exact Ln.sl _ _ _ _ _ _ _ (fun h => h) fun k hk o ho => by
    obtain rfl : o = 0 := by omega
    exact (h k hk).symm
theorem works_ok : ACall Try.prog 12 [] [] (fun r h' => r = .bool true ∧ h' = []) := by
  (refine fcall_of mixed Try.func12 rfl (by decide) (hs := {}) ?k (ac := ?ac) ?c (rs := ?rs) ?r ?l ?H; (case k => kernel_rfl); (case c => (conv => (lhs; cbv))); (case r => (conv => (lhs; cbv))); (case l => exact Nat.le_of_ble_eq_true rfl))
  (repeat' ((try (conv => whnf)); first | (with_reducible first | refine FCond.tA ?_ | refine FCond.fA ?_) | ((with_reducible refine FCond.i (fun hq => ?_) (fun hq => ?_)) <;> (try simp only [zA, zE, zD, zJ, zB, zI, Int.not_le, Int.not_lt] at hq)) | (with_reducible first | refine Fits.in64 (by omega) ?_ | refine FIdx.nat (by omega) ?_ | refine FIdx.int (by omega) ?_ | refine FTo.nat (by omega) ?_ | refine FTo.int (by omega) ?_) | ((with_reducible refine Need.mk ?_ ?_); focus exact needA) | (with_reducible refine FApp.grow ?_) | (refine FCall.pure example_ok True.intro rfl ?_) | (refine FCall.pure (ex_planC) ⟨Ln.sameB _ rfl, True.intro⟩ rfl ?_) | (refine FCall.pure ex_missC ⟨Ln.sameB _ rfl, Ln.lits rfl (k2 rfl rfl), True.intro⟩ rfl ?_) | (refine FCall.pure ex_sameP ⟨Ln.sameB _ rfl, Ln.lits rfl (k2 rfl rfl), True.intro⟩ rfl ?_) | (refine FCall.pure ex_sameM ⟨Ln.sameB _ rfl, Ln.lits rfl (k5 rfl rfl rfl rfl rfl), True.intro⟩ rfl ?_)))
  all_goals (try (conv => whnf))
  all_goals (refine ⟨⟨_, [], [], Cut.nil _, Ln.sameB _ rfl, ?_, rfl⟩⟩)
  all_goals rfl
end Go.Proofs.Ytbhjehpjjbbhbaa

namespace Go.Proofs.Ytbhjehpjjbbhbaa
open Go.RowKit

theorem Ln.slZ {σ : Nat → Nat → Prop} {Bp : Nat → Prop} {H : List AB} {n' sz : Nat} {c c' : Nat → Nat → AV} (h : n' = 0) : Ln σ Bp H (.sl false true 0 sz c) (.sl false (decide (n' = 0)) n' sz c') := by
  subst h
  exact Ln.sl _ _ _ _ _ _ _ (fun _ => rfl) (fun k hk => absurd hk (Nat.not_lt_zero k))
theorem Ln.pubD {σ : Nat → Nat → Prop} {Bp : Nat → Prop} {H : List AB} {d n n' N sz : Nat} {c c' : Nat → Nat → AV} (h0 : 0 < n') (h : Bp d) (hd : H[d]? = some (.row N sz c)) (hn : n ≤ N) (e : n = n') (hc : ∀ k, k < n → ∀ o, o < sz → c' k o = c k o) : Ln σ Bp H (.own d n) (.sl false (decide (n' = 0)) n' sz c') := by
  rw [decide_eq_false (by omega)]; exact Ln.pubE h hd hn e hc
abbrev cpFolk (l : List Folk) : AV := aFolks false (decide (l.length = 0)) l
abbrev cpRow (l : List Int) : AV := aInts false (decide (l.length = 0)) l
theorem cpR0 {l : List Int} {c : Nat → Nat → AV} (h : l.length = 0) : LeV (.sl false true 0 1 c) (cpRow l) := by
  show LeV _ (.sl false (decide (l.length = 0)) l.length 1 _)
  rw [h]; exact LeV.slz (fun _ => rfl)
theorem cpR1 {l : List Int} {R : Nat} {c : Nat → Nat → AV} (h : l.length = R + 1) (hc : ∀ k, k < R + 1 → c k 0 = AI (l.getD k 0)) : LeV (.sl false false (0 + (R + 1)) 1 c) (cpRow l) := by
  show LeV _ (.sl false (decide (l.length = 0)) l.length 1 _)
  rw [h, Nat.zero_add]
  exact LeV.sl (fun e => by cases e) (fun k hk o ho => by obtain rfl : o = 0 := Nat.lt_one_iff.1 ho; exact LeV.of (hc k hk).symm)
theorem cpApp {needs : List (List Int)} {i : Nat} {c d : Nat → Nat → AV} (hc : ∀ k, k < i → c k 0 = cpRow (needs.getD k [])) (hx : LeV (d 0 0) (cpRow (needs.getD i []))) {k : Nat} (hk : k < i + 1) {o : Nat} (ho : o < 1) : LeV (appc i c d k o) (cpRow (needs.getD k [])) := by
  obtain rfl : o = 0 := Nat.lt_one_iff.1 ho
  by_cases h : k < i
  · rw [appc, if_pos h, hc k h]; exact LeV.refl _
  · obtain rfl : k = i := by omega
    rw [appc, if_neg h, Nat.sub_self]; exact hx
abbrev rowR (n : Nat) (l : List (List Int)) : AB := .row n 1 (fun k _ => cpRow (l.getD k []))
set_option maxHeartbeats 4000000
set_option maxRecDepth 100000
theorem copy_own2 (f : PoF) (folk : List Folk) (needs : List (List Int)) (ill most : Int) (n1 : folk.length ≤ 1000) (n2 : needs.length ≤ 1000) (n3 : ∀ s, s < needs.length → (needs.getD s []).length ≤ 1000) : ACall Try.prog 13 [aPool f ⟨folk, needs, ill, most⟩] [] (fun v h => v = .agg 4 (ofL [cpFolk folk, .sl (decide (needs.length = 0)) (decide (needs.length = 0)) needs.length 1 (fun k _ => cpRow (needs.getD k [])), AI ill, AI most]) ∧ h = []) := by
  (refine fcall_of mixed Try.func13 rfl (by decide) (hs := { pub := [4], ord := [(7, [(0, []), (1, []), (2, []), (3, []), (4, []), (5, []), (6, []), (7, []), (8, [1]), (9, [1]), (10, []), (11, []), (12, [])])] }) ?k (ac := ?ac) ?c (rs := ?rs) ?r ?l ?H; (case k => kernel_rfl); (case c => (conv => (lhs; cbv))); (case r => (conv => (lhs; cbv))); (case l => exact Nat.le_of_ble_eq_true rfl))
  rcases folk with _ | ⟨w0, ws⟩
  all_goals
    have n1' := n1
    simp only [List.length_cons, List.length_nil] at n1'
    (repeat' ((try (conv => whnf)); first | (with_reducible first | refine FCond.tA ?_ | refine FCond.fA ?_) | ((with_reducible refine FCond.i (fun hq => ?_) (fun hq => ?_)) <;> (try simp only [zA, zE, zD, zJ, zB, zI, Int.not_le, Int.not_lt] at hq)) | (with_reducible first | refine Fits.in64 (by omega) ?_ | refine FIdx.nat (by omega) ?_ | refine FIdx.int (by omega) ?_ | refine FTo.nat (by omega) ?_ | refine FTo.int (by omega) ?_) | ((with_reducible refine Need.mk ?_ ?_); focus exact needA) | (with_reducible refine FApp.grow ?_)))
    all_goals (try (conv => whnf))
  · refine FWk.of [(1, .ptr 0 0), (2, .ptr 1 0), (3, .ptr 2 0)] [.box 4 (cPool f ⟨[], needs, ill, most⟩), .box 4 (ofL [nilS, nilS, AI 0, AI 0]), .box 4 (ofL [cpFolk [], nilS, AI ill, AI most])] [0, 1, 2] (Cut.of (Nat.le_of_ble_eq_true rfl) rfl rfl (CutL.turned rfl (LnB.boxN ⟨⟨⟨⟨True.intro, Ln.sameB _ rfl⟩, Ln.sameB _ rfl⟩, Ln.A⟩, Ln.A⟩) (CutL.turned rfl (LnB.boxN ⟨⟨⟨⟨True.intro, Ln.sameB _ rfl⟩, Ln.sameB _ rfl⟩, Ln.A⟩, Ln.A⟩) (CutL.turned rfl (LnB.boxN ⟨⟨⟨⟨True.intro, Ln.slZ rfl⟩, Ln.sameB _ rfl⟩, Ln.A⟩, Ln.A⟩) CutL.done)))) ⟨Ln.ptr _ _ _ rfl, Ln.ptr _ _ _ rfl, Ln.ptr _ _ _ rfl, True.intro⟩ ?_
    clear n1'
    generalize hgl : ([] : List Folk) = folk
    (repeat' ((try (conv => whnf)); first | (with_reducible first | refine FCond.tA ?_ | refine FCond.fA ?_) | ((with_reducible refine FCond.i (fun hq => ?_) (fun hq => ?_)) <;> (try simp only [zA, zE, zD, zJ, zB, zI, Int.not_le, Int.not_lt] at hq)) | (with_reducible first | refine Fits.in64 (by omega) ?_ | refine FIdx.nat (by omega) ?_ | refine FIdx.int (by omega) ?_ | refine FTo.nat (by omega) ?_ | refine FTo.int (by omega) ?_) | ((with_reducible refine Need.mk ?_ ?_); focus exact needA) | (with_reducible refine FApp.grow ?_)))
    (try (conv => whnf))
    refine FLoop.of (ACalls.mono _) (X := Nat) (fun i => [(1, .ptr 0 0), (2, .ptr 1 0), (3, .ptr 2 0), (4, AI i)]) (fun i => match i with
      | 0 => [.box 4 (cPool f ⟨folk, needs, ill, most⟩), .box 4 (ofL [nilS, nilS, AI 0, AI 0]), .box 4 (ofL [cpFolk folk, nilS, AI ill, AI most])]
      | i + 1 => [.box 4 (cPool f ⟨folk, needs, ill, most⟩), .box 4 (ofL [nilS, nilS, AI 0, AI 0]), .box 4 (ofL [cpFolk folk, .own 3 (i + 1), AI ill, AI most]), rowR (i + 1) needs]) (fun i => i ≤ needs.length) (fun i => needs.length - i) 0 ⟨Nat.zero_le _, [0, 1, 2], Cut.A, allA⟩ ?_
    intro i hi
    by_cases hlt : i < needs.length
    · have q1 := n3 i hlt
      rcases i with _ | i
      · (repeat' ((try (conv => whnf)); first | (with_reducible first | refine FCond.tA ?_ | refine FCond.fA ?_) | ((with_reducible refine FCond.i (fun hq => ?_) (fun hq => ?_)) <;> (try simp only [zA, zE, zD, zJ, zB, zI, Int.not_le, Int.not_lt] at hq)) | (with_reducible first | refine Fits.in64 (by omega) ?_ | refine FIdx.nat (by omega) ?_ | refine FIdx.int (by omega) ?_ | refine FTo.nat (by omega) ?_ | refine FTo.int (by omega) ?_) | ((with_reducible refine Need.mk ?_ ?_); focus exact needA) | (with_reducible refine FApp.grow ?_)))
        (try (conv => whnf))
        rcases hR : ((Pool.mk folk needs ill most).needs.getD 0 []).length with _ | R
        all_goals
          (repeat' ((try (conv => whnf)); first | (with_reducible first | refine FCond.tA ?_ | refine FCond.fA ?_) | ((with_reducible refine FCond.i (fun hq => ?_) (fun hq => ?_)) <;> (try simp only [zA, zE, zD, zJ, zB, zI, Int.not_le, Int.not_lt] at hq)) | (with_reducible first | refine Fits.in64 (by omega) ?_ | refine FIdx.nat (by omega) ?_ | refine FIdx.int (by omega) ?_ | refine FTo.nat (by omega) ?_ | refine FTo.int (by omega) ?_) | ((with_reducible refine Need.mk ?_ ?_); focus exact needA) | (with_reducible refine FApp.grow ?_)))
          (try (conv => whnf))
        · (exact ⟨⟨(0 + 1), hlt, by show _ < _; omega, [0, 1, 2, 3], (by (refine Cut.of (Nat.le_of_ble_eq_true rfl) rfl rfl ?_; repeat (first | exact CutL.done | (refine CutL.turned rfl (by first | exact LnB.rowS | exact LnB.rowL (Nat.le_refl _) (fun k hk o ho => cpApp (fun k hk => absurd hk (Nat.not_lt_zero k)) (cpR0 hR) hk ho) | exact LnB.A) ?_) | (refine CutL.gone (Nat.lt_of_lt_of_le (Nat.lt_succ_self _) (Nat.le_of_ble_eq_true rfl)) ?_)))), allA⟩⟩)
        · (exact ⟨⟨(0 + 1), hlt, by show _ < _; omega, [0, 1, 2, 4], (by (refine Cut.of (Nat.le_of_ble_eq_true rfl) rfl rfl ?_; repeat (first | exact CutL.done | (refine CutL.turned rfl (by first | exact LnB.rowS | exact LnB.rowL (Nat.le_refl _) (fun k hk o ho => cpApp (fun k hk => absurd hk (Nat.not_lt_zero k)) (cpR1 hR (fun k hk => by simp [appc])) hk ho) | exact LnB.A) ?_) | (refine CutL.gone (Nat.lt_of_lt_of_le (Nat.lt_succ_self _) (Nat.le_of_ble_eq_true rfl)) ?_)))), allA⟩⟩)
      · (repeat' ((try (conv => whnf)); first | (with_reducible first | refine FCond.tA ?_ | refine FCond.fA ?_) | ((with_reducible refine FCond.i (fun hq => ?_) (fun hq => ?_)) <;> (try simp only [zA, zE, zD, zJ, zB, zI, Int.not_le, Int.not_lt] at hq)) | (with_reducible first | refine Fits.in64 (by omega) ?_ | refine FIdx.nat (by omega) ?_ | refine FIdx.int (by omega) ?_ | refine FTo.nat (by omega) ?_ | refine FTo.int (by omega) ?_) | ((with_reducible refine Need.mk ?_ ?_); focus exact needA) | (with_reducible refine FApp.grow ?_)))
        (try (conv => whnf))
        rcases hR : ((Pool.mk folk needs ill most).needs.getD (i + 1) []).length with _ | R
        all_goals
          (repeat' ((try (conv => whnf)); first | (with_reducible first | refine FCond.tA ?_ | refine FCond.fA ?_) | ((with_reducible refine FCond.i (fun hq => ?_) (fun hq => ?_)) <;> (try simp only [zA, zE, zD, zJ, zB, zI, Int.not_le, Int.not_lt] at hq)) | (with_reducible first | refine Fits.in64 (by omega) ?_ | refine FIdx.nat (by omega) ?_ | refine FIdx.int (by omega) ?_ | refine FTo.nat (by omega) ?_ | refine FTo.int (by omega) ?_) | ((with_reducible refine Need.mk ?_ ?_); focus exact needA) | (with_reducible refine FApp.grow ?_)))
          (try (conv => whnf))
        · (exact ⟨⟨((i + 1) + 1), hlt, by show _ < _; omega, [0, 1, 2, 4], (by (refine Cut.of (Nat.le_of_ble_eq_true rfl) rfl rfl ?_; repeat (first | exact CutL.done | (refine CutL.turned rfl (by first | exact LnB.rowS | exact LnB.rowL (Nat.le_refl _) (fun k hk o ho => cpApp (fun _ _ => rfl) (cpR0 hR) hk ho) | exact LnB.A) ?_) | (refine CutL.gone (Nat.lt_of_lt_of_le (Nat.lt_succ_self _) (Nat.le_of_ble_eq_true rfl)) ?_)))), allA⟩⟩)
        · (exact ⟨⟨((i + 1) + 1), hlt, by show _ < _; omega, [0, 1, 2, 5], (by (refine Cut.of (Nat.le_of_ble_eq_true rfl) rfl rfl ?_; repeat (first | exact CutL.done | (refine CutL.turned rfl (by first | exact LnB.rowS | exact LnB.rowL (Nat.le_refl _) (fun k hk o ho => cpApp (fun _ _ => rfl) (cpR1 hR (fun k hk => by simp [appc])) hk ho) | exact LnB.A) ?_) | (refine CutL.gone (Nat.lt_of_lt_of_le (Nat.lt_succ_self _) (Nat.le_of_ble_eq_true rfl)) ?_)))), allA⟩⟩)
    · obtain rfl : i = needs.length := by omega
      rcases hn : needs.length with _ | n
      · (repeat' ((try (conv => whnf)); first | (with_reducible first | refine FCond.tA ?_ | refine FCond.fA ?_) | ((with_reducible refine FCond.i (fun hq => ?_) (fun hq => ?_)) <;> (try simp only [zA, zE, zD, zJ, zB, zI, Int.not_le, Int.not_lt] at hq)) | (with_reducible first | refine Fits.in64 (by omega) ?_ | refine FIdx.nat (by omega) ?_ | refine FIdx.int (by omega) ?_ | refine FTo.nat (by omega) ?_ | refine FTo.int (by omega) ?_) | ((with_reducible refine Need.mk ?_ ?_); focus exact needA) | (with_reducible refine FApp.grow ?_)))
        (try (conv => whnf))
        exact ⟨⟨.agg 4 (ofL [cpFolk folk, .sl (decide (0 = 0)) (decide (0 = 0)) 0 1 (fun k _ => cpRow (needs.getD k [])), AI ill, AI most]), [], [], Cut.nil _, Ln.aggN ⟨⟨⟨⟨True.intro, Ln.A⟩, Ln.slz _ _ _ _ _ _ _ (fun h => h)⟩, Ln.A⟩, Ln.A⟩, by subst hgl; rfl, rfl⟩⟩
      · (repeat' ((try (conv => whnf)); first | (with_reducible first | refine FCond.tA ?_ | refine FCond.fA ?_) | ((with_reducible refine FCond.i (fun hq => ?_) (fun hq => ?_)) <;> (try simp only [zA, zE, zD, zJ, zB, zI, Int.not_le, Int.not_lt] at hq)) | (with_reducible first | refine Fits.in64 (by omega) ?_ | refine FIdx.nat (by omega) ?_ | refine FIdx.int (by omega) ?_ | refine FTo.nat (by omega) ?_ | refine FTo.int (by omega) ?_) | ((with_reducible refine Need.mk ?_ ?_); focus exact needA) | (with_reducible refine FApp.grow ?_)))
        (try (conv => whnf))
        exact ⟨⟨.agg 4 (ofL [cpFolk folk, .sl false false (n + 1) 1 (fun k _ => cpRow (needs.getD k [])), AI ill, AI most]), [], [], Cut.nil _, Ln.aggN ⟨⟨⟨⟨True.intro, Ln.A⟩, Ln.pubE (goneB rfl) rfl (Nat.le_refl _) rfl (fun _ _ _ _ => rfl)⟩, Ln.A⟩, Ln.A⟩, by subst hgl; rfl, rfl⟩⟩
  · refine FWk.of [(1, .ptr 0 0), (2, .ptr 1 0), (3, .ptr 2 0)] [.box 4 (cPool f ⟨(w0 :: ws), needs, ill, most⟩), .box 4 (ofL [nilS, nilS, AI 0, AI 0]), .box 4 (ofL [cpFolk (w0 :: ws), nilS, AI ill, AI most])] [0, 1, 2] (Cut.of (Nat.le_of_ble_eq_true rfl) rfl rfl (CutL.turned rfl (LnB.boxN ⟨⟨⟨⟨True.intro, Ln.sameB _ rfl⟩, Ln.sameB _ rfl⟩, Ln.A⟩, Ln.A⟩) (CutL.turned rfl (LnB.boxN ⟨⟨⟨⟨True.intro, Ln.sameB _ rfl⟩, Ln.sameB _ rfl⟩, Ln.A⟩, Ln.A⟩) (CutL.turned rfl (LnB.boxN ⟨⟨⟨⟨True.intro, Ln.pubD (Nat.succ_pos _) (goneB rfl) rfl (Nat.le_refl _) (Nat.zero_add _) (fun k hk o ho => by simp [appc])⟩, Ln.sameB _ rfl⟩, Ln.A⟩, Ln.A⟩) CutL.done)))) ⟨Ln.ptr _ _ _ rfl, Ln.ptr _ _ _ rfl, Ln.ptr _ _ _ rfl, True.intro⟩ ?_
    clear n1'
    generalize hgl : (w0 :: ws : List Folk) = folk
    (repeat' ((try (conv => whnf)); first | (with_reducible first | refine FCond.tA ?_ | refine FCond.fA ?_) | ((with_reducible refine FCond.i (fun hq => ?_) (fun hq => ?_)) <;> (try simp only [zA, zE, zD, zJ, zB, zI, Int.not_le, Int.not_lt] at hq)) | (with_reducible first | refine Fits.in64 (by omega) ?_ | refine FIdx.nat (by omega) ?_ | refine FIdx.int (by omega) ?_ | refine FTo.nat (by omega) ?_ | refine FTo.int (by omega) ?_) | ((with_reducible refine Need.mk ?_ ?_); focus exact needA) | (with_reducible refine FApp.grow ?_)))
    (try (conv => whnf))
    refine FLoop.of (ACalls.mono _) (X := Nat) (fun i => [(1, .ptr 0 0), (2, .ptr 1 0), (3, .ptr 2 0), (4, AI i)]) (fun i => match i with
      | 0 => [.box 4 (cPool f ⟨folk, needs, ill, most⟩), .box 4 (ofL [nilS, nilS, AI 0, AI 0]), .box 4 (ofL [cpFolk folk, nilS, AI ill, AI most])]
      | i + 1 => [.box 4 (cPool f ⟨folk, needs, ill, most⟩), .box 4 (ofL [nilS, nilS, AI 0, AI 0]), .box 4 (ofL [cpFolk folk, .own 3 (i + 1), AI ill, AI most]), rowR (i + 1) needs]) (fun i => i ≤ needs.length) (fun i => needs.length - i) 0 ⟨Nat.zero_le _, [0, 1, 2], Cut.A, allA⟩ ?_
    intro i hi
    by_cases hlt : i < needs.length
    · have q1 := n3 i hlt
      rcases i with _ | i
      · (repeat' ((try (conv => whnf)); first | (with_reducible first | refine FCond.tA ?_ | refine FCond.fA ?_) | ((with_reducible refine FCond.i (fun hq => ?_) (fun hq => ?_)) <;> (try simp only [zA, zE, zD, zJ, zB, zI, Int.not_le, Int.not_lt] at hq)) | (with_reducible first | refine Fits.in64 (by omega) ?_ | refine FIdx.nat (by omega) ?_ | refine FIdx.int (by omega) ?_ | refine FTo.nat (by omega) ?_ | refine FTo.int (by omega) ?_) | ((with_reducible refine Need.mk ?_ ?_); focus exact needA) | (with_reducible refine FApp.grow ?_)))
        (try (conv => whnf))
        rcases hR : ((Pool.mk folk needs ill most).needs.getD 0 []).length with _ | R
        all_goals
          (repeat' ((try (conv => whnf)); first | (with_reducible first | refine FCond.tA ?_ | refine FCond.fA ?_) | ((with_reducible refine FCond.i (fun hq => ?_) (fun hq => ?_)) <;> (try simp only [zA, zE, zD, zJ, zB, zI, Int.not_le, Int.not_lt] at hq)) | (with_reducible first | refine Fits.in64 (by omega) ?_ | refine FIdx.nat (by omega) ?_ | refine FIdx.int (by omega) ?_ | refine FTo.nat (by omega) ?_ | refine FTo.int (by omega) ?_) | ((with_reducible refine Need.mk ?_ ?_); focus exact needA) | (with_reducible refine FApp.grow ?_)))
          (try (conv => whnf))
        · (exact ⟨⟨(0 + 1), hlt, by show _ < _; omega, [0, 1, 2, 3], (by (refine Cut.of (Nat.le_of_ble_eq_true rfl) rfl rfl ?_; repeat (first | exact CutL.done | (refine CutL.turned rfl (by first | exact LnB.rowS | exact LnB.rowL (Nat.le_refl _) (fun k hk o ho => cpApp (fun k hk => absurd hk (Nat.not_lt_zero k)) (cpR0 hR) hk ho) | exact LnB.A) ?_) | (refine CutL.gone (Nat.lt_of_lt_of_le (Nat.lt_succ_self _) (Nat.le_of_ble_eq_true rfl)) ?_)))), allA⟩⟩)
        · (exact ⟨⟨(0 + 1), hlt, by show _ < _; omega, [0, 1, 2, 4], (by (refine Cut.of (Nat.le_of_ble_eq_true rfl) rfl rfl ?_; repeat (first | exact CutL.done | (refine CutL.turned rfl (by first | exact LnB.rowS | exact LnB.rowL (Nat.le_refl _) (fun k hk o ho => cpApp (fun k hk => absurd hk (Nat.not_lt_zero k)) (cpR1 hR (fun k hk => by simp [appc])) hk ho) | exact LnB.A) ?_) | (refine CutL.gone (Nat.lt_of_lt_of_le (Nat.lt_succ_self _) (Nat.le_of_ble_eq_true rfl)) ?_)))), allA⟩⟩)
      · (repeat' ((try (conv => whnf)); first | (with_reducible first | refine FCond.tA ?_ | refine FCond.fA ?_) | ((with_reducible refine FCond.i (fun hq => ?_) (fun hq => ?_)) <;> (try simp only [zA, zE, zD, zJ, zB, zI, Int.not_le, Int.not_lt] at hq)) | (with_reducible first | refine Fits.in64 (by omega) ?_ | refine FIdx.nat (by omega) ?_ | refine FIdx.int (by omega) ?_ | refine FTo.nat (by omega) ?_ | refine FTo.int (by omega) ?_) | ((with_reducible refine Need.mk ?_ ?_); focus exact needA) | (with_reducible refine FApp.grow ?_)))
        (try (conv => whnf))
        rcases hR : ((Pool.mk folk needs ill most).needs.getD (i + 1) []).length with _ | R
        all_goals
          (repeat' ((try (conv => whnf)); first | (with_reducible first | refine FCond.tA ?_ | refine FCond.fA ?_) | ((with_reducible refine FCond.i (fun hq => ?_) (fun hq => ?_)) <;> (try simp only [zA, zE, zD, zJ, zB, zI, Int.not_le, Int.not_lt] at hq)) | (with_reducible first | refine Fits.in64 (by omega) ?_ | refine FIdx.nat (by omega) ?_ | refine FIdx.int (by omega) ?_ | refine FTo.nat (by omega) ?_ | refine FTo.int (by omega) ?_) | ((with_reducible refine Need.mk ?_ ?_); focus exact needA) | (with_reducible refine FApp.grow ?_)))
          (try (conv => whnf))
        · (exact ⟨⟨((i + 1) + 1), hlt, by show _ < _; omega, [0, 1, 2, 4], (by (refine Cut.of (Nat.le_of_ble_eq_true rfl) rfl rfl ?_; repeat (first | exact CutL.done | (refine CutL.turned rfl (by first | exact LnB.rowS | exact LnB.rowL (Nat.le_refl _) (fun k hk o ho => cpApp (fun _ _ => rfl) (cpR0 hR) hk ho) | exact LnB.A) ?_) | (refine CutL.gone (Nat.lt_of_lt_of_le (Nat.lt_succ_self _) (Nat.le_of_ble_eq_true rfl)) ?_)))), allA⟩⟩)
        · (exact ⟨⟨((i + 1) + 1), hlt, by show _ < _; omega, [0, 1, 2, 5], (by (refine Cut.of (Nat.le_of_ble_eq_true rfl) rfl rfl ?_; repeat (first | exact CutL.done | (refine CutL.turned rfl (by first | exact LnB.rowS | exact LnB.rowL (Nat.le_refl _) (fun k hk o ho => cpApp (fun _ _ => rfl) (cpR1 hR (fun k hk => by simp [appc])) hk ho) | exact LnB.A) ?_) | (refine CutL.gone (Nat.lt_of_lt_of_le (Nat.lt_succ_self _) (Nat.le_of_ble_eq_true rfl)) ?_)))), allA⟩⟩)
    · obtain rfl : i = needs.length := by omega
      rcases hn : needs.length with _ | n
      · (repeat' ((try (conv => whnf)); first | (with_reducible first | refine FCond.tA ?_ | refine FCond.fA ?_) | ((with_reducible refine FCond.i (fun hq => ?_) (fun hq => ?_)) <;> (try simp only [zA, zE, zD, zJ, zB, zI, Int.not_le, Int.not_lt] at hq)) | (with_reducible first | refine Fits.in64 (by omega) ?_ | refine FIdx.nat (by omega) ?_ | refine FIdx.int (by omega) ?_ | refine FTo.nat (by omega) ?_ | refine FTo.int (by omega) ?_) | ((with_reducible refine Need.mk ?_ ?_); focus exact needA) | (with_reducible refine FApp.grow ?_)))
        (try (conv => whnf))
        exact ⟨⟨.agg 4 (ofL [cpFolk folk, .sl (decide (0 = 0)) (decide (0 = 0)) 0 1 (fun k _ => cpRow (needs.getD k [])), AI ill, AI most]), [], [], Cut.nil _, Ln.aggN ⟨⟨⟨⟨True.intro, Ln.A⟩, Ln.slz _ _ _ _ _ _ _ (fun h => h)⟩, Ln.A⟩, Ln.A⟩, by subst hgl; rfl, rfl⟩⟩
      · (repeat' ((try (conv => whnf)); first | (with_reducible first | refine FCond.tA ?_ | refine FCond.fA ?_) | ((with_reducible refine FCond.i (fun hq => ?_) (fun hq => ?_)) <;> (try simp only [zA, zE, zD, zJ, zB, zI, Int.not_le, Int.not_lt] at hq)) | (with_reducible first | refine Fits.in64 (by omega) ?_ | refine FIdx.nat (by omega) ?_ | refine FIdx.int (by omega) ?_ | refine FTo.nat (by omega) ?_ | refine FTo.int (by omega) ?_) | ((with_reducible refine Need.mk ?_ ?_); focus exact needA) | (with_reducible refine FApp.grow ?_)))
        (try (conv => whnf))
        exact ⟨⟨.agg 4 (ofL [cpFolk folk, .sl false false (n + 1) 1 (fun k _ => cpRow (needs.getD k [])), AI ill, AI most]), [], [], Cut.nil _, Ln.aggN ⟨⟨⟨⟨True.intro, Ln.A⟩, Ln.pubE (goneB rfl) rfl (Nat.le_refl _) rfl (fun _ _ _ _ => rfl)⟩, Ln.A⟩, Ln.A⟩, by subst hgl; rfl, rfl⟩⟩
/-- The copy, to be read only. -/
def flC (p : Pool) : PoF := ⟨false, decide (p.folk.length = 0), decide (p.needs.length = 0), decide (p.needs.length = 0), fun _ => false, fun i => decide ((p.needs.getD i []).length = 0)⟩
theorem copy_ok (f : PoF) (p : Pool) (hn : NearP p) : ACall Try.prog 13 [aPool f p] [] (fun r h => r = aPool (flC p) p ∧ h = []) := copy_own2 f p.folk p.needs p.ill p.most hn.f hn.n hn.r
end Go.Proofs.Ytbhjehpjjbbhbaa
