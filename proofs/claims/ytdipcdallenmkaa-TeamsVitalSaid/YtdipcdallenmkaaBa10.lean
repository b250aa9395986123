/- Teams: the program's Why. / Teams: the program's Chain. / Teams: the example, works. / Teams: the reference's Copy, in memory of its own. / Teams: the program's Vital. / Teams: the statements TeamsRules and TeamsTeam. / Plain facts on memory: slices that read as lists, worlds that extend other worlds / How the form's readings of data give cells: slices, ints / What a law's row asks behind the walk: the call returned true and the world only has more -/
import Derived.Test.YtdipcdallenmkaaBa9
import Derived.Test.YtdipcdallenmkaaBa7
import Derived.Test.YtdipcdallenmkaaBa8
import Derived.WalkKit
import Derived.WalkSpells
import Derived.WalkLawsBesides
import Derived.Deep.QuietTactic
import Derived.BigQuiet
import Derived.Lib.Hide
import Derived.Deep.Slices
import Derived.Lib.SmallJoins
import Derived.OpenShut
import Derived.WideKeyArgs
import Derived.Deep.OwnRows
import Derived.ProofKit
import Derived.JoinedOf
set_option linter.unusedSimpArgs false
set_option linter.unusedVariables false
namespace Go.Proofs.Ytdipcdallenmkaa
open Go.RowKit

/-- How many of the first teams do not keep just these rules. -/
noncomputable def cntT (c : Crew) (j : Job) : Nat → Nat → Nat
  | 0, _ => 0
  | t + 1, b => if b = brokenT c j (t + 1) then cntT c j t b + 1 else cntT c j t b
theorem cntT_le {c : Crew} {j : Job} {b : Nat} : ∀ t, cntT c j t b ≤ t
  | 0 => Nat.le_refl _
  | t + 1 => by
    have := cntT_le (c := c) (j := j) (b := b) t
    rw [cntT]; split <;> omega
theorem cntT_pos {c : Crew} {j : Job} {b : Nat} : ∀ t, 0 < cntT c j t b ↔ ∃ u, 1 ≤ u ∧ u ≤ t ∧ brokenT c j u = b
  | 0 => by simp only [cntT]; constructor; (· intro h; omega); (· rintro ⟨u, h1, h2, _⟩; omega)
  | t + 1 => by
    have ih := cntT_pos (c := c) (j := j) (b := b) t
    rw [cntT]
    split
    · rename_i h; exact ⟨fun _ => ⟨t + 1, by omega, by omega, h.symm⟩, fun _ => by omega⟩
    · rename_i h
      rw [ih]
      constructor
      · rintro ⟨u, h1, h2, h3⟩; exact ⟨u, h1, by omega, h3⟩
      · rintro ⟨u, h1, h2, h3⟩
        rcases Nat.eq_or_lt_of_le h2 with e | e
        · subst e; exact absurd h3.symm h
        · exact ⟨u, h1, by omega, h3⟩
/-- The search over all sets of rules: the best of the first ones. -/
noncomputable def whyP (c : Crew) (j : Job) (r : Nat) : Nat := (whyS c j r).getD 63
theorem kept_cnt {c : Crew} {j : Job} {r N : Nat} (hN : N + 1 = 2 ^ c.people.length) : keptT c j r = true ↔ ∃ b, b < 64 ∧ 0 < cntT c j N b ∧ r &&& b = 0 := by
  rw [kept_iff]
  constructor
  · rintro ⟨t, h1, h2, h3⟩
    exact ⟨brokenT c j t, broken_lt c j t, (cntT_pos N).2 ⟨t, h1, by omega, rfl⟩, by rw [Nat.and_comm]; exact h3⟩
  · rintro ⟨b, h1, h2, h3⟩
    obtain ⟨u, k1, k2, k3⟩ := (cntT_pos N).1 h2
    exact ⟨u, k1, by omega, by rw [k3, Nat.and_comm]; exact h3⟩
theorem pop63 : ∀ r, r < 63 → pop r < 6 := by
  have : ∀ r : _root_.Fin 63, pop r.val < 6 := by decide +kernel
  exact fun r h => this ⟨r, h⟩
theorem whyS_lt (c : Crew) (j : Job) (r b : Nat) (h : whyS c j r = some b) : b < r := by
  rcases why_spec c j r with ⟨h1, _⟩ | ⟨b2, h1, h2, _⟩
  · rw [h1] at h; cases h
  · rw [h1] at h; injection h with h; omega
theorem whyP_lt (c : Crew) (j : Job) (r : Nat) : whyP c j r < 64 ∨ whyP c j r < r := by
  unfold whyP
  cases h : whyS c j r with
  | none => left; decide
  | some b => right; exact whyS_lt c j r b h
theorem whyP_kept {c : Crew} {j : Job} {r : Nat} (h : keptT c j r = true) : whyP c j (r + 1) = whyP c j r := by
  unfold whyP; rw [whyS, h]; rfl
theorem whyP_yes {c : Crew} {j : Job} {r : Nat} (hr : r < 63) (h : keptT c j r = false) (k : pop r < pop (whyP c j r)) : whyP c j (r + 1) = r := by
  unfold whyP at *
  rw [whyS, h]
  cases hs : whyS c j r with
  | none => rfl
  | some b =>
    rw [hs] at k
    have k : pop r < pop b := k
    simp [k]
theorem whyP_no {c : Crew} {j : Job} {r : Nat} (hr : r < 63) (h : keptT c j r = false) (k : pop (whyP c j r) ≤ pop r) : whyP c j (r + 1) = whyP c j r := by
  unfold whyP at *
  rw [whyS, h]
  cases hs : whyS c j r with
  | none =>
    rw [hs] at k
    have := pop63 r hr
    have k : pop 63 ≤ pop r := k
    have : pop 63 = 6 := by decide
    omega
  | some b =>
    rw [hs] at k
    have k : pop b ≤ pop r := k
    simp [show ¬ pop r < pop b by omega]
theorem whyE_p {c : Crew} {j : Job} (h0 : checkT c j = 0) (h : keptT c j 63 = false) : whyE c j = ((whyP c j 63 : Int), 0) := by
  unfold whyE whyP
  rw [if_pos h0, whyS, h]
  cases hs : whyS c j 63 with
  | none => rfl
  | some b =>
    have hb := whyS_lt c j 63 b hs
    have := pop63 b hb
    have : pop 63 = 6 := by decide
    simp [show ¬ pop 63 < pop b by omega]
set_option maxHeartbeats 4000000
set_option maxRecDepth 100000
theorem pwhy_n (f : CFl) (c : Crew) (j : Job) (h0 : checkT c j ≠ 0) : ACall Try.prog 15 [aCrew f c, aJob j] [] (fun r h => r = .tup 2 (ofL [AI (whyE c j).1, AI (whyE c j).2]) ∧ h = []) := by
  (refine fcall_of mixed Try.func15 rfl (by decide) (hs := {}) ?k (ac := ?ac) ?c (rs := ?rs) ?r ?l ?H; (case k => kernel_rfl); (case c => (conv => (lhs; cbv))); (case r => (conv => (lhs; cbv))); (case l => exact Nat.le_of_ble_eq_true rfl))
  (repeat' ((try (conv => whnf)); first | (with_reducible first | refine FCond.tA ?_ | refine FCond.fA ?_) | ((with_reducible refine FCond.i (fun hq => ?_) (fun hq => ?_)) <;> (try simp only [zA, zE, zD, zJ, zB, zI, Int.not_le, Int.not_lt] at hq)) | (with_reducible first | refine Fits.in64 (by omega) ?_ | refine FIdx.nat (by omega) ?_ | refine FIdx.int (by omega) ?_ | refine FTo.nat (by omega) ?_ | refine FTo.int (by omega) ?_) | ((with_reducible refine Need.mk ?_ ?_); focus exact needA) | (with_reducible refine FApp.grow ?_) | (refine FCall.pure ((open_n _ _ _ h0)) ⟨Ln.sameB _ rfl, Ln.sameB _ rfl, True.intro⟩ rfl ?_)))
  all_goals (try (conv => whnf))
  (refine ⟨⟨_, [], [], Cut.nil _, Ln.sameB _ rfl, ?_, rfl⟩⟩)
  unfold whyE; rw [if_neg h0]; rfl
theorem pwhy_y (f : CFl) (c : Crew) (j : Job) (h0 : checkT c j = 0) : ACall Try.prog 15 [aCrew f c, aJob j] [] (fun r h => r = .tup 2 (ofL [AI (whyE c j).1, AI (whyE c j).2]) ∧ h = []) := by
  obtain ⟨hc, hj⟩ := checkT_0.1 h0
  obtain ⟨d1, d2, d3, d4, d5⟩ := crew_d hc
  have hp := pow_le d2
  have hpp : 0 < 2 ^ c.people.length := Nat.two_pow_pos _
  obtain ⟨N, hN⟩ : ∃ N, N + 1 = 2 ^ c.people.length := ⟨2 ^ c.people.length - 1, by omega⟩
  (refine fcall_of mixed Try.func15 rfl (by decide) (hs := {}) ?k (ac := ?ac) ?c (rs := ?rs) ?r ?l ?H; (case k => kernel_rfl); (case c => (conv => (lhs; cbv))); (case r => (conv => (lhs; cbv))); (case l => exact Nat.le_of_ble_eq_true rfl))
  (repeat' ((try (conv => whnf)); first | (with_reducible first | refine FCond.tA ?_ | refine FCond.fA ?_) | ((with_reducible refine FCond.i (fun hq => ?_) (fun hq => ?_)) <;> (try simp only [zA, zE, zD, zJ, zB, zI, Int.not_le, Int.not_lt] at hq)) | (with_reducible first | refine Fits.in64 (by omega) ?_ | refine FIdx.nat (by omega) ?_ | refine FIdx.int (by omega) ?_ | refine FTo.nat (by omega) ?_ | refine FTo.int (by omega) ?_) | ((with_reducible refine Need.mk ?_ ?_); focus exact needA) | (with_reducible first | refine FBit.hasT rfl (by assumption) ?_ | refine FBit.hasF rfl (by assumption) ?_ | refine FBit.shrN rfl (by omega) ?_ | refine FBit.half rfl ?_ | refine FBit.shl1 rfl (by omega) ?_ | refine Fits.inU (by omega) ?_ | refine FBit.shrNI rfl (by omega) ?_ | refine FBit.shrIN rfl (by omega) (by omega) ?_ | refine FBit.shrI rfl (by omega) (by omega) ?_ | refine FBit.shl1I rfl (by omega) ?_) | (with_reducible refine FBit.has rfl (fun hq => ?_) (fun hq => ?_)) | (with_reducible first | refine FBit.and1 rfl ?_ | refine FBit.andN rfl (by omega) (by omega) ?_ | refine FBit.orN rfl (by omega) (by omega) ?_ | refine FBit.andNotN rfl (by omega) (by omega) ?_) | (with_reducible refine FApp.grow ?_) | (refine FCall.pure ((open_y _ _ _ h0)) ⟨Ln.sameB _ rfl, Ln.sameB _ rfl, True.intro⟩ rfl ?_)))
  all_goals (try (conv => whnf))
  refine FRange.ofM (ACalls.mono _) (X := Nat) N (fun k => [AU (k + 1)]) (fun y => [(6, .ptr 0 0), (8, .rp 1 1 0 0), (24, mTeams f c j)]) (fun y => [.box 1 (ofL [pTask f c j (lawOf c j)]), .row 64 1 (fun k _ => AI (cntT c j y k))])
    (fun k y => k = y) 0 ⟨rfl, [2, 3], Cut.of (Nat.le_of_ble_eq_true rfl) rfl rfl (CutL.turned rfl LnB.A (CutL.turned rfl (LnB.rowE (Nat.le_refl _) (fun _ _ _ _ => rfl)) CutL.done)), allA⟩ rfl rfl (teams_it f c j (lawOf c j) _ N rfl d2 hN) (fun _ _ => rfl) ?round ?done
  case round =>
    rintro k y hk rfl
    have hb := broken_lt c j (k + 1)
    have hle := cntT_le (c := c) (j := j) (b := brokenT c j (k + 1)) k
    have cntR : ∀ b o : Nat, AI (cntT c j (k + 1) b) = updRm (fun k1 x => AI (cntT c j k k1)) (brokenT c j (k + 1)) (fun _ => AI ((cntT c j k (brokenT c j (k + 1)) : Int) + 1)) b o := fun b o => by
      simp only [updRm, cntT]
      by_cases h : b = brokenT c j (k + 1)
      · subst h; rw [if_pos rfl, if_pos rfl]; exact int_eq (by omega)
      · rw [if_neg h, if_neg h]

    (repeat' ((try (conv => whnf)); first | (with_reducible first | refine FCond.tA ?_ | refine FCond.fA ?_) | ((with_reducible refine FCond.i (fun hq => ?_) (fun hq => ?_)) <;> (try simp only [zA, zE, zD, zJ, zB, zI, Int.not_le, Int.not_lt] at hq)) | (with_reducible first | refine Fits.in64 (by omega) ?_ | refine FIdx.nat (by omega) ?_ | refine FIdx.int (by omega) ?_ | refine FTo.nat (by omega) ?_ | refine FTo.int (by omega) ?_) | ((with_reducible refine Need.mk ?_ ?_); focus exact needA) | (with_reducible first | refine FBit.hasT rfl (by assumption) ?_ | refine FBit.hasF rfl (by assumption) ?_ | refine FBit.shrN rfl (by omega) ?_ | refine FBit.half rfl ?_ | refine FBit.shl1 rfl (by omega) ?_ | refine Fits.inU (by omega) ?_ | refine FBit.shrNI rfl (by omega) ?_ | refine FBit.shrIN rfl (by omega) (by omega) ?_ | refine FBit.shrI rfl (by omega) (by omega) ?_ | refine FBit.shl1I rfl (by omega) ?_) | (with_reducible refine FBit.has rfl (fun hq => ?_) (fun hq => ?_)) | (with_reducible first | refine FBit.and1 rfl ?_ | refine FBit.andN rfl (by omega) (by omega) ?_ | refine FBit.orN rfl (by omega) (by omega) ?_ | refine FBit.andNotN rfl (by omega) (by omega) ?_) | (with_reducible refine FApp.grow ?_) | (refine FCall.pure ((pbroken_ok _ _ _ _ hc hj (by omega))) ⟨Ln.sameB _ rfl, Ln.sameB _ rfl, True.intro⟩ rfl ?_)))
    all_goals (try (conv => whnf))
    (exact ⟨⟨(k + 1), rfl, [0, 1], (by (refine Cut.of (Nat.le_of_ble_eq_true rfl) rfl rfl ?_; repeat (first | exact CutL.done | (refine CutL.turned rfl (by first | exact LnB.rowS | exact LnB.rowE (Nat.le_refl _) (fun b hb o ho => cntR b o) | exact LnB.A) ?_) | (refine CutL.gone (Nat.lt_of_lt_of_le (Nat.lt_succ_self _) (Nat.le_of_ble_eq_true rfl)) ?_)))), allA⟩⟩)
  case done =>
    rintro y rfl
    have hc0 := cntT_pos (c := c) (j := j) (b := 0) N
    (repeat' ((try (conv => whnf)); first | (with_reducible first | refine FCond.tA ?_ | refine FCond.fA ?_) | ((with_reducible refine FCond.i (fun hq => ?_) (fun hq => ?_)) <;> (try simp only [zA, zE, zD, zJ, zB, zI, Int.not_le, Int.not_lt] at hq)) | (with_reducible first | refine Fits.in64 (by omega) ?_ | refine FIdx.nat (by omega) ?_ | refine FIdx.int (by omega) ?_ | refine FTo.nat (by omega) ?_ | refine FTo.int (by omega) ?_) | ((with_reducible refine Need.mk ?_ ?_); focus exact needA) | (with_reducible first | refine FBit.hasT rfl (by assumption) ?_ | refine FBit.hasF rfl (by assumption) ?_ | refine FBit.shrN rfl (by omega) ?_ | refine FBit.half rfl ?_ | refine FBit.shl1 rfl (by omega) ?_ | refine Fits.inU (by omega) ?_ | refine FBit.shrNI rfl (by omega) ?_ | refine FBit.shrIN rfl (by omega) (by omega) ?_ | refine FBit.shrI rfl (by omega) (by omega) ?_ | refine FBit.shl1I rfl (by omega) ?_) | (with_reducible refine FBit.has rfl (fun hq => ?_) (fun hq => ?_)) | (with_reducible first | refine FBit.and1 rfl ?_ | refine FBit.andN rfl (by omega) (by omega) ?_ | refine FBit.orN rfl (by omega) (by omega) ?_ | refine FBit.andNotN rfl (by omega) (by omega) ?_) | (with_reducible refine FApp.grow ?_)))
    all_goals (try (conv => whnf))
    all_goals rw [show (0 : Int).toNat = 0 from rfl] at hq
    · (refine ⟨⟨_, [], [], Cut.nil _, Ln.sameB _ rfl, ?_, rfl⟩⟩)
      have hk : ∀ r, keptT c j r = true := fun r => (kept_cnt hN).2 ⟨0, by decide, by omega, Nat.and_zero r⟩
      have hw : ∀ r, whyS c j r = none := fun r => by
        induction r with
        | zero => rfl
        | succ r ih => rw [whyS, hk r, ih]; rfl
      unfold whyE; rw [if_pos h0, hw]; rfl
    · have hk63 : keptT c j 63 = false := Bool.eq_false_iff.2 fun h => by
        obtain ⟨b, h1, h2, h3⟩ := (kept_cnt hN).1 h
        have hb0 : b = 0 := by
          have e : 63 &&& b = b % 2 ^ 6 := by rw [Nat.and_comm]; exact Nat.and_two_pow_sub_one_eq_mod b 6
          rw [e] at h3; omega
        subst hb0
        omega
      have hE : whyE c j = ((whyP c j 63 : Int), 0) := whyE_p h0 hk63
      rw [hE]
      refine FLoop.of (ACalls.mono _) (X := Nat) (fun r => [(8, .rp 0 1 0 0), (10, AU (whyP c j r)), (36, AU 63), (37, AU r)]) (fun _ => [.row 64 1 (fun k _ => AI (cntT c j N k))]) (fun r => r ≤ 63) (fun r => 63 - r) 0 ⟨Nat.zero_le _, [1], Cut.A, allA⟩ ?_
      intro r hr
      have hpl := whyP_lt c j r
      by_cases hlt : r < 63
      · (repeat' ((try (conv => whnf)); first | (with_reducible first | refine FCond.tA ?_ | refine FCond.fA ?_) | ((with_reducible refine FCond.i (fun hq => ?_) (fun hq => ?_)) <;> (try simp only [zA, zE, zD, zJ, zB, zI, Int.not_le, Int.not_lt] at hq)) | (with_reducible first | refine Fits.in64 (by omega) ?_ | refine FIdx.nat (by omega) ?_ | refine FIdx.int (by omega) ?_ | refine FTo.nat (by omega) ?_ | refine FTo.int (by omega) ?_) | ((with_reducible refine Need.mk ?_ ?_); focus exact needA) | (with_reducible first | refine FBit.hasT rfl (by assumption) ?_ | refine FBit.hasF rfl (by assumption) ?_ | refine FBit.shrN rfl (by omega) ?_ | refine FBit.half rfl ?_ | refine FBit.shl1 rfl (by omega) ?_ | refine Fits.inU (by omega) ?_ | refine FBit.shrNI rfl (by omega) ?_ | refine FBit.shrIN rfl (by omega) (by omega) ?_ | refine FBit.shrI rfl (by omega) (by omega) ?_ | refine FBit.shl1I rfl (by omega) ?_) | (with_reducible refine FBit.has rfl (fun hq => ?_) (fun hq => ?_)) | (with_reducible first | refine FBit.and1 rfl ?_ | refine FBit.andN rfl (by omega) (by omega) ?_ | refine FBit.orN rfl (by omega) (by omega) ?_ | refine FBit.andNotN rfl (by omega) (by omega) ?_) | (with_reducible refine FApp.grow ?_)))
        all_goals (try (conv => whnf))
        refine FLoop.of (ACalls.mono _) (X := Nat) (fun q => [(8, .rp 0 1 0 0), (10, AU (whyP c j r)), (11, AU r), (36, AU 63), (37, AU r), (40, .agg 64 (fun k => AI (cntT c j N k))), (41, AI q)]) (fun _ => [.row 64 1 (fun k _ => AI (cntT c j N k))]) (fun q => q ≤ 64 ∧ ∀ b, b < q → ¬ (0 < cntT c j N b ∧ r &&& b = 0)) (fun q => 64 - q) 0 ⟨⟨Nat.zero_le _, fun b hb => by omega⟩, [0], Cut.A, ?vals⟩ ?_
        case vals => exact ⟨Ln.A, Ln.A, Ln.A, Ln.A, Ln.A, Ln.agg _ _ _ (fun i hi => by rw [tab_get hi, Nat.zero_add]; exact Ln.A), Ln.A, True.intro⟩
        rintro q ⟨hq1, hno⟩
        by_cases hql : q < 64
        · (repeat' ((try (conv => whnf)); first | (with_reducible first | refine FCond.tA ?_ | refine FCond.fA ?_) | ((with_reducible refine FCond.i (fun hq => ?_) (fun hq => ?_)) <;> (try simp only [zA, zE, zD, zJ, zB, zI, Int.not_le, Int.not_lt] at hq)) | (with_reducible first | refine Fits.in64 (by omega) ?_ | refine FIdx.nat (by omega) ?_ | refine FIdx.int (by omega) ?_ | refine FTo.nat (by omega) ?_ | refine FTo.int (by omega) ?_) | ((with_reducible refine Need.mk ?_ ?_); focus exact needA) | (with_reducible first | refine FBit.hasT rfl (by assumption) ?_ | refine FBit.hasF rfl (by assumption) ?_ | refine FBit.shrN rfl (by omega) ?_ | refine FBit.half rfl ?_ | refine FBit.shl1 rfl (by omega) ?_ | refine Fits.inU (by omega) ?_ | refine FBit.shrNI rfl (by omega) ?_ | refine FBit.shrIN rfl (by omega) (by omega) ?_ | refine FBit.shrI rfl (by omega) (by omega) ?_ | refine FBit.shl1I rfl (by omega) ?_) | (with_reducible refine FBit.has rfl (fun hq => ?_) (fun hq => ?_)) | (with_reducible first | refine FBit.and1 rfl ?_ | refine FBit.andN rfl (by omega) (by omega) ?_ | refine FBit.orN rfl (by omega) (by omega) ?_ | refine FBit.andNotN rfl (by omega) (by omega) ?_) | (with_reducible refine FApp.grow ?_) | (refine FBit.andN rfl (by omega) (by omega) ?_)))
          all_goals (try (conv => whnf))
          all_goals simp only [Nat.mul_one] at *
          · have hwk := whyP_kept (c := c) (j := j) (r := r) ((kept_cnt hN).2 ⟨q, hql, by omega, by omega⟩)
            (exact ⟨⟨(r + 1), (show r + 1 ≤ 63 by omega), by show _ < _; omega, [0], Cut.A, allA⟩⟩)
          · (exact ⟨⟨(q + 1), ⟨hql, fun b hb => by by_cases e : b = q; (· subst e; omega); exact hno b (by omega)⟩, by show _ < _; omega, [0], Cut.A, allA⟩⟩)
          · (exact ⟨⟨(q + 1), ⟨hql, fun b hb => by by_cases e : b = q; (· subst e; omega); exact hno b (by omega)⟩, by show _ < _; omega, [0], Cut.A, allA⟩⟩)
        · obtain rfl : q = 64 := by omega
          have hkr : keptT c j r = false := Bool.eq_false_iff.2 fun h => by
            obtain ⟨b, h1, h2, h3⟩ := (kept_cnt hN).1 h
            exact hno b h1 ⟨h2, h3⟩
          (repeat' ((try (conv => whnf)); first | (with_reducible first | refine FCond.tA ?_ | refine FCond.fA ?_) | ((with_reducible refine FCond.i (fun hq => ?_) (fun hq => ?_)) <;> (try simp only [zA, zE, zD, zJ, zB, zI, Int.not_le, Int.not_lt] at hq)) | (with_reducible first | refine Fits.in64 (by omega) ?_ | refine FIdx.nat (by omega) ?_ | refine FIdx.int (by omega) ?_ | refine FTo.nat (by omega) ?_ | refine FTo.int (by omega) ?_) | ((with_reducible refine Need.mk ?_ ?_); focus exact needA) | (with_reducible first | refine FBit.hasT rfl (by assumption) ?_ | refine FBit.hasF rfl (by assumption) ?_ | refine FBit.shrN rfl (by omega) ?_ | refine FBit.half rfl ?_ | refine FBit.shl1 rfl (by omega) ?_ | refine Fits.inU (by omega) ?_ | refine FBit.shrNI rfl (by omega) ?_ | refine FBit.shrIN rfl (by omega) (by omega) ?_ | refine FBit.shrI rfl (by omega) (by omega) ?_ | refine FBit.shl1I rfl (by omega) ?_) | (with_reducible refine FBit.has rfl (fun hq => ?_) (fun hq => ?_)) | (with_reducible first | refine FBit.and1 rfl ?_ | refine FBit.andN rfl (by omega) (by omega) ?_ | refine FBit.orN rfl (by omega) (by omega) ?_ | refine FBit.andNotN rfl (by omega) (by omega) ?_) | (with_reducible refine FApp.grow ?_) | (refine FCall.pure ((psize_ok r (by omega))) ⟨Ln.sameB _ rfl, True.intro⟩ rfl ?_) | (refine FCall.pure ((psize_ok (whyP c j r) (by omega))) ⟨Ln.sameB _ rfl, True.intro⟩ rfl ?_)))
          all_goals (try (conv => whnf))
          · have hwk := whyP_yes (c := c) (j := j) (r := r) hlt hkr (by omega)
            (exact ⟨⟨(r + 1), (show r + 1 ≤ 63 by omega), by show _ < _; omega, [0], Cut.A, allA⟩⟩)
          · have hwk := whyP_no (c := c) (j := j) (r := r) hlt hkr (by omega)
            (exact ⟨⟨(r + 1), (show r + 1 ≤ 63 by omega), by show _ < _; omega, [0], Cut.A, allA⟩⟩)
      · obtain rfl : r = 63 := by omega
        (repeat' ((try (conv => whnf)); first | (with_reducible first | refine FCond.tA ?_ | refine FCond.fA ?_) | ((with_reducible refine FCond.i (fun hq => ?_) (fun hq => ?_)) <;> (try simp only [zA, zE, zD, zJ, zB, zI, Int.not_le, Int.not_lt] at hq)) | (with_reducible first | refine Fits.in64 (by omega) ?_ | refine FIdx.nat (by omega) ?_ | refine FIdx.int (by omega) ?_ | refine FTo.nat (by omega) ?_ | refine FTo.int (by omega) ?_) | ((with_reducible refine Need.mk ?_ ?_); focus exact needA) | (with_reducible first | refine FBit.hasT rfl (by assumption) ?_ | refine FBit.hasF rfl (by assumption) ?_ | refine FBit.shrN rfl (by omega) ?_ | refine FBit.half rfl ?_ | refine FBit.shl1 rfl (by omega) ?_ | refine Fits.inU (by omega) ?_ | refine FBit.shrNI rfl (by omega) ?_ | refine FBit.shrIN rfl (by omega) (by omega) ?_ | refine FBit.shrI rfl (by omega) (by omega) ?_ | refine FBit.shl1I rfl (by omega) ?_) | (with_reducible refine FBit.has rfl (fun hq => ?_) (fun hq => ?_)) | (with_reducible first | refine FBit.and1 rfl ?_ | refine FBit.andN rfl (by omega) (by omega) ?_ | refine FBit.orN rfl (by omega) (by omega) ?_ | refine FBit.andNotN rfl (by omega) (by omega) ?_) | (with_reducible refine FApp.grow ?_)))
        all_goals (try (conv => whnf))
        all_goals (refine ⟨⟨_, [], [], Cut.nil _, Ln.sameB _ rfl, ?_, rfl⟩⟩)
        all_goals rfl
theorem pwhy_ok (f : CFl) (c : Crew) (j : Job) : ACall Try.prog 15 [aCrew f c, aJob j] [] (fun r h => r = .tup 2 (ofL [AI (whyE c j).1, AI (whyE c j).2]) ∧ h = []) := by
  by_cases h0 : checkT c j = 0
  · exact pwhy_y f c j h0
  · exact pwhy_n f c j h0
end Go.Proofs.Ytdipcdallenmkaa

namespace Go.Proofs.Ytdipcdallenmkaa
open Go.RowKit

set_option maxHeartbeats 4000000
set_option maxRecDepth 100000
theorem pchain_n (f : CFl) (c : Crew) (j : Job) (m : Int) (h0 : checkT c j ≠ 0) : ACall Try.prog 21 [aCrew f c, aJob j, AI m] [] (fun r h => r = .tup 2 (ofL [outI (chainE c j m).1, AI (chainE c j m).2]) ∧ h = []) := by
  have ht := team_n f c j m h0
  have hne : checkTm c j m ≠ 0 := by rw [checkTm_c h0]; exact h0
  (refine fcall_of mixed Try.func21 rfl (by decide) (hs := {}) ?k (ac := ?ac) ?c (rs := ?rs) ?r ?l ?H; (case k => kernel_rfl); (case c => (conv => (lhs; cbv))); (case r => (conv => (lhs; cbv))); (case l => exact Nat.le_of_ble_eq_true rfl))
  (repeat' ((try (conv => whnf)); first | (with_reducible first | refine FCond.tA ?_ | refine FCond.fA ?_) | ((with_reducible refine FCond.i (fun hq => ?_) (fun hq => ?_)) <;> (try simp only [zA, zE, zD, zJ, zB, zI, Int.not_le, Int.not_lt] at hq)) | (with_reducible first | refine Fits.in64 (by omega) ?_ | refine FIdx.nat (by omega) ?_ | refine FIdx.int (by omega) ?_ | refine FTo.nat (by omega) ?_ | refine FTo.int (by omega) ?_) | ((with_reducible refine Need.mk ?_ ?_); focus exact needA) | (with_reducible refine FApp.grow ?_) | (refine FCall.pure (ht) ⟨Ln.sameB _ rfl, Ln.sameB _ rfl, Ln.sameB _ rfl, True.intro⟩ rfl ?_)))
  all_goals (try (conv => whnf))
  have hcE : chainE c j m = ([], checkTm c j m) := by unfold chainE; rw [if_neg hne]
  rw [hcE]
  exact ⟨⟨.tup 2 (ofL [outI [], AI (checkTm c j m)]), [], [], Cut.nil _, Ln.A, rfl, rfl⟩⟩
theorem pchain_y (f : CFl) (c : Crew) (j : Job) (m : Int) (h0 : checkT c j = 0) : ACall Try.prog 21 [aCrew f c, aJob j, AI m] [] (fun r h => r = .tup 2 (ofL [outI (chainE c j m).1, AI (chainE c j m).2]) ∧ h = []) := by
  have ht := team_y f c j m h0
  (refine fcall_of mixed Try.func21 rfl (by decide) (hs := {}) ?k (ac := ?ac) ?c (rs := ?rs) ?r ?l ?H; (case k => kernel_rfl); (case c => (conv => (lhs; cbv))); (case r => (conv => (lhs; cbv))); (case l => exact Nat.le_of_ble_eq_true rfl))
  (repeat' ((try (conv => whnf)); first | (with_reducible first | refine FCond.tA ?_ | refine FCond.fA ?_) | ((with_reducible refine FCond.i (fun hq => ?_) (fun hq => ?_)) <;> (try simp only [zA, zE, zD, zJ, zB, zI, Int.not_le, Int.not_lt] at hq)) | (with_reducible first | refine Fits.in64 (by omega) ?_ | refine FIdx.nat (by omega) ?_ | refine FIdx.int (by omega) ?_ | refine FTo.nat (by omega) ?_ | refine FTo.int (by omega) ?_) | ((with_reducible refine Need.mk ?_ ?_); focus exact needA) | (with_reducible refine FApp.grow ?_) | (refine FCall.pure (ht) ⟨Ln.sameB _ rfl, Ln.sameB _ rfl, Ln.sameB _ rfl, True.intro⟩ rfl ?_)))
  all_goals (try (conv => whnf))
  · have hcE : chainE c j m = ([], checkTm c j m) := by unfold chainE; rw [if_neg hq]
    rw [hcE]
    exact ⟨⟨.tup 2 (ofL [outI [], AI (checkTm c j m)]), [], [], Cut.nil _, Ln.A, rfl, rfl⟩⟩
  · obtain ⟨hc, hj, h0, h1⟩ := checkTm_0 hq
    obtain ⟨s, rfl⟩ : ∃ s : Nat, m = s := ⟨m.toNat, by omega⟩
    have hq0 := hq
    obtain ⟨d1, d2, d3, d4, d5⟩ := crew_d hc
    have hp := pow_le d2
    have hs : s < 256 := by omega
    clear hq h0 h1
    obtain ⟨j1, j2, j3, j4, j5, j6, j7⟩ := job_d hj
    obtain ⟨n, hn⟩ : ∃ n : Nat, c.langs = n := ⟨c.langs.toNat, by omega⟩
    have hnn : c.langs.toNat = n := by omega
    obtain ⟨a, ha⟩ : ∃ a : Nat, j.fr = a := ⟨j.fr.toNat, by omega⟩
    obtain ⟨b, hb⟩ : ∃ b : Nat, j.to = b := ⟨j.to.toNat, by omega⟩
    have haa : j.fr.toNat = a := by omega
    have hbb : j.to.toNat = b := by omega
    have hdl : ∀ {x : Nat}, (distL n (relT c s (lawOf c j).level) x).length = n := by simp [distL]
    have hdg : ∀ {x : Nat}, x < n → (distL n (relT c s (lawOf c j).level) b).getD x 0 = dist n (relT c s (lawOf c j).level) b x := fun h => getD_range h
    have hB : backT c j s = dist n (relT c s (lawOf c j).level) b := by unfold backT relOf; rw [hnn, hbb]
    have hga := hdg (x := a) (by omega)
    have hbl := hdl (x := b)
    have hfar := far_ok f c j (lawOf c j) s n b hc hn hb (by omega)
    (repeat' ((try (conv => whnf)); first | (with_reducible first | refine FCond.tA ?_ | refine FCond.fA ?_) | ((with_reducible refine FCond.i (fun hq => ?_) (fun hq => ?_)) <;> (try simp only [zA, zE, zD, zJ, zB, zI, Int.not_le, Int.not_lt] at hq)) | (with_reducible first | refine Fits.in64 (by omega) ?_ | refine FIdx.nat (by omega) ?_ | refine FIdx.int (by omega) ?_ | refine FTo.nat (by omega) ?_ | refine FTo.int (by omega) ?_) | ((with_reducible refine Need.mk ?_ ?_); focus exact needA) | (with_reducible first | refine FBit.hasT rfl (by assumption) ?_ | refine FBit.hasF rfl (by assumption) ?_ | refine FBit.shrN rfl (by omega) ?_ | refine FBit.half rfl ?_ | refine FBit.shl1 rfl (by omega) ?_ | refine Fits.inU (by omega) ?_ | refine FBit.shrNI rfl (by omega) ?_ | refine FBit.shrIN rfl (by omega) (by omega) ?_ | refine FBit.shrI rfl (by omega) (by omega) ?_ | refine FBit.shl1I rfl (by omega) ?_) | (with_reducible refine FBit.has rfl (fun hq => ?_) (fun hq => ?_)) | (with_reducible first | refine FBit.and1 rfl ?_ | refine FBit.andN rfl (by omega) (by omega) ?_ | refine FBit.orN rfl (by omega) (by omega) ?_ | refine FBit.andNotN rfl (by omega) (by omega) ?_) | (with_reducible refine FApp.grow ?_) | (refine FCall.pure (hfar) ⟨Ln.sameB _ rfl, Ln.sameB _ rfl, True.intro⟩ rfl ?_)))
    all_goals (try (conv => whnf))
    · have hneg : dist n (relT c s (lawOf c j).level) b a < 0 := by rw [← hga, ← haa]; exact hq
      have hcE : chainE c j s = ([], 3) := by unfold chainE; rw [if_pos hq0, if_pos (by rw [Int.toNat_natCast, hB, haa]; exact hneg)]
      rw [hcE]
      exact ⟨⟨.tup 2 (ofL [outI [], AI 3]), [], [], Cut.nil _, Ln.A, rfl, rfl⟩⟩
    · rw [haa, hga] at hq
      obtain ⟨k, hk⟩ : ∃ k : Nat, dist n (relT c s (lawOf c j).level) b a = k := ⟨(dist n (relT c s (lawOf c j).level) b a).toNat, by omega⟩
      have hjn : ∀ x y : Nat, x < n → y < n → ACall Try.prog 47 [pTask f c j (lawOf c j), AU s, AI x, AI y] [] (fun r h => r = .bool (relT c s (lawOf c j).level x y) ∧ h = []) := fun x y hx hy => joined_ok f c j (lawOf c j) s x y hc (by omega) (by omega)
      generalize hR : relT c s (lawOf c j).level = R at *
      have hRs : ∀ a b, R a b = R b a := fun a b => by rw [← hR]; exact rel_sym _ _ _ _ _
      have hcE : chainE c j s = ((a : Int) :: chainL n R (dist n R b) k a, 0) := by
        unfold chainE
        rw [if_pos hq0, if_neg (by rw [Int.toNat_natCast, hB, haa]; omega)]
        unfold chainT
        rw [Int.toNat_natCast, hB, haa, hk, hnn, ha]
        unfold relOf
        rw [hR]; rfl
      rw [hcE]
      generalize hW : (a : Int) :: chainL n R (dist n R b) k a = W
      have hkn := dist_lt (R := R) (a := b) (b := a) (n := n) (by omega)
      refine FLoop.of4 (ACalls.mono _) (fun (e k m : Nat) (l : List Int) => [(2, AI s), (4, .ptr 0 0), (8, pTask f c j (lawOf c j)), (10, aInts false false (distL n R b)), (11, match m with | 0 => aInts false true [(a : Int)] | m + 1 => .own 1 (m + 2)), (12, AI e)]) (fun e k m l => match m with
        | 0 => [.box 6 (cJob j)]
        | m + 1 => [.box 6 (cJob j), rowI (m + 2) l]) (fun e k m l => e < n ∧ dist n R b e = k ∧ m + 1 = l.length ∧ l ++ chainL n R (dist n R b) k e = W ∧ m + k < n ∧ (m = 0 → e = a ∧ l = [(a : Int)])) (fun e k m l => k) a k 0 [(a : Int)] ⟨⟨by omega, hk, rfl, hW, by omega, fun _ => ⟨rfl, rfl⟩⟩, [1], Cut.A, ?vals⟩ ?_
      case vals => exact ⟨Ln.A, Ln.A, Ln.A, Ln.A, Ln.sl _ _ _ _ _ _ _ (fun _ => rfl) (fun k hk o ho => by obtain rfl : k = 0 := (by omega); rw [← ha]; rfl), Ln.A, True.intro⟩
      rintro e k m l ⟨he, hke, hml, hl, hmk, hm0⟩
      have hge := hdg he
      by_cases hab : e = b
      · subst hab
        rw [dist_self] at hke
        obtain rfl : k = 0 := by omega
        rw [chainL, List.append_nil] at hl
        rcases m with _ | m
        · have := (hm0 rfl).1; omega
        · (repeat' ((try (conv => whnf)); first | (with_reducible first | refine FCond.tA ?_ | refine FCond.fA ?_) | ((with_reducible refine FCond.i (fun hq => ?_) (fun hq => ?_)) <;> (try simp only [zA, zE, zD, zJ, zB, zI, Int.not_le, Int.not_lt] at hq)) | (with_reducible first | refine Fits.in64 (by omega) ?_ | refine FIdx.nat (by omega) ?_ | refine FIdx.int (by omega) ?_ | refine FTo.nat (by omega) ?_ | refine FTo.int (by omega) ?_) | ((with_reducible refine Need.mk ?_ ?_); focus exact needA) | (with_reducible first | refine FBit.hasT rfl (by assumption) ?_ | refine FBit.hasF rfl (by assumption) ?_ | refine FBit.shrN rfl (by omega) ?_ | refine FBit.half rfl ?_ | refine FBit.shl1 rfl (by omega) ?_ | refine Fits.inU (by omega) ?_ | refine FBit.shrNI rfl (by omega) ?_ | refine FBit.shrIN rfl (by omega) (by omega) ?_ | refine FBit.shrI rfl (by omega) (by omega) ?_ | refine FBit.shl1I rfl (by omega) ?_) | (with_reducible refine FBit.has rfl (fun hq => ?_) (fun hq => ?_)) | (with_reducible first | refine FBit.and1 rfl ?_ | refine FBit.andN rfl (by omega) (by omega) ?_ | refine FBit.orN rfl (by omega) (by omega) ?_ | refine FBit.andNotN rfl (by omega) (by omega) ?_) | (with_reducible refine FApp.grow ?_)))
          all_goals (try (conv => whnf))
          rw [← hl]
          exact ⟨⟨.tup 2 (ofL [outI l, AI 0]), [], [], Cut.nil _, Ln.tupN ⟨⟨True.intro, Ln.out (goneB rfl) rfl (Nat.le_refl _) hml (fun _ _ _ _ => rfl)⟩, Ln.A⟩, rfl, rfl⟩⟩
      · obtain ⟨k, rfl⟩ : ∃ k', k = k' + 1 := ⟨k - 1, by
          have h0 : dist n R b e ≠ 0 := fun h => hab (dist_zero h).symm
          omega⟩
        rcases m with _ | m
        · obtain ⟨hea, hla⟩ := hm0 rfl
          subst hla
          (repeat' ((try (conv => whnf)); first | (with_reducible first | refine FCond.tA ?_ | refine FCond.fA ?_) | ((with_reducible refine FCond.i (fun hq => ?_) (fun hq => ?_)) <;> (try simp only [zA, zE, zD, zJ, zB, zI, Int.not_le, Int.not_lt] at hq)) | (with_reducible first | refine Fits.in64 (by omega) ?_ | refine FIdx.nat (by omega) ?_ | refine FIdx.int (by omega) ?_ | refine FTo.nat (by omega) ?_ | refine FTo.int (by omega) ?_) | ((with_reducible refine Need.mk ?_ ?_); focus exact needA) | (with_reducible first | refine FBit.hasT rfl (by assumption) ?_ | refine FBit.hasF rfl (by assumption) ?_ | refine FBit.shrN rfl (by omega) ?_ | refine FBit.half rfl ?_ | refine FBit.shl1 rfl (by omega) ?_ | refine Fits.inU (by omega) ?_ | refine FBit.shrNI rfl (by omega) ?_ | refine FBit.shrIN rfl (by omega) (by omega) ?_ | refine FBit.shrI rfl (by omega) (by omega) ?_ | refine FBit.shl1I rfl (by omega) ?_) | (with_reducible refine FBit.has rfl (fun hq => ?_) (fun hq => ?_)) | (with_reducible first | refine FBit.and1 rfl ?_ | refine FBit.andN rfl (by omega) (by omega) ?_ | refine FBit.orN rfl (by omega) (by omega) ?_ | refine FBit.andNotN rfl (by omega) (by omega) ?_) | (with_reducible refine FApp.grow ?_)))
          all_goals (try (conv => whnf))
          refine FLoop.of (ACalls.mono _) (X := Nat) (fun q => [(2, AI s), (4, .ptr 0 0), (8, pTask f c j (lawOf c j)), (10, aInts false false (distL n R b)), (11, aInts false true [(a : Int)]), (12, AI e), (44, aInts false false (distL n R b)), (45, AI n), (46, AI q)]) (fun _ => [.box 6 (cJob j)]) (fun q => q ≤ n ∧ ∀ x, x < q → ¬ (dist n R b x = dist n R b e - 1 ∧ R e x = true)) (fun q => n - q) 0 ⟨⟨Nat.zero_le _, fun x hx => by omega⟩, [0], Cut.A, allA⟩ ?_
          rintro q ⟨hq1, hno⟩
          by_cases hql : q < n
          · have hgq := hdg hql
            have hjc := hjn e q he hql
            (repeat' ((try (conv => whnf)); first | (with_reducible first | refine FCond.tA ?_ | refine FCond.fA ?_) | ((with_reducible refine FCond.i (fun hq => ?_) (fun hq => ?_)) <;> (try simp only [zA, zE, zD, zJ, zB, zI, Int.not_le, Int.not_lt] at hq)) | (with_reducible first | refine Fits.in64 (by omega) ?_ | refine FIdx.nat (by omega) ?_ | refine FIdx.int (by omega) ?_ | refine FTo.nat (by omega) ?_ | refine FTo.int (by omega) ?_) | ((with_reducible refine Need.mk ?_ ?_); focus exact needA) | (with_reducible first | refine FBit.hasT rfl (by assumption) ?_ | refine FBit.hasF rfl (by assumption) ?_ | refine FBit.shrN rfl (by omega) ?_ | refine FBit.half rfl ?_ | refine FBit.shl1 rfl (by omega) ?_ | refine Fits.inU (by omega) ?_ | refine FBit.shrNI rfl (by omega) ?_ | refine FBit.shrIN rfl (by omega) (by omega) ?_ | refine FBit.shrI rfl (by omega) (by omega) ?_ | refine FBit.shl1I rfl (by omega) ?_) | (with_reducible refine FBit.has rfl (fun hq => ?_) (fun hq => ?_)) | (with_reducible first | refine FBit.and1 rfl ?_ | refine FBit.andN rfl (by omega) (by omega) ?_ | refine FBit.orN rfl (by omega) (by omega) ?_ | refine FBit.andNotN rfl (by omega) (by omega) ?_) | (with_reducible refine FApp.grow ?_) | (refine FCall.pure (hjc) ⟨Ln.sameB _ rfl, Ln.sameB _ rfl, Ln.sameB _ rfl, Ln.sameB _ rfl, True.intro⟩ rfl ?_)))
            all_goals (try (conv => whnf))
            · have hyes : R e q = true := hq
              have hdq : dist n R b q = dist n R b e - 1 := by omega
              have hnx := nextT_eq (D := dist n R b) hql hno hdq hyes
              have hdk : dist n R b q = k := by omega
              have hl2 : [(a : Int)] ++ [(q : Int)] ++ chainL n R (dist n R b) k q = W := by rw [← hl, chainL, hnx, List.append_assoc]; rfl
              (exact ⟨⟨q, k, 1, ([(a : Int)] ++ [(q : Int)]), ⟨hql, hdk, rfl, hl2, by omega, fun h => by cases h⟩, by show k < k + 1; omega, [0, 1], (by (refine Cut.of (Nat.le_of_ble_eq_true rfl) rfl rfl ?_; repeat (first | exact CutL.done | (refine CutL.turned rfl (by first | exact LnB.rowS | exact LnB.app (fun k hk o ho => by obtain rfl : k = 0 := (by omega); rfl) (fun o ho => rfl) | exact LnB.A) ?_) | (refine CutL.gone (Nat.lt_of_lt_of_le (Nat.lt_succ_self _) (Nat.le_of_ble_eq_true rfl)) ?_)))), allA⟩⟩)
            · (exact ⟨⟨(q + 1), ⟨hql, fun x hx => by by_cases e' : x = q; (· subst e'; intro h; rw [hq] at h; cases h.2); exact hno x (by omega)⟩, by show _ < _; omega, [0], Cut.A, allA⟩⟩)
            · (exact ⟨⟨(q + 1), ⟨hql, fun x hx => by by_cases e' : x = q; (· subst e'; intro h; omega); exact hno x (by omega)⟩, by show _ < _; omega, [0], Cut.A, allA⟩⟩)
          · exfalso
            obtain ⟨x, hx1, hx2, hx3⟩ := next_ex (n := n) hRs (t := b) (a := e) (by omega)
            exact hno x (by omega) ⟨hx2, hx3⟩
        · (repeat' ((try (conv => whnf)); first | (with_reducible first | refine FCond.tA ?_ | refine FCond.fA ?_) | ((with_reducible refine FCond.i (fun hq => ?_) (fun hq => ?_)) <;> (try simp only [zA, zE, zD, zJ, zB, zI, Int.not_le, Int.not_lt] at hq)) | (with_reducible first | refine Fits.in64 (by omega) ?_ | refine FIdx.nat (by omega) ?_ | refine FIdx.int (by omega) ?_ | refine FTo.nat (by omega) ?_ | refine FTo.int (by omega) ?_) | ((with_reducible refine Need.mk ?_ ?_); focus exact needA) | (with_reducible first | refine FBit.hasT rfl (by assumption) ?_ | refine FBit.hasF rfl (by assumption) ?_ | refine FBit.shrN rfl (by omega) ?_ | refine FBit.half rfl ?_ | refine FBit.shl1 rfl (by omega) ?_ | refine Fits.inU (by omega) ?_ | refine FBit.shrNI rfl (by omega) ?_ | refine FBit.shrIN rfl (by omega) (by omega) ?_ | refine FBit.shrI rfl (by omega) (by omega) ?_ | refine FBit.shl1I rfl (by omega) ?_) | (with_reducible refine FBit.has rfl (fun hq => ?_) (fun hq => ?_)) | (with_reducible first | refine FBit.and1 rfl ?_ | refine FBit.andN rfl (by omega) (by omega) ?_ | refine FBit.orN rfl (by omega) (by omega) ?_ | refine FBit.andNotN rfl (by omega) (by omega) ?_) | (with_reducible refine FApp.grow ?_)))
          all_goals (try (conv => whnf))
          refine FLoop.of (ACalls.mono _) (X := Nat) (fun q => [(2, AI s), (4, .ptr 0 0), (8, pTask f c j (lawOf c j)), (10, aInts false false (distL n R b)), (11, .own 1 (m + 2)), (12, AI e), (44, aInts false false (distL n R b)), (45, AI n), (46, AI q)]) (fun _ => [.box 6 (cJob j), rowI (m + 2) l]) (fun q => q ≤ n ∧ ∀ x, x < q → ¬ (dist n R b x = dist n R b e - 1 ∧ R e x = true)) (fun q => n - q) 0 ⟨⟨Nat.zero_le _, fun x hx => by omega⟩, [0, 1], Cut.A, allA⟩ ?_
          rintro q ⟨hq1, hno⟩
          by_cases hql : q < n
          · have hgq := hdg hql
            have hjc := hjn e q he hql
            (repeat' ((try (conv => whnf)); first | (with_reducible first | refine FCond.tA ?_ | refine FCond.fA ?_) | ((with_reducible refine FCond.i (fun hq => ?_) (fun hq => ?_)) <;> (try simp only [zA, zE, zD, zJ, zB, zI, Int.not_le, Int.not_lt] at hq)) | (with_reducible first | refine Fits.in64 (by omega) ?_ | refine FIdx.nat (by omega) ?_ | refine FIdx.int (by omega) ?_ | refine FTo.nat (by omega) ?_ | refine FTo.int (by omega) ?_) | ((with_reducible refine Need.mk ?_ ?_); focus exact needA) | (with_reducible first | refine FBit.hasT rfl (by assumption) ?_ | refine FBit.hasF rfl (by assumption) ?_ | refine FBit.shrN rfl (by omega) ?_ | refine FBit.half rfl ?_ | refine FBit.shl1 rfl (by omega) ?_ | refine Fits.inU (by omega) ?_ | refine FBit.shrNI rfl (by omega) ?_ | refine FBit.shrIN rfl (by omega) (by omega) ?_ | refine FBit.shrI rfl (by omega) (by omega) ?_ | refine FBit.shl1I rfl (by omega) ?_) | (with_reducible refine FBit.has rfl (fun hq => ?_) (fun hq => ?_)) | (with_reducible first | refine FBit.and1 rfl ?_ | refine FBit.andN rfl (by omega) (by omega) ?_ | refine FBit.orN rfl (by omega) (by omega) ?_ | refine FBit.andNotN rfl (by omega) (by omega) ?_) | (with_reducible refine FApp.grow ?_) | (refine FCall.pure (hjc) ⟨Ln.sameB _ rfl, Ln.sameB _ rfl, Ln.sameB _ rfl, Ln.sameB _ rfl, True.intro⟩ rfl ?_)))
            all_goals (try (conv => whnf))
            · have hyes : R e q = true := hq
              have hdq : dist n R b q = dist n R b e - 1 := by omega
              have hnx := nextT_eq (D := dist n R b) hql hno hdq hyes
              have hdk : dist n R b q = k := by omega
              have hl2 : l ++ [(q : Int)] ++ chainL n R (dist n R b) k q = W := by rw [← hl, chainL, hnx, List.append_assoc]; rfl
              (exact ⟨⟨q, k, (m + 2), (l ++ [(q : Int)]), ⟨hql, hdk, by rw [List.length_append, ← hml]; rfl, hl2, by omega, fun h => by cases h⟩, by show k < k + 1; omega, [0, 2], (by (refine Cut.of (Nat.le_of_ble_eq_true rfl) rfl rfl ?_; repeat (first | exact CutL.done | (refine CutL.turned rfl (by first | exact LnB.rowS | exact LnB.app (fun k hk o ho => int_eq (by rw [getD_snoc, if_pos (by omega)])) (fun o ho => by show AI _ = AI _; exact int_eq (by rw [getD_snoc, if_neg (by omega), if_pos (by omega)])) | exact LnB.A) ?_) | (refine CutL.gone (Nat.lt_of_lt_of_le (Nat.lt_succ_self _) (Nat.le_of_ble_eq_true rfl)) ?_)))), allA⟩⟩)
            · (exact ⟨⟨(q + 1), ⟨hql, fun x hx => by by_cases e' : x = q; (· subst e'; intro h; rw [hq] at h; cases h.2); exact hno x (by omega)⟩, by show _ < _; omega, [0, 1], Cut.A, allA⟩⟩)
            · (exact ⟨⟨(q + 1), ⟨hql, fun x hx => by by_cases e' : x = q; (· subst e'; intro h; omega); exact hno x (by omega)⟩, by show _ < _; omega, [0, 1], Cut.A, allA⟩⟩)
          · exfalso
            obtain ⟨x, hx1, hx2, hx3⟩ := next_ex (n := n) hRs (t := b) (a := e) (by omega)
            exact hno x (by omega) ⟨hx2, hx3⟩
theorem pchain_ok (f : CFl) (c : Crew) (j : Job) (m : Int) : ACall Try.prog 21 [aCrew f c, aJob j, AI m] [] (fun r h => r = .tup 2 (ofL [outI (chainE c j m).1, AI (chainE c j m).2]) ∧ h = []) := by
  by_cases h0 : checkT c j = 0
  · exact pchain_y f c j m h0
  · exact pchain_n f c j m h0
end Go.Proofs.Ytdipcdallenmkaa

namespace Go.Proofs.Ytdipcdallenmkaa
open Go.RowKit

def exJ1 : Job := ⟨0, 2, 3, 0, 0, 1⟩
def exJs : List Job := [exJ0, exJ1, exJ2]
def exF : CFl := ⟨false, true, false, true, fun i => ⟨false, true, decide (i ≠ 2), true⟩⟩
abbrev exJv : AV := .sl false true 3 6 (fun k => cJob (exJs.getD k exJ0))
theorem LeV.ints {l : List Int} {c : Nat → Nat → AV} {n : Nat} (hn : n = l.length) (h : ∀ k, k < n → c k 0 = AI (l.getD k 0)) : LeV (.sl false true n 1 c) (aInts false true l) := by
  subst hn
  exact LeV.sl (fun h => h) (fun k hk o ho => by obtain rfl : o = 0 := (by omega); exact LeV.of (h k hk).symm)
theorem k3 {p : Nat → Prop} (h0 : p 0) (h1 : p 1) (h2 : p 2) : ∀ k, k < 3 → p k := fun k hk => by
  rcases (show k = 0 ∨ k = 1 ∨ k = 2 by omega) with rfl | rfl | rfl
  · exact h0
  · exact h1
  · exact h2
theorem k4 {p : Nat → Prop} (h0 : p 0) (h1 : p 1) (h2 : p 2) (h3 : p 3) : ∀ k, k < 4 → p k := fun k hk => by
  rcases (show k = 0 ∨ k = 1 ∨ k = 2 ∨ k = 3 by omega) with rfl | rfl | rfl | rfl
  · exact h0
  · exact h1
  · exact h2
  · exact h3
theorem k6 {p : Nat → Prop} (h0 : p 0) (h1 : p 1) (h2 : p 2) (h3 : p 3) (h4 : p 4) (h5 : p 5) : ∀ k, k < 6 → p k := fun k hk => by
  rcases (show k = 0 ∨ k = 1 ∨ k = 2 ∨ k = 3 ∨ k = 4 ∨ k = 5 by omega) with rfl | rfl | rfl | rfl | rfl | rfl
  · exact h0
  · exact h1
  · exact h2
  · exact h3
  · exact h4
  · exact h5
theorem LeV.i {a : AV} {n : Int} (h : a = AI n) : LeV a (AI n) := LeV.of h.symm
set_option maxHeartbeats 4000000
set_option maxRecDepth 100000
theorem example_ok : ACall Try.prog 37 [] [] (fun r h' => r = .tup 2 (ofL [aCrew exF exC, exJv]) ∧ h' = []) := by
  (refine fcall_of mixed Try.func37 rfl (by decide) (hs := {}) ?k (ac := ?ac) ?c (rs := ?rs) ?r ?l ?H; (case k => kernel_rfl); (case c => (conv => (lhs; cbv))); (case r => (conv => (lhs; cbv))); (case l => exact Nat.le_of_ble_eq_true rfl))
  (repeat' ((try (conv => whnf)); first | (with_reducible first | refine FCond.tA ?_ | refine FCond.fA ?_) | ((with_reducible refine FCond.i (fun hq => ?_) (fun hq => ?_)) <;> (try simp only [zA, zE, zD, zJ, zB, zI, Int.not_le, Int.not_lt] at hq)) | (with_reducible first | refine Fits.in64 (by omega) ?_ | refine FIdx.nat (by omega) ?_ | refine FIdx.int (by omega) ?_ | refine FTo.nat (by omega) ?_ | refine FTo.int (by omega) ?_) | ((with_reducible refine Need.mk ?_ ?_); focus exact needA) | (with_reducible refine FApp.grow ?_)))
  (try (conv => whnf))
  refine ⟨⟨.tup 2 (ofL [aCrew exF exC, exJv]), [], [], Cut.nil _, Ln.tupN ⟨⟨True.intro, Ln.aggN ⟨⟨⟨True.intro, Ln.A⟩, Ln.le _ _ True.intro (LeV.sl (fun h => h) ?pe)⟩, Ln.sl _ _ _ _ _ _ _ (fun h => h) ?la⟩⟩, Ln.sl _ _ _ _ _ _ _ (fun h => h) ?jo⟩, rfl, rfl⟩⟩
  case la => exact k4 (k3 rfl rfl rfl) (k3 rfl rfl rfl) (k3 rfl rfl rfl) (k3 rfl rfl rfl)
  case jo => exact k3 (k6 rfl rfl rfl rfl rfl rfl) (k6 rfl rfl rfl rfl rfl rfl) (k6 rfl rfl rfl rfl rfl rfl)
  case pe => exact k4 (k6 (LeV.ints rfl (k3 rfl rfl rfl)) (LeV.of rfl) (LeV.of rfl) (LeV.slz (fun h => h)) (LeV.of rfl) (LeV.of rfl)) (k6 (LeV.ints rfl (k3 rfl rfl rfl)) (LeV.of rfl) (LeV.of rfl) (LeV.slz (fun h => h)) (LeV.of rfl) (LeV.of rfl)) (k6 (LeV.ints rfl (k3 rfl rfl rfl)) (LeV.of rfl) (LeV.of rfl) (LeV.ints rfl (fun k hk => by obtain rfl : k = 0 := (by omega); rfl)) (LeV.of rfl) (LeV.of rfl)) (k6 (LeV.ints rfl (k3 rfl rfl rfl)) (LeV.of rfl) (LeV.of rfl) (LeV.slz (fun h => h)) (LeV.of rfl) (LeV.of rfl))
theorem ex_teamC : ACall Try.prog 12 [aCrew exF exC, aJob exJ0] [] (fun r h => r = .tup 3 (ofL [AI 3, AI 90, AI 0]) ∧ h = []) := by
  have := pteam_ok exF exC exJ0
  rwa [ex_team] at this
theorem ex_whyC : ACall Try.prog 15 [aCrew exF exC, aJob exJ2] [] (fun r h => r = .tup 2 (ofL [AI 33, AI 0]) ∧ h = []) := by
  have := pwhy_ok exF exC exJ2
  rwa [ex_whyE] at this
theorem ex_chainC : ACall Try.prog 21 [aCrew exF exC, aJob exJ0, AI 3] [] (fun r h => r = .tup 2 (ofL [outI [0, 1, 2], AI 0]) ∧ h = []) := by
  have := pchain_ok exF exC exJ0 3
  rwa [ex_chain] at this
theorem ex_sameC : ACall Try.prog 30 [aInts false false [0, 1, 2], aInts false true [0, 1, 2]] [] (fun r h => r = .bool true ∧ h = []) := sameInts_ok false false false true [0, 1, 2] [0, 1, 2] (by decide)
theorem Ln.lit3 {σ : Nat → Nat → Prop} {Bp : Nat → Prop} {H : List AB} {c : Nat → Nat → AV} {a b x : Int} (h0 : c 0 0 = AI a) (h1 : c 1 0 = AI b) (h2 : c 2 0 = AI x) : Ln σ Bp H (.sl false true 3 1 c) (aInts false true [a, b, x]) :=
  Ln.sl _ _ _ _ _ _ _ (fun h => h) fun k hk o ho => by
    obtain rfl : o = 0 := by omega
    rcases (show k = 0 ∨ k = 1 ∨ k = 2 by omega) with rfl | rfl | rfl
    · exact h0.symm
    · exact h1.symm
    · exact h2.symm
theorem works_ok : ACall Try.prog 11 [] [] (fun r h' => r = .bool true ∧ h' = []) := by
  (refine fcall_of mixed Try.func11 rfl (by decide) (hs := {}) ?k (ac := ?ac) ?c (rs := ?rs) ?r ?l ?H; (case k => kernel_rfl); (case c => (conv => (lhs; cbv))); (case r => (conv => (lhs; cbv))); (case l => exact Nat.le_of_ble_eq_true rfl))
  (repeat' ((try (conv => whnf)); first | (with_reducible first | refine FCond.tA ?_ | refine FCond.fA ?_) | ((with_reducible refine FCond.i (fun hq => ?_) (fun hq => ?_)) <;> (try simp only [zA, zE, zD, zJ, zB, zI, Int.not_le, Int.not_lt] at hq)) | (with_reducible first | refine Fits.in64 (by omega) ?_ | refine FIdx.nat (by omega) ?_ | refine FIdx.int (by omega) ?_ | refine FTo.nat (by omega) ?_ | refine FTo.int (by omega) ?_) | ((with_reducible refine Need.mk ?_ ?_); focus exact needA) | (with_reducible refine FApp.grow ?_) | (refine FCall.pure example_ok True.intro rfl ?_) | (refine FCall.pure (ex_teamC) ⟨Ln.sameB _ rfl, Ln.sameB _ rfl, True.intro⟩ rfl ?_) | (refine FCall.pure (ex_whyC) ⟨Ln.sameB _ rfl, Ln.sameB _ rfl, True.intro⟩ rfl ?_) | (refine FCall.pure (ex_chainC) ⟨Ln.sameB _ rfl, Ln.sameB _ rfl, Ln.sameB _ rfl, True.intro⟩ rfl ?_) | (refine FCall.pure ex_sameC ⟨Ln.sameB _ rfl, Ln.lit3 rfl rfl rfl, True.intro⟩ rfl ?_)))
  all_goals (try (conv => whnf))
  trace_state
  all_goals (refine ⟨⟨_, [], [], Cut.nil _, Ln.sameB _ rfl, ?_, rfl⟩⟩)
  all_goals rfl
end Go.Proofs.Ytdipcdallenmkaa

namespace Go.Proofs.Ytdipcdallenmkaa
open Go.RowKit

theorem Ln.slZ {σ : Nat → Nat → Prop} {Bp : Nat → Prop} {H : List AB} {n' sz : Nat} {c c' : Nat → Nat → AV} (h : n' = 0) : Ln σ Bp H (.sl false true 0 sz c) (.sl false (decide (n' = 0)) n' sz c') := by
  subst h
  exact Ln.sl _ _ _ _ _ _ _ (fun _ => rfl) (fun k hk => absurd hk (Nat.not_lt_zero k))
theorem Ln.pubD {σ : Nat → Nat → Prop} {Bp : Nat → Prop} {H : List AB} {d n n' N sz : Nat} {c c' : Nat → Nat → AV} (h0 : 0 < n') (h : Bp d) (hd : H[d]? = some (.row N sz c)) (hn : n ≤ N) (e : n = n') (hc : ∀ k, k < n → ∀ o, o < sz → c' k o = c k o) : Ln σ Bp H (.own d n) (.sl false (decide (n' = 0)) n' sz c') := by
  rw [decide_eq_false (by omega)]; exact Ln.pubE h hd hn e hc
theorem Ln.slN {σ : Nat → Nat → Prop} {Bp : Nat → Prop} {H : List AB} {z e : Bool} {n n' sz : Nat} {c : Nat → Nat → AV} (h : n' = n) : Ln σ Bp H (.sl z e n sz c) (.sl z e n' sz c) := h ▸ Ln.sameB _ rfl
def pfP (p : Person) : PFl := ⟨false, decide (p.levels.length = 0), false, decide (p.ties.length = 0)⟩
abbrev cPers (l : List Person) : Nat → Nat → AV := fun k => cPerson (pfP (l.getD k ps0)) (l.getD k ps0)
abbrev rowP (n : Nat) (l : List Person) : AB := .row n 6 (cPers l)
abbrev oPeople (d : Nat) (n : Nat) : AV := match n with
  | 0 => nilS
  | n + 1 => .own d (n + 1)
abbrev hPeople (n : Nat) (l : List Person) : List AB := match n with
  | 0 => []
  | n + 1 => [rowP (n + 1) l]
abbrev cpLaws (l : List LawT) : AV := aLaws false (decide (l.length = 0)) l
structure SmallC (c : Crew) : Prop where
  pl : c.people.length ≤ 1000
  wl : c.laws.length ≤ 1000
  ps : ∀ i, i < c.people.length → (c.people.getD i ps0).levels.length ≤ 1000 ∧ (c.people.getD i ps0).ties.length ≤ 1000
set_option maxHeartbeats 4000000
set_option maxRecDepth 100000
theorem copy_own3 (f : CFl) (langs : Int) (people : List Person) (laws : List LawT) (hs : SmallC ⟨langs, people, laws⟩) : ACall Try.prog 13 [aCrew f ⟨langs, people, laws⟩] [] (fun v h => v = .agg 3 (ofL [AI langs, oPeople 0 people.length, cpLaws laws]) ∧ h = hPeople people.length people) := by
  have s1 : people.length ≤ 1000 := hs.pl
  have s2 := hs.wl
  have s3 : ∀ i, i < people.length → (people.getD i ps0).levels.length ≤ 1000 ∧ (people.getD i ps0).ties.length ≤ 1000 := hs.ps
  clear hs
  (refine fcall_of mixed Try.func13 rfl (by decide) (hs := { pub := [2, 8], alt := [(1, ⟨[0, 1, 2, 3, 4], (.alt 5 [6] (.alt 7 [] (.alt 8 [] .leaf .leaf) .leaf) (.alt 7 [] (.alt 5 [6] (.alt 8 [] .leaf .leaf) .leaf) .leaf)), [(5, [1]), (7, [1, 4])]⟩)] }) ?k (ac := ?ac) ?c (rs := ?rs) ?r ?l ?H; (case k => kernel_rfl); (case c => (conv => (lhs; cbv))); (case r => (conv => (lhs; cbv))); (case l => exact Nat.le_of_ble_eq_true rfl))
  rcases laws with _ | ⟨w0, ws⟩
  all_goals
    (repeat' ((try (conv => whnf)); first | (with_reducible first | refine FCond.tA ?_ | refine FCond.fA ?_) | ((with_reducible refine FCond.i (fun hq => ?_) (fun hq => ?_)) <;> (try simp only [zA, zE, zD, zJ, zB, zI, Int.not_le, Int.not_lt] at hq)) | (with_reducible first | refine Fits.in64 (by omega) ?_ | refine FIdx.nat (by omega) ?_ | refine FIdx.int (by omega) ?_ | refine FTo.nat (by omega) ?_ | refine FTo.int (by omega) ?_) | ((with_reducible refine Need.mk ?_ ?_); focus exact needA) | (with_reducible refine FApp.grow ?_) | (refine FAlt.mk ?_ ?_)))
    all_goals (try (conv => whnf))
    all_goals first
      | refine FWk.of [(1, .ptr 0 0), (2, .ptr 1 0), (3, .ptr 2 0)] [.box 3 (cCrew f ⟨langs, people, []⟩), .box 3 (ofL [AI 0, nilS, nilS]), .box 3 (ofL [AI langs, nilS, cpLaws []])] [0, 1, 2] (Cut.of (Nat.le_of_ble_eq_true rfl) rfl rfl (CutL.turned rfl (LnB.boxN ⟨⟨⟨True.intro, Ln.sameB _ rfl⟩, Ln.sameB _ rfl⟩, Ln.sameB _ rfl⟩) (CutL.turned rfl (LnB.boxN ⟨⟨⟨True.intro, Ln.sameB _ rfl⟩, Ln.sameB _ rfl⟩, Ln.sameB _ rfl⟩) (CutL.turned rfl (LnB.boxN ⟨⟨⟨True.intro, Ln.sameB _ rfl⟩, Ln.sameB _ rfl⟩, Ln.slZ rfl⟩) CutL.done)))) ⟨Ln.ptr _ _ _ rfl, Ln.ptr _ _ _ rfl, Ln.ptr _ _ _ rfl, True.intro⟩ ?_
      | refine FWk.of [(1, .ptr 0 0), (2, .ptr 1 0), (3, .ptr 2 0)] [.box 3 (cCrew f ⟨langs, people, (w0 :: ws)⟩), .box 3 (ofL [AI 0, nilS, nilS]), .box 3 (ofL [AI langs, nilS, cpLaws (w0 :: ws)])] [0, 1, 3] (Cut.of (Nat.le_of_ble_eq_true rfl) rfl rfl (CutL.turned rfl (LnB.boxN ⟨⟨⟨True.intro, Ln.sameB _ rfl⟩, Ln.sameB _ rfl⟩, Ln.sameB _ rfl⟩) (CutL.turned rfl (LnB.boxN ⟨⟨⟨True.intro, Ln.sameB _ rfl⟩, Ln.sameB _ rfl⟩, Ln.sameB _ rfl⟩) (CutL.turned rfl (LnB.boxN ⟨⟨⟨True.intro, Ln.sameB _ rfl⟩, Ln.sameB _ rfl⟩, Ln.pubD (Nat.succ_pos _) (goneB rfl) rfl (Nat.le_refl _) (Nat.zero_add _) (fun k hk o ho => by simp [appc])⟩) CutL.done)))) ⟨Ln.ptr _ _ _ rfl, Ln.ptr _ _ _ rfl, Ln.ptr _ _ _ rfl, True.intro⟩ ?_
      | refine FWk.of [(1, .ptr 0 0), (2, .ptr 1 0), (3, .ptr 2 0)] [.box 3 (cCrew f ⟨langs, people, (w0 :: ws)⟩), .box 3 (ofL [AI 0, nilS, nilS]), .box 3 (ofL [AI langs, nilS, cpLaws (w0 :: ws)])] [0, 1, 2] (Cut.of (Nat.le_of_ble_eq_true rfl) rfl rfl (CutL.turned rfl (LnB.boxN ⟨⟨⟨True.intro, Ln.sameB _ rfl⟩, Ln.sameB _ rfl⟩, Ln.sameB _ rfl⟩) (CutL.turned rfl (LnB.boxN ⟨⟨⟨True.intro, Ln.sameB _ rfl⟩, Ln.sameB _ rfl⟩, Ln.sameB _ rfl⟩) (CutL.turned rfl (LnB.boxN ⟨⟨⟨True.intro, Ln.sameB _ rfl⟩, Ln.sameB _ rfl⟩, Ln.pubD (Nat.succ_pos _) (goneB rfl) rfl (Nat.le_refl _) (Nat.zero_add _) (fun k hk o ho => by simp [appc])⟩) CutL.done)))) ⟨Ln.ptr _ _ _ rfl, Ln.ptr _ _ _ rfl, Ln.ptr _ _ _ rfl, True.intro⟩ ?_
      | fail
  all_goals
    first | generalize hgl : (w0 :: ws : List LawT) = laws | generalize hgl : ([] : List LawT) = laws
    (repeat' ((try (conv => whnf)); first | (with_reducible first | refine FCond.tA ?_ | refine FCond.fA ?_) | ((with_reducible refine FCond.i (fun hq => ?_) (fun hq => ?_)) <;> (try simp only [zA, zE, zD, zJ, zB, zI, Int.not_le, Int.not_lt] at hq)) | (with_reducible first | refine Fits.in64 (by omega) ?_ | refine FIdx.nat (by omega) ?_ | refine FIdx.int (by omega) ?_ | refine FTo.nat (by omega) ?_ | refine FTo.int (by omega) ?_) | ((with_reducible refine Need.mk ?_ ?_); focus exact needA) | (with_reducible refine FApp.grow ?_)))
    (try (conv => whnf))
    refine FLoop.of (ACalls.mono _) (X := Nat) (fun i => [(1, .ptr 0 0), (2, .ptr 1 0), (3, .ptr 2 0), (4, AI i)]) (fun i => match i with
      | 0 => [.box 3 (cCrew f ⟨langs, people, laws⟩), .box 3 (ofL [AI 0, nilS, nilS]), .box 3 (ofL [AI langs, nilS, cpLaws laws])]
      | i + 1 => [.box 3 (cCrew f ⟨langs, people, laws⟩), .box 3 (ofL [AI 0, nilS, nilS]), .box 3 (ofL [AI langs, .own 3 (i + 1), cpLaws laws]), rowP (i + 1) people]) (fun i => i ≤ people.length) (fun i => people.length - i) 0 ⟨Nat.zero_le _, [0, 1, 2], Cut.A, allA⟩ ?_
    intro i hi
    by_cases hlt : i < people.length
    · obtain ⟨q1, q2⟩ := s3 i hlt
      rcases i with _ | i
      · (repeat' ((try (conv => whnf)); first | (with_reducible first | refine FCond.tA ?_ | refine FCond.fA ?_) | ((with_reducible refine FCond.i (fun hq => ?_) (fun hq => ?_)) <;> (try simp only [zA, zE, zD, zJ, zB, zI, Int.not_le, Int.not_lt] at hq)) | (with_reducible first | refine Fits.in64 (by omega) ?_ | refine FIdx.nat (by omega) ?_ | refine FIdx.int (by omega) ?_ | refine FTo.nat (by omega) ?_ | refine FTo.int (by omega) ?_) | ((with_reducible refine Need.mk ?_ ?_); focus exact needA) | (with_reducible refine FApp.grow ?_)))
        (try (conv => whnf))
        rcases hL : (people.getD 0 ps0).levels.length with _ | L
        all_goals
          (repeat' ((try (conv => whnf)); first | (with_reducible first | refine FCond.tA ?_ | refine FCond.fA ?_) | ((with_reducible refine FCond.i (fun hq => ?_) (fun hq => ?_)) <;> (try simp only [zA, zE, zD, zJ, zB, zI, Int.not_le, Int.not_lt] at hq)) | (with_reducible first | refine Fits.in64 (by omega) ?_ | refine FIdx.nat (by omega) ?_ | refine FIdx.int (by omega) ?_ | refine FTo.nat (by omega) ?_ | refine FTo.int (by omega) ?_) | ((with_reducible refine Need.mk ?_ ?_); focus exact needA) | (with_reducible refine FApp.grow ?_)))
          (try (conv => whnf))
          rcases hT : (people.getD 0 ps0).ties.length with _ | T
          all_goals
            (repeat' ((try (conv => whnf)); first | (with_reducible first | refine FCond.tA ?_ | refine FCond.fA ?_) | ((with_reducible refine FCond.i (fun hq => ?_) (fun hq => ?_)) <;> (try simp only [zA, zE, zD, zJ, zB, zI, Int.not_le, Int.not_lt] at hq)) | (with_reducible first | refine Fits.in64 (by omega) ?_ | refine FIdx.nat (by omega) ?_ | refine FIdx.int (by omega) ?_ | refine FTo.nat (by omega) ?_ | refine FTo.int (by omega) ?_) | ((with_reducible refine Need.mk ?_ ?_); focus exact needA) | (with_reducible refine FApp.grow ?_)))
            (try (conv => whnf))
            refine FWk.of [(1, .ptr 0 0), (2, .ptr 1 0), (3, .ptr 2 0), (4, AI (0 : Nat)), (5, .ptr 3 0)] [.box 3 (cCrew f ⟨langs, people, laws⟩), .box 3 (ofL [AI 0, nilS, nilS]), .box 3 (ofL [AI langs, nilS, cpLaws laws]), .box 6 (cPers people 0)] [0, 1, 2, 3] (Cut.of (Nat.le_of_ble_eq_true rfl) rfl rfl (CutL.turned rfl LnB.A (CutL.turned rfl LnB.A (CutL.turned rfl LnB.A (CutL.turned rfl (LnB.boxN ⟨⟨⟨⟨⟨⟨True.intro, by first | exact Ln.slZ (by assumption) | exact Ln.pubD (by omega) (goneB rfl) rfl (by omega) (by omega) (fun k hk o ho => by simp [appc]) | fail⟩, Ln.A⟩, Ln.A⟩, by first | exact Ln.slZ (by assumption) | exact Ln.pubD (by omega) (goneB rfl) rfl (by omega) (by omega) (fun k hk o ho => by simp [appc]) | fail⟩, Ln.A⟩, Ln.A⟩) CutL.done))))) ⟨Ln.A, Ln.A, Ln.A, Ln.A, Ln.A, True.intro⟩ ?_
            (repeat' ((try (conv => whnf)); first | (with_reducible first | refine FCond.tA ?_ | refine FCond.fA ?_) | ((with_reducible refine FCond.i (fun hq => ?_) (fun hq => ?_)) <;> (try simp only [zA, zE, zD, zJ, zB, zI, Int.not_le, Int.not_lt] at hq)) | (with_reducible first | refine Fits.in64 (by omega) ?_ | refine FIdx.nat (by omega) ?_ | refine FIdx.int (by omega) ?_ | refine FTo.nat (by omega) ?_ | refine FTo.int (by omega) ?_) | ((with_reducible refine Need.mk ?_ ?_); focus exact needA) | (with_reducible refine FApp.grow ?_)))
            (try (conv => whnf))
            (exact ⟨⟨1, hlt, by show _ < _; omega, [0, 1, 2, 4], (by (refine Cut.of (Nat.le_of_ble_eq_true rfl) rfl rfl ?_; repeat (first | exact CutL.done | (refine CutL.turned rfl (by first | exact LnB.rowS | exact LnB.app (fun k hk => absurd hk (Nat.not_lt_zero k)) (fun o ho => rfl) | exact LnB.A) ?_) | (refine CutL.gone (Nat.lt_of_lt_of_le (Nat.lt_succ_self _) (Nat.le_of_ble_eq_true rfl)) ?_)))), allA⟩⟩)
      · (repeat' ((try (conv => whnf)); first | (with_reducible first | refine FCond.tA ?_ | refine FCond.fA ?_) | ((with_reducible refine FCond.i (fun hq => ?_) (fun hq => ?_)) <;> (try simp only [zA, zE, zD, zJ, zB, zI, Int.not_le, Int.not_lt] at hq)) | (with_reducible first | refine Fits.in64 (by omega) ?_ | refine FIdx.nat (by omega) ?_ | refine FIdx.int (by omega) ?_ | refine FTo.nat (by omega) ?_ | refine FTo.int (by omega) ?_) | ((with_reducible refine Need.mk ?_ ?_); focus exact needA) | (with_reducible refine FApp.grow ?_)))
        (try (conv => whnf))
        rcases hL : (people.getD (i + 1) ps0).levels.length with _ | L
        all_goals
          (repeat' ((try (conv => whnf)); first | (with_reducible first | refine FCond.tA ?_ | refine FCond.fA ?_) | ((with_reducible refine FCond.i (fun hq => ?_) (fun hq => ?_)) <;> (try simp only [zA, zE, zD, zJ, zB, zI, Int.not_le, Int.not_lt] at hq)) | (with_reducible first | refine Fits.in64 (by omega) ?_ | refine FIdx.nat (by omega) ?_ | refine FIdx.int (by omega) ?_ | refine FTo.nat (by omega) ?_ | refine FTo.int (by omega) ?_) | ((with_reducible refine Need.mk ?_ ?_); focus exact needA) | (with_reducible refine FApp.grow ?_)))
          (try (conv => whnf))
          rcases hT : (people.getD (i + 1) ps0).ties.length with _ | T
          all_goals
            (repeat' ((try (conv => whnf)); first | (with_reducible first | refine FCond.tA ?_ | refine FCond.fA ?_) | ((with_reducible refine FCond.i (fun hq => ?_) (fun hq => ?_)) <;> (try simp only [zA, zE, zD, zJ, zB, zI, Int.not_le, Int.not_lt] at hq)) | (with_reducible first | refine Fits.in64 (by omega) ?_ | refine FIdx.nat (by omega) ?_ | refine FIdx.int (by omega) ?_ | refine FTo.nat (by omega) ?_ | refine FTo.int (by omega) ?_) | ((with_reducible refine Need.mk ?_ ?_); focus exact needA) | (with_reducible refine FApp.grow ?_)))
            (try (conv => whnf))
            refine FWk.of [(1, .ptr 0 0), (2, .ptr 1 0), (3, .ptr 2 0), (4, AI (i + 1 : Nat)), (5, .ptr 4 0)] [.box 3 (cCrew f ⟨langs, people, laws⟩), .box 3 (ofL [AI 0, nilS, nilS]), .box 3 (ofL [AI langs, .own 3 (i + 1), cpLaws laws]), rowP (i + 1) people, .box 6 (cPers people (i + 1))] [0, 1, 2, 3, 4] (Cut.of (Nat.le_of_ble_eq_true rfl) rfl rfl (CutL.turned rfl LnB.A (CutL.turned rfl LnB.A (CutL.turned rfl LnB.A (CutL.turned rfl LnB.A (CutL.turned rfl (LnB.boxN ⟨⟨⟨⟨⟨⟨True.intro, by first | exact Ln.slZ (by assumption) | exact Ln.pubD (by omega) (goneB rfl) rfl (by omega) (by omega) (fun k hk o ho => by simp [appc]) | fail⟩, Ln.A⟩, Ln.A⟩, by first | exact Ln.slZ (by assumption) | exact Ln.pubD (by omega) (goneB rfl) rfl (by omega) (by omega) (fun k hk o ho => by simp [appc]) | fail⟩, Ln.A⟩, Ln.A⟩) CutL.done)))))) ⟨Ln.A, Ln.A, Ln.A, Ln.A, Ln.A, True.intro⟩ ?_
            (repeat' ((try (conv => whnf)); first | (with_reducible first | refine FCond.tA ?_ | refine FCond.fA ?_) | ((with_reducible refine FCond.i (fun hq => ?_) (fun hq => ?_)) <;> (try simp only [zA, zE, zD, zJ, zB, zI, Int.not_le, Int.not_lt] at hq)) | (with_reducible first | refine Fits.in64 (by omega) ?_ | refine FIdx.nat (by omega) ?_ | refine FIdx.int (by omega) ?_ | refine FTo.nat (by omega) ?_ | refine FTo.int (by omega) ?_) | ((with_reducible refine Need.mk ?_ ?_); focus exact needA) | (with_reducible refine FApp.grow ?_)))
            (try (conv => whnf))
            (exact ⟨⟨(i + 2), hlt, by show _ < _; omega, [0, 1, 2, 5], (by (refine Cut.of (Nat.le_of_ble_eq_true rfl) rfl rfl ?_; repeat (first | exact CutL.done | (refine CutL.turned rfl (by first | exact LnB.rowS | exact LnB.app (fun _ _ _ _ => rfl) (fun o ho => rfl) | exact LnB.A) ?_) | (refine CutL.gone (Nat.lt_of_lt_of_le (Nat.lt_succ_self _) (Nat.le_of_ble_eq_true rfl)) ?_)))), allA⟩⟩)
    · obtain rfl : i = people.length := by omega
      rcases hn : people.length with _ | n
      · (repeat' ((try (conv => whnf)); first | (with_reducible first | refine FCond.tA ?_ | refine FCond.fA ?_) | ((with_reducible refine FCond.i (fun hq => ?_) (fun hq => ?_)) <;> (try simp only [zA, zE, zD, zJ, zB, zI, Int.not_le, Int.not_lt] at hq)) | (with_reducible first | refine Fits.in64 (by omega) ?_ | refine FIdx.nat (by omega) ?_ | refine FIdx.int (by omega) ?_ | refine FTo.nat (by omega) ?_ | refine FTo.int (by omega) ?_) | ((with_reducible refine Need.mk ?_ ?_); focus exact needA) | (with_reducible refine FApp.grow ?_)))
        (try (conv => whnf))
        exact ⟨⟨.agg 3 (ofL [AI langs, nilS, cpLaws laws]), [], [], Cut.nil _, Ln.A, by subst hgl; rfl, rfl⟩⟩
      · (repeat' ((try (conv => whnf)); first | (with_reducible first | refine FCond.tA ?_ | refine FCond.fA ?_) | ((with_reducible refine FCond.i (fun hq => ?_) (fun hq => ?_)) <;> (try simp only [zA, zE, zD, zJ, zB, zI, Int.not_le, Int.not_lt] at hq)) | (with_reducible first | refine Fits.in64 (by omega) ?_ | refine FIdx.nat (by omega) ?_ | refine FIdx.int (by omega) ?_ | refine FTo.nat (by omega) ?_ | refine FTo.int (by omega) ?_) | ((with_reducible refine Need.mk ?_ ?_); focus exact needA) | (with_reducible refine FApp.grow ?_)))
        (try (conv => whnf))
        exact ⟨⟨.agg 3 (ofL [AI langs, .own 0 (n + 1), cpLaws laws]), [rowP (n + 1) people], [3], Cut.A, Ln.aggN ⟨⟨⟨True.intro, Ln.A⟩, Ln.A⟩, Ln.A⟩, by subst hgl; rfl, rfl⟩⟩
theorem copy_own (f : CFl) (c : Crew) (hs : SmallC c) : ACall Try.prog 13 [aCrew f c] [] (fun v h => v = .agg 3 (ofL [AI c.langs, oPeople 0 c.people.length, cpLaws c.laws]) ∧ h = hPeople c.people.length c.people) := copy_own3 f c.langs c.people c.laws hs
/-- The copy, to be read only. -/
def flC (c : Crew) : CFl := ⟨decide (c.people.length = 0), decide (c.people.length = 0), false, decide (c.laws.length = 0), fun i => pfP (c.people.getD i ps0)⟩
theorem copy_pub (f : CFl) (c : Crew) (hs : SmallC c) : ACall Try.prog 13 [aCrew f c] [] (fun v h => v = aCrew (flC c) c ∧ h = []) :=
  ACall.wk (ACall.mono' Try.prog (by
    rintro _ _ ⟨rfl, rfl⟩
    refine ⟨aCrew (flC c) c, [], [], Cut.nil _, Ln.aggN ⟨⟨⟨True.intro, Ln.A⟩, ?_⟩, Ln.A⟩, rfl, rfl⟩
    show Ln _ _ (hPeople c.people.length c.people) (oPeople 0 c.people.length) (.sl (decide (c.people.length = 0)) (decide (c.people.length = 0)) c.people.length 6 (cPers c.people))
    generalize c.people.length = n
    rcases n with _ | n
    · exact Ln.slz _ _ _ _ _ _ _ (fun h => h)
    · exact Ln.pubE (goneB rfl) rfl (Nat.le_refl _) rfl (fun _ _ _ _ => rfl)) (copy_own f c hs))
end Go.Proofs.Ytdipcdallenmkaa

namespace Go.Proofs.Ytdipcdallenmkaa
open Go.RowKit

theorem best_found {c : Crew} {j : Job} : ∀ t, ((teamS c j t).1 = 0) ↔ (vitS c j t).2 = false
  | 0 => by simp [teamS, vitS]
  | t + 1 => by
    have ih := best_found (c := c) (j := j) t
    rw [teamS, vitS]
    by_cases h : fitsT c j (t + 1) = true
    · rw [if_pos h]
      constructor
      · intro h2
        exfalso
        unfold stepTm at h2
        split at h2
        · cases h2
        · rename_i h3
          rw [h] at h3
          simp only [Bool.true_and, Bool.or_eq_true, decide_eq_true_eq, not_or] at h3
          exact h3.1 h2
      · intro h2; cases h2
    · have h := Bool.eq_false_iff.2 h
      rw [show stepTm c j (t + 1) (teamS c j t) = teamS c j t from stepTm_no (m := (teamS c j t).1) (n := (teamS c j t).2) h, if_neg (by rw [h]; decide)]
      exact ih
theorem memb_map {c : Crew} {s : Nat} : ((memb c s).map fun (i : Nat) => (i : Int)) = membI c s := rfl
set_option maxHeartbeats 4000000
set_option maxRecDepth 100000
theorem pvital_n (f : CFl) (c : Crew) (j : Job) (h0 : checkT c j ≠ 0) : ACall Try.prog 35 [aCrew f c, aJob j] [] (fun r h => r = .tup 2 (ofL [outI (vitalE c j).1, AI (vitalE c j).2]) ∧ h = []) := by
  (refine fcall_of mixed Try.func35 rfl (by decide) (hs := {}) ?k (ac := ?ac) ?c (rs := ?rs) ?r ?l ?H; (case k => kernel_rfl); (case c => (conv => (lhs; cbv))); (case r => (conv => (lhs; cbv))); (case l => exact Nat.le_of_ble_eq_true rfl))
  (repeat' ((try (conv => whnf)); first | (with_reducible first | refine FCond.tA ?_ | refine FCond.fA ?_) | ((with_reducible refine FCond.i (fun hq => ?_) (fun hq => ?_)) <;> (try simp only [zA, zE, zD, zJ, zB, zI, Int.not_le, Int.not_lt] at hq)) | (with_reducible first | refine Fits.in64 (by omega) ?_ | refine FIdx.nat (by omega) ?_ | refine FIdx.int (by omega) ?_ | refine FTo.nat (by omega) ?_ | refine FTo.int (by omega) ?_) | ((with_reducible refine Need.mk ?_ ?_); focus exact needA) | (with_reducible refine FApp.grow ?_) | (refine FCall.pure ((open_n _ _ _ h0)) ⟨Ln.sameB _ rfl, Ln.sameB _ rfl, True.intro⟩ rfl ?_)))
  all_goals (try (conv => whnf))
  have hE : vitalE c j = ([], checkT c j) := by unfold vitalE; rw [if_neg h0]
  rw [hE]
  exact ⟨⟨.tup 2 (ofL [outI [], AI (checkT c j)]), [], [], Cut.nil _, Ln.A, rfl, rfl⟩⟩
theorem pvital_y (f : CFl) (c : Crew) (j : Job) (h0 : checkT c j = 0) : ACall Try.prog 35 [aCrew f c, aJob j] [] (fun r h => r = .tup 2 (ofL [outI (vitalE c j).1, AI (vitalE c j).2]) ∧ h = []) := by
  obtain ⟨hc, hj⟩ := checkT_0.1 h0
  obtain ⟨d1, d2, d3, d4, d5⟩ := crew_d hc
  have hp := pow_le d2
  have hpp : 0 < 2 ^ c.people.length := Nat.two_pow_pos _
  obtain ⟨N, hN⟩ : ∃ N, N + 1 = 2 ^ c.people.length := ⟨2 ^ c.people.length - 1, by omega⟩
  have hbe : bestT c j = teamS c j N := by unfold bestT; rw [← hN]; rfl
  have hbv : vitT c j = (vitS c j N).1 := by unfold vitT; rw [← hN]; rfl
  (refine fcall_of mixed Try.func35 rfl (by decide) (hs := {}) ?k (ac := ?ac) ?c (rs := ?rs) ?r ?l ?H; (case k => kernel_rfl); (case c => (conv => (lhs; cbv))); (case r => (conv => (lhs; cbv))); (case l => exact Nat.le_of_ble_eq_true rfl))
  (repeat' ((try (conv => whnf)); first | (with_reducible first | refine FCond.tA ?_ | refine FCond.fA ?_) | ((with_reducible refine FCond.i (fun hq => ?_) (fun hq => ?_)) <;> (try simp only [zA, zE, zD, zJ, zB, zI, Int.not_le, Int.not_lt] at hq)) | (with_reducible first | refine Fits.in64 (by omega) ?_ | refine FIdx.nat (by omega) ?_ | refine FIdx.int (by omega) ?_ | refine FTo.nat (by omega) ?_ | refine FTo.int (by omega) ?_) | ((with_reducible refine Need.mk ?_ ?_); focus exact needA) | (with_reducible first | refine FBit.hasT rfl (by assumption) ?_ | refine FBit.hasF rfl (by assumption) ?_ | refine FBit.shrN rfl (by omega) ?_ | refine FBit.half rfl ?_ | refine FBit.shl1 rfl (by omega) ?_ | refine Fits.inU (by omega) ?_ | refine FBit.shrNI rfl (by omega) ?_ | refine FBit.shrIN rfl (by omega) (by omega) ?_ | refine FBit.shrI rfl (by omega) (by omega) ?_ | refine FBit.shl1I rfl (by omega) ?_) | (with_reducible refine FBit.has rfl (fun hq => ?_) (fun hq => ?_)) | (with_reducible first | refine FBit.and1 rfl ?_ | refine FBit.andN rfl (by omega) (by omega) ?_ | refine FBit.orN rfl (by omega) (by omega) ?_ | refine FBit.andNotN rfl (by omega) (by omega) ?_) | (with_reducible refine FApp.grow ?_) | (refine FCall.pure ((open_y _ _ _ h0)) ⟨Ln.sameB _ rfl, Ln.sameB _ rfl, True.intro⟩ rfl ?_)))
  all_goals (try (conv => whnf))
  refine FRange.ofM (ACalls.mono _) (X := Nat × Bool) N (fun k => [AU (k + 1)]) (fun y => [(6, .ptr 0 0), (8, .ptr 1 0), (9, .ptr 2 0), (28, mTeams f c j)]) (fun y => [.box 1 (ofL [pTask f c j (lawOf c j)]), .box 1 (ofL [AU y.1]), .box 1 (ofL [.bool y.2])])
    (fun k y => vitS c j k = y ∧ y.1 ≤ N) (N, false) ⟨⟨by show (2 ^ c.people.length - 1, false) = _; rw [← hN]; rfl, Nat.le_refl _⟩, [2, 3, 4], Cut.A, allA⟩ rfl rfl (teams_it f c j (lawOf c j) _ N rfl d2 hN) (fun _ _ => rfl) ?round ?done
  case round =>
    rintro k ⟨a, d⟩ hk ⟨hx, ha⟩
    change a ≤ N at ha
    have hft : brokenT c j (k + 1) = 0 → vitS c j (k + 1) = (a &&& (k + 1), true) := fun h => by
      rw [vitS, hx, if_pos]; unfold fitsT; rw [h]; simp
    have hff : brokenT c j (k + 1) ≠ 0 → vitS c j (k + 1) = (a, d) := fun h => by
      rw [vitS, hx, if_neg]; unfold fitsT; simp [h]
    have hal : a &&& (k + 1) ≤ a := Nat.and_le_left
    dsimp only
    (repeat' ((try (conv => whnf)); first | (with_reducible first | refine FCond.tA ?_ | refine FCond.fA ?_) | ((with_reducible refine FCond.i (fun hq => ?_) (fun hq => ?_)) <;> (try simp only [zA, zE, zD, zJ, zB, zI, Int.not_le, Int.not_lt] at hq)) | (with_reducible first | refine Fits.in64 (by omega) ?_ | refine FIdx.nat (by omega) ?_ | refine FIdx.int (by omega) ?_ | refine FTo.nat (by omega) ?_ | refine FTo.int (by omega) ?_) | ((with_reducible refine Need.mk ?_ ?_); focus exact needA) | (with_reducible first | refine FBit.hasT rfl (by assumption) ?_ | refine FBit.hasF rfl (by assumption) ?_ | refine FBit.shrN rfl (by omega) ?_ | refine FBit.half rfl ?_ | refine FBit.shl1 rfl (by omega) ?_ | refine Fits.inU (by omega) ?_ | refine FBit.shrNI rfl (by omega) ?_ | refine FBit.shrIN rfl (by omega) (by omega) ?_ | refine FBit.shrI rfl (by omega) (by omega) ?_ | refine FBit.shl1I rfl (by omega) ?_) | (with_reducible refine FBit.has rfl (fun hq => ?_) (fun hq => ?_)) | (with_reducible first | refine FBit.and1 rfl ?_ | refine FBit.andN rfl (by omega) (by omega) ?_ | refine FBit.orN rfl (by omega) (by omega) ?_ | refine FBit.andNotN rfl (by omega) (by omega) ?_) | (with_reducible refine FApp.grow ?_) | (refine FCall.pure ((pbroken_ok _ _ _ _ hc hj (by omega))) ⟨Ln.sameB _ rfl, Ln.sameB _ rfl, True.intro⟩ rfl ?_)))
    all_goals (try (conv => whnf))
    · (refine ⟨⟨(a &&& (k + 1), true), ⟨hft (by omega), Nat.le_trans hal ha⟩, [0, 1, 2], Cut.A, allA⟩⟩)
    · (refine ⟨⟨(a, d), ⟨hff (by omega), ha⟩, [0, 1, 2], Cut.A, allA⟩⟩)
  case done =>
    rintro ⟨a, d⟩ ⟨hx, ha⟩
    change a ≤ N at ha
    have hbf := best_found (c := c) (j := j) N
    rw [hx] at hbf hbv
    rw [← hbe] at hbf
    change (bestT c j).1 = 0 ↔ d = false at hbf
    change vitT c j = a at hbv
    dsimp only
    (repeat' ((try (conv => whnf)); first | (with_reducible first | refine FCond.tA ?_ | refine FCond.fA ?_) | ((with_reducible refine FCond.i (fun hq => ?_) (fun hq => ?_)) <;> (try simp only [zA, zE, zD, zJ, zB, zI, Int.not_le, Int.not_lt] at hq)) | (with_reducible first | refine Fits.in64 (by omega) ?_ | refine FIdx.nat (by omega) ?_ | refine FIdx.int (by omega) ?_ | refine FTo.nat (by omega) ?_ | refine FTo.int (by omega) ?_) | ((with_reducible refine Need.mk ?_ ?_); focus exact needA) | (with_reducible first | refine FBit.hasT rfl (by assumption) ?_ | refine FBit.hasF rfl (by assumption) ?_ | refine FBit.shrN rfl (by omega) ?_ | refine FBit.half rfl ?_ | refine FBit.shl1 rfl (by omega) ?_ | refine Fits.inU (by omega) ?_ | refine FBit.shrNI rfl (by omega) ?_ | refine FBit.shrIN rfl (by omega) (by omega) ?_ | refine FBit.shrI rfl (by omega) (by omega) ?_ | refine FBit.shl1I rfl (by omega) ?_) | (with_reducible refine FBit.has rfl (fun hq => ?_) (fun hq => ?_)) | (with_reducible first | refine FBit.and1 rfl ?_ | refine FBit.andN rfl (by omega) (by omega) ?_ | refine FBit.orN rfl (by omega) (by omega) ?_ | refine FBit.andNotN rfl (by omega) (by omega) ?_) | (with_reducible refine FApp.grow ?_) | (refine FCall.pure ((mem_ok _ _ _ _ _)) ⟨Ln.sameB _ rfl, Ln.sameB _ rfl, True.intro⟩ rfl ?_)))
    all_goals (try (conv => whnf))
    · have hE : vitalE c j = ([], 3) := by unfold vitalE; rw [if_pos h0, if_pos (hbf.2 hq)]
      rw [hE]
      exact ⟨⟨.tup 2 (ofL [outI [], AI 3]), [], [], Cut.nil _, Ln.A, rfl, rfl⟩⟩
    · have hE : vitalE c j = (membI c a, 0) := by unfold vitalE; rw [if_pos h0, if_neg (fun h => by have := hbf.1 h; rw [hq] at this; cases this), hbv]
      rw [hE]
      have hml := memb_len c a
      have hmi : (membI c a).length = (memb c a).length := by unfold membI; simp
      have hmg : ∀ k, k < (memb c a).length → (membI c a).getD k 0 = (((memb c a).getD k 0 : Nat) : Int) := fun k hk => by unfold membI; exact getD_map' (d := 0) hk
      refine FRange.of (ACalls.mono _) (X := Nat) (memb c a).length (fun k => [AI (((memb c a).getD k 0 : Nat) : Int), .agg 6 (cPerson (f.pf ((memb c a).getD k 0)) (c.people.getD ((memb c a).getD k 0) ps0))]) (fun m => [(11, .ptr 0 0), (41, fMem f c j (lawOf c j) a)]) (fun m => match m with
        | 0 => [.box 1 (ofL [nilS])]
        | m + 1 => [.box 1 (ofL [.own 1 (m + 1)]), rowI (m + 1) (membI c a)])
        (fun k m => k = m) 0 ⟨rfl, [3], Cut.A, allA⟩ rfl rfl (mem_it f c j (lawOf c j) a d2) (fun _ _ => rfl) ?round2 ?done2
      case round2 =>
        rintro k m hk rfl
        have hg := hmg k hk
        rcases k with _ | k
        · (repeat' ((try (conv => whnf)); first | (with_reducible first | refine FCond.tA ?_ | refine FCond.fA ?_) | ((with_reducible refine FCond.i (fun hq => ?_) (fun hq => ?_)) <;> (try simp only [zA, zE, zD, zJ, zB, zI, Int.not_le, Int.not_lt] at hq)) | (with_reducible first | refine Fits.in64 (by omega) ?_ | refine FIdx.nat (by omega) ?_ | refine FIdx.int (by omega) ?_ | refine FTo.nat (by omega) ?_ | refine FTo.int (by omega) ?_) | ((with_reducible refine Need.mk ?_ ?_); focus exact needA) | (with_reducible refine FApp.grow ?_)))
          all_goals (try (conv => whnf))
          (exact ⟨⟨1, rfl, [0, 1], (by (refine Cut.of (Nat.le_of_ble_eq_true rfl) rfl rfl ?_; repeat (first | exact CutL.done | (refine CutL.turned rfl (by first | exact LnB.rowS | exact LnB.app (fun k hk => absurd hk (Nat.not_lt_zero k)) (fun o ho => int_eq hg) | exact LnB.A) ?_) | (refine CutL.gone (Nat.lt_of_lt_of_le (Nat.lt_succ_self _) (Nat.le_of_ble_eq_true rfl)) ?_)))), allA⟩⟩)
        · (repeat' ((try (conv => whnf)); first | (with_reducible first | refine FCond.tA ?_ | refine FCond.fA ?_) | ((with_reducible refine FCond.i (fun hq => ?_) (fun hq => ?_)) <;> (try simp only [zA, zE, zD, zJ, zB, zI, Int.not_le, Int.not_lt] at hq)) | (with_reducible first | refine Fits.in64 (by omega) ?_ | refine FIdx.nat (by omega) ?_ | refine FIdx.int (by omega) ?_ | refine FTo.nat (by omega) ?_ | refine FTo.int (by omega) ?_) | ((with_reducible refine Need.mk ?_ ?_); focus exact needA) | (with_reducible refine FApp.grow ?_)))
          all_goals (try (conv => whnf))
          (exact ⟨⟨(k + 2), rfl, [0, 2], (by (refine Cut.of (Nat.le_of_ble_eq_true rfl) rfl rfl ?_; repeat (first | exact CutL.done | (refine CutL.turned rfl (by first | exact LnB.rowS | exact LnB.app (fun _ _ _ _ => rfl) (fun o ho => int_eq hg) | exact LnB.A) ?_) | (refine CutL.gone (Nat.lt_of_lt_of_le (Nat.lt_succ_self _) (Nat.le_of_ble_eq_true rfl)) ?_)))), allA⟩⟩)
      case done2 =>
        rintro m rfl
        rcases hm : (memb c a).length with _ | m
        · have he : membI c a = [] := List.length_eq_zero_iff.1 (by omega)
          rw [he]
          (repeat' ((try (conv => whnf)); first | (with_reducible first | refine FCond.tA ?_ | refine FCond.fA ?_) | ((with_reducible refine FCond.i (fun hq => ?_) (fun hq => ?_)) <;> (try simp only [zA, zE, zD, zJ, zB, zI, Int.not_le, Int.not_lt] at hq)) | (with_reducible first | refine Fits.in64 (by omega) ?_ | refine FIdx.nat (by omega) ?_ | refine FIdx.int (by omega) ?_ | refine FTo.nat (by omega) ?_ | refine FTo.int (by omega) ?_) | ((with_reducible refine Need.mk ?_ ?_); focus exact needA) | (with_reducible refine FApp.grow ?_)))
          all_goals (try (conv => whnf))
          exact ⟨⟨.tup 2 (ofL [outI [], AI 0]), [], [], Cut.nil _, Ln.A, rfl, rfl⟩⟩
        · (repeat' ((try (conv => whnf)); first | (with_reducible first | refine FCond.tA ?_ | refine FCond.fA ?_) | ((with_reducible refine FCond.i (fun hq => ?_) (fun hq => ?_)) <;> (try simp only [zA, zE, zD, zJ, zB, zI, Int.not_le, Int.not_lt] at hq)) | (with_reducible first | refine Fits.in64 (by omega) ?_ | refine FIdx.nat (by omega) ?_ | refine FIdx.int (by omega) ?_ | refine FTo.nat (by omega) ?_ | refine FTo.int (by omega) ?_) | ((with_reducible refine Need.mk ?_ ?_); focus exact needA) | (with_reducible refine FApp.grow ?_)))
          all_goals (try (conv => whnf))
          exact ⟨⟨.tup 2 (ofL [outI (membI c a), AI 0]), [], [], Cut.nil _, Ln.tupN ⟨⟨True.intro, Ln.out (goneB rfl) rfl (Nat.le_refl _) (by omega) (fun _ _ _ _ => rfl)⟩, Ln.A⟩, rfl, rfl⟩⟩
theorem pvital_ok (f : CFl) (c : Crew) (j : Job) : ACall Try.prog 35 [aCrew f c, aJob j] [] (fun r h => r = .tup 2 (ofL [outI (vitalE c j).1, AI (vitalE c j).2]) ∧ h = []) := by
  by_cases h0 : checkT c j = 0
  · exact pvital_y f c j h0
  · exact pvital_n f c j h0
end Go.Proofs.Ytdipcdallenmkaa

namespace Go.Proofs.Ytdipcdallenmkaa
open Go.RowKit

theorem near_small {c : Crew} (h : NearT c) : SmallC c := ⟨by have := h.pl; omega, by have := h.wl; omega, fun i hi => by have := h.ps i hi; omega⟩
set_option maxHeartbeats 4000000
set_option maxRecDepth 100000
theorem mayE_len (c : Crew) (j : Job) (h : c.people.length ≤ 20) : (mayE c j).length ≤ 1000000 := by
  unfold mayE; split
  · have := may_len (c := c) (j := j); omega
  · exact Nat.zero_le _
theorem chainL_len {n : Nat} {R : Nat → Nat → Bool} {D : Nat → Int} : ∀ {k a : Nat}, (chainL n R D k a).length = k
  | 0, _ => rfl
  | k + 1, a => by rw [chainL, List.length_cons, chainL_len]
theorem chainE_len (c : Crew) (j : Job) (m : Int) : (chainE c j m).1.length ≤ 1000000 := by
  unfold chainE; split
  · rename_i h
    split
    · exact Nat.zero_le _
    · obtain ⟨hc, hj, _, _⟩ := checkTm_0 h
      obtain ⟨d1, d2, d3, d4, d5⟩ := crew_d hc
      obtain ⟨j1, j2, j3, j4, j5, j6, j7⟩ := job_d hj
      have := dist_lt (n := c.langs.toNat) (R := relOf c j m.toNat) (a := j.to.toNat) (b := j.fr.toNat) (by omega)
      show (chainT c j m.toNat).length ≤ _
      unfold chainT
      rw [List.length_cons, chainL_len]
      unfold backT
      omega
  · exact Nat.zero_le _
theorem vitalE_len (c : Crew) (j : Job) (h : c.people.length ≤ 20) : (vitalE c j).1.length ≤ 1000000 := by
  unfold vitalE; split
  · split
    · exact Nat.zero_le _
    · have := memb_len c (vitT c j)
      show (membI c (vitT c j)).length ≤ _
      unfold membI
      rw [List.length_map]; omega
  · exact Nat.zero_le _
theorem rules_any (f : CFl) (c : Crew) (j : Job) (m : Int) : ACall Try.prog 6 [aCrew f c, aJob j, AI m] [] (fun v h => v = .bool true ∧ h = []) := by
  have hcv := farT_ok f c
  (refine fcall_of mixed Try.func6 rfl (by decide) (hs := { ord := [(4, [(0, []), (1, []), (3, []), (4, []), (2, [3, 4]), (5, []), (6, [])])] }) ?k (ac := ?ac) ?c (rs := ?rs) ?r ?l ?H; (case k => kernel_rfl); (case c => (conv => (lhs; cbv))); (case r => (conv => (lhs; cbv))); (case l => exact Nat.le_of_ble_eq_true rfl))
  cases hv : farT c
  · rw [hv] at hcv
    have hn := near_of hv
    have cC := copy_pub f c (near_small hn)
    have n1 := mayE_len c j hn.pl
    have n2 := chainE_len c j m
    (repeat' ((try (conv => whnf)); first | (with_reducible first | refine FCond.tA ?_ | refine FCond.fA ?_) | ((with_reducible refine FCond.i (fun hq => ?_) (fun hq => ?_)) <;> (try simp only [zA, zE, zD, zJ, zB, zI, Int.not_le, Int.not_lt] at hq)) | (with_reducible first | refine Fits.in64 (by omega) ?_ | refine FIdx.nat (by omega) ?_ | refine FIdx.int (by omega) ?_ | refine FTo.nat (by omega) ?_ | refine FTo.int (by omega) ?_) | ((with_reducible refine Need.mk ?_ ?_); focus exact needA) | (with_reducible refine FApp.grow ?_) | (refine FCall.pure (hcv) ⟨Ln.sameB _ rfl, True.intro⟩ rfl ?_) | (refine FCall.pure (cC) ⟨Ln.sameB _ rfl, True.intro⟩ rfl ?_) | (refine FCall.pure ((check_ok _ _ _)) ⟨Ln.sameB _ rfl, Ln.sameB _ rfl, True.intro⟩ rfl ?_) | (refine FCall.pure ((refCheck_ok _ _ _)) ⟨Ln.sameB _ rfl, Ln.sameB _ rfl, True.intro⟩ rfl ?_) | (refine FCall.pure ((may_ok _ _ _)) ⟨Ln.sameB _ rfl, Ln.sameB _ rfl, True.intro⟩ rfl ?_) | (refine FCall.pure ((refMay_ok _ _ _)) ⟨Ln.sameB _ rfl, Ln.sameB _ rfl, True.intro⟩ rfl ?_) | (refine FCall.pure ((broken_ok _ _ _ _)) ⟨Ln.sameB _ rfl, Ln.sameB _ rfl, Ln.sameB _ rfl, True.intro⟩ rfl ?_) | (refine FCall.pure ((refBrokenE_ok _ _ _ _)) ⟨Ln.sameB _ rfl, Ln.sameB _ rfl, Ln.sameB _ rfl, True.intro⟩ rfl ?_) | (refine FCall.pure ((pchain_ok _ _ _ _)) ⟨Ln.sameB _ rfl, Ln.sameB _ rfl, Ln.sameB _ rfl, True.intro⟩ rfl ?_) | (refine FCall.pure ((refChain_ok _ _ _ _)) ⟨Ln.sameB _ rfl, Ln.sameB _ rfl, Ln.sameB _ rfl, True.intro⟩ rfl ?_) | (refine FCall.pure ((sameInts_ok _ _ _ _ (mayE c j) (mayE c j) n1)) ⟨Ln.sameB _ rfl, Ln.sameB _ rfl, True.intro⟩ rfl ?_) | (refine FCall.pure ((sameInts_ok _ _ _ _ (chainE c j m).1 (chainE c j m).1 n2)) ⟨Ln.sameB _ rfl, Ln.sameB _ rfl, True.intro⟩ rfl ?_) | (refine FCall.pure works_ok True.intro rfl ?_)))
    all_goals (try (conv => whnf))
    all_goals ((refine ⟨⟨_, [], [], Cut.nil _, Ln.sameB _ rfl, ?_, rfl⟩⟩); rfl)
  · rw [hv] at hcv
    (repeat' ((try (conv => whnf)); first | (with_reducible first | refine FCond.tA ?_ | refine FCond.fA ?_) | ((with_reducible refine FCond.i (fun hq => ?_) (fun hq => ?_)) <;> (try simp only [zA, zE, zD, zJ, zB, zI, Int.not_le, Int.not_lt] at hq)) | (with_reducible first | refine Fits.in64 (by omega) ?_ | refine FIdx.nat (by omega) ?_ | refine FIdx.int (by omega) ?_ | refine FTo.nat (by omega) ?_ | refine FTo.int (by omega) ?_) | ((with_reducible refine Need.mk ?_ ?_); focus exact needA) | (with_reducible refine FApp.grow ?_) | (refine FCall.pure (hcv) ⟨Ln.sameB _ rfl, True.intro⟩ rfl ?_) | (refine FCall.pure works_ok True.intro rfl ?_)))
    all_goals (try (conv => whnf))
    all_goals ((refine ⟨⟨_, [], [], Cut.nil _, Ln.sameB _ rfl, ?_, rfl⟩⟩); rfl)
theorem team_any (f : CFl) (c : Crew) (j : Job) : ACall Try.prog 8 [aCrew f c, aJob j] [] (fun v h => v = .bool true ∧ h = []) := by
  have hcv := farT_ok f c
  (refine fcall_of mixed Try.func8 rfl (by decide) (hs := {}) ?k (ac := ?ac) ?c (rs := ?rs) ?r ?l ?H; (case k => kernel_rfl); (case c => (conv => (lhs; cbv))); (case r => (conv => (lhs; cbv))); (case l => exact Nat.le_of_ble_eq_true rfl))
  cases hv : farT c
  · rw [hv] at hcv
    have hn := near_of hv
    have cC := copy_pub f c (near_small hn)
    have n1 := vitalE_len c j hn.pl
    (repeat' ((try (conv => whnf)); first | (with_reducible first | refine FCond.tA ?_ | refine FCond.fA ?_) | ((with_reducible refine FCond.i (fun hq => ?_) (fun hq => ?_)) <;> (try simp only [zA, zE, zD, zJ, zB, zI, Int.not_le, Int.not_lt] at hq)) | (with_reducible first | refine Fits.in64 (by omega) ?_ | refine FIdx.nat (by omega) ?_ | refine FIdx.int (by omega) ?_ | refine FTo.nat (by omega) ?_ | refine FTo.int (by omega) ?_) | ((with_reducible refine Need.mk ?_ ?_); focus exact needA) | (with_reducible refine FApp.grow ?_) | (refine FCall.pure (hcv) ⟨Ln.sameB _ rfl, True.intro⟩ rfl ?_) | (refine FCall.pure (cC) ⟨Ln.sameB _ rfl, True.intro⟩ rfl ?_) | (refine FCall.pure ((pteam_ok _ _ _)) ⟨Ln.sameB _ rfl, Ln.sameB _ rfl, True.intro⟩ rfl ?_) | (refine FCall.pure ((refTeam_ok _ _ _)) ⟨Ln.sameB _ rfl, Ln.sameB _ rfl, True.intro⟩ rfl ?_) | (refine FCall.pure ((pwhy_ok _ _ _)) ⟨Ln.sameB _ rfl, Ln.sameB _ rfl, True.intro⟩ rfl ?_) | (refine FCall.pure ((refWhy_ok _ _ _)) ⟨Ln.sameB _ rfl, Ln.sameB _ rfl, True.intro⟩ rfl ?_) | (refine FCall.pure ((pvital_ok _ _ _)) ⟨Ln.sameB _ rfl, Ln.sameB _ rfl, True.intro⟩ rfl ?_) | (refine FCall.pure ((refVital_ok _ _ _)) ⟨Ln.sameB _ rfl, Ln.sameB _ rfl, True.intro⟩ rfl ?_) | (refine FCall.pure ((sameInts_ok _ _ _ _ (vitalE c j).1 (vitalE c j).1 n1)) ⟨Ln.sameB _ rfl, Ln.sameB _ rfl, True.intro⟩ rfl ?_) | (refine FCall.pure works_ok True.intro rfl ?_)))
    all_goals (try (conv => whnf))
    all_goals ((refine ⟨⟨_, [], [], Cut.nil _, Ln.sameB _ rfl, ?_, rfl⟩⟩); rfl)
  · rw [hv] at hcv
    (repeat' ((try (conv => whnf)); first | (with_reducible first | refine FCond.tA ?_ | refine FCond.fA ?_) | ((with_reducible refine FCond.i (fun hq => ?_) (fun hq => ?_)) <;> (try simp only [zA, zE, zD, zJ, zB, zI, Int.not_le, Int.not_lt] at hq)) | (with_reducible first | refine Fits.in64 (by omega) ?_ | refine FIdx.nat (by omega) ?_ | refine FIdx.int (by omega) ?_ | refine FTo.nat (by omega) ?_ | refine FTo.int (by omega) ?_) | ((with_reducible refine Need.mk ?_ ?_); focus exact needA) | (with_reducible refine FApp.grow ?_) | (refine FCall.pure (hcv) ⟨Ln.sameB _ rfl, True.intro⟩ rfl ?_) | (refine FCall.pure works_ok True.intro rfl ?_)))
    all_goals (try (conv => whnf))
    all_goals ((refine ⟨⟨_, [], [], Cut.nil _, Ln.sameB _ rfl, ?_, rfl⟩⟩); rfl)
end Go.Proofs.Ytdipcdallenmkaa

namespace Go.Proofs.Ytdipcdallenmkaa
open Go.RowKit

theorem block_of_add (a : Addr) (n : Nat) : (a.add n).block = a.block := by unfold Addr.add; split <;> rfl
theorem add_of_add (a : Addr) (i j : Nat) : (a.add i).add j = a.add (i + j) := by
  unfold Addr.add
  by_cases hi : i = 0 <;> by_cases hj : j = 0 <;> simp [hi, hj, Nat.add_assoc]

/-- w' has all that w has, unchanged. -/
abbrev Ext (w w' : World) : Prop := Below w.heap.size w w'

theorem Ext.refl (w : World) : Ext w w := Below.refl _ w
theorem Ext.trans {a b c : World} (h : Ext a b) (k : Ext b c) : Ext a c := Below.trans h (k.mono h.size)
theorem Ext.of_alloc (w : World) (o : Obj) : Ext w (w.alloc o) := (Below.refl _ w).alloc (Nat.le_refl _) o
theorem Ext.alloc {a w : World} (h : Ext a w) (o : Obj) : Ext a (w.alloc o) := Below.alloc h h.size o
theorem Ext.drew {a w : World} (h : Ext a w) : Ext a w.drew := Below.drew h
theorem Ext.drewN {a w : World} (h : Ext a w) (n : Nat) : Ext a (w.drewN n) := ⟨h.os, h.tape, h.output, h.size, h.block⟩
theorem Ext.cellOf {w w' : World} (h : Ext w w') {p : Addr} (hp : p.block < w.heap.size) : w'.cell? p = w.cell? p := Below.cell h hp

/-- The n elements (size cells each) of a slice at A are the cells xs. -/
def Sl (w : World) (size : Nat) (A : Option Addr) (n : Nat) (xs : List Value) : Prop :=
  xs.length = n * size ∧ (0 < n → ∃ b off, A = some ⟨b, off, none⟩ ∧ b < w.heap.size ∧ ∀ (j : Nat) (u : Value), xs[j]? = some u → w.cell? ⟨b, off + j, none⟩ = some u)

theorem Sl.ext {w w' : World} {size n : Nat} {A : Option Addr} {xs : List Value} (h : Sl w size A n xs) (e : Ext w w') : Sl w' size A n xs :=
  ⟨h.1, fun hn => by
    obtain ⟨b, off, hA, hb, hc⟩ := h.2 hn
    exact ⟨b, off, hA, Nat.lt_of_lt_of_le hb e.size, fun j u hu => (e.cellOf (p := ⟨b, off + j, none⟩) hb).trans (hc j u hu)⟩⟩
theorem Sl.nil (w : World) (size : Nat) (A : Option Addr) : Sl w size A 0 [] := ⟨by simp, fun h => absurd h (by omega)⟩
theorem own_lt {w : World} {g : Nat} {o : Obj} (hh : w.heap[g]? = some o) : g < w.heap.size := by
  rcases Nat.lt_or_ge g w.heap.size with hlt | hge
  · exact hlt
  · rw [Array.getElem?_eq_none hge] at hh; cases hh
theorem Sl.of_own {w : World} {base size n c : Nat} {e : TypeId} {A : Option Addr} {xs : List Value} (h : w.ownsRow base e size (.slice A n c) n xs) : Sl w size A n xs := by
  refine ⟨h.1, fun hn => ?_⟩
  rcases h.2 with ⟨hv, hx⟩ | ⟨g, cap, cur, hv, hb, hh, _⟩
  · injection hv with hA hn'
    omega
  · injection hv with hA
    subst hA
    refine ⟨g, 0, rfl, own_lt hh, fun j u hu => ?_⟩
    have h1 := h.cells (g := g) rfl j u hu
    unfold Addr.add at h1
    split at h1
    · rename_i h0; subst h0; exact h1
    · simpa using h1
theorem Sl.at {w : World} {size n : Nat} {A : Option Addr} {xs : List Value} (h : Sl w size A n xs) {k : Nat} (hk : k < n) :
    ∃ b off, A = some ⟨b, off, none⟩ ∧ b < w.heap.size ∧ ∀ i, i < size → ∃ u, xs[k * size + i]? = some u ∧ w.cell? ⟨b, off + (k * size + i), none⟩ = some u := by
  obtain ⟨b, off, hA, hb, hc⟩ := h.2 (by omega)
  refine ⟨b, off, hA, hb, fun i hi => ?_⟩
  have hlt : k * size + i < xs.length := by
    rw [h.1]
    have : (k + 1) * size ≤ n * size := Nat.mul_le_mul_right _ hk
    rw [Nat.add_mul] at this
    omega
  exact ⟨xs[k * size + i], List.getElem?_eq_getElem hlt, hc _ _ (List.getElem?_eq_getElem hlt)⟩

/-- A slice of ints. -/
def Ints (w : World) (A : Option Addr) (l : List Int) : Prop :=
  ∀ k, k < l.length → ∃ b off, A = some ⟨b, off, none⟩ ∧ b < w.heap.size ∧ w.cell? ⟨b, off + k, none⟩ = some (.int .i64 (l.getD k 0))
theorem Ints.ext {w w' : World} {A : Option Addr} {l : List Int} (h : Ints w A l) (e : Ext w w') : Ints w' A l := fun k hk => by
  obtain ⟨b, off, hA, hb, hc⟩ := h k hk
  exact ⟨b, off, hA, Nat.lt_of_lt_of_le hb e.size, (e.cellOf (p := ⟨b, off + k, none⟩) hb).trans hc⟩
theorem Ints.of_own {w : World} {base n c : Nat} {e : TypeId} {A : Option Addr} {l : List Int} (h : w.ownsRow base e 1 (.slice A n c) n (l.map (.int .i64))) : n = l.length ∧ Ints w A l := by
  have hl : n = l.length := by have := h.1; simp at this; omega
  refine ⟨hl, fun k hk => ?_⟩
  obtain ⟨b, off, hA, hb, hc⟩ := (Sl.of_own h).at (k := k) (by omega)
  obtain ⟨u, hu, hcu⟩ := hc 0 (by omega)
  refine ⟨b, off, hA, hb, ?_⟩
  simp at hu hcu
  obtain ⟨a, ha, rfl⟩ := hu
  rw [hcu]
  simp [List.getD, ha]

theorem Ints.get {w : World} {A : Option Addr} {l : List Int} (h : Ints w A l) {k : Nat} (hk : k < l.length) :
    ∃ b off x, A = some ⟨b, off, none⟩ ∧ b < w.heap.size ∧ w.cell? ⟨b, off + k, none⟩ = some (.int .i64 x) ∧ Hid (l.getD k 0 = x) := by
  obtain ⟨b, off, h1, h2, h3⟩ := h k hk
  exact ⟨b, off, _, h1, h2, h3, rfl⟩

theorem Ext.unalloc {w wr : World} {o : Obj} (h : Ext (w.alloc o) wr) : Ext w wr := (Ext.of_alloc w o).trans h
theorem Ext.box {w wr : World} {cs : Array Value} {T : TypeId} (h : Ext (w.alloc (.cells cs T)) wr) (i : Nat) : wr.cell? ⟨w.heap.size, i, none⟩ = cs[i]? := by
  rw [h.cellOf (by simp), World.cell?_alloc_at _ _ _ _ rfl]
theorem Ext.boxFree {w wr : World} {cs : Array Value} {T : TypeId} (h : Ext (w.alloc (.cells cs T)) wr) (i : Nat) : wr.frozen? ⟨w.heap.size, i, none⟩ = false := by
  rw [Below.frozen h (by simp), World.frozen?_alloc_at _ _ _ _ rfl]
theorem Ext.lt {w wr : World} {o : Obj} (h : Ext (w.alloc o) wr) : w.heap.size < wr.heap.size := by have := h.size; simp at this; omega
theorem Ext.le {w wr : World} (h : Ext w wr) : w.heap.size ≤ wr.heap.size := h.size

theorem Ext.grown {w w' : World} (h : Ext w w') (row : Option Nat) : w.grownBy w' row := ⟨h.os, h.tape, h.output, h.size, fun i hi _ => h.block i hi⟩
theorem Ext.of_grown {w w' : World} (h : w.grownBy w' none) : Ext w w' := ⟨h.os, h.tape, h.output, h.size, fun i hi => h.block i hi (by simp)⟩

/-- Block g is just the cells cs of element type t, none frozen. -/
def Blk (w : World) (g : Nat) (t : TypeId) (cs : Array Value) : Prop := w.heap[g]? = some (.cells cs t (0, 0))
theorem Blk.lt {w : World} {g : Nat} {t : TypeId} {cs : Array Value} (h : Blk w g t cs) : g < w.heap.size := own_lt h
theorem Blk.cell {w : World} {g : Nat} {t : TypeId} {cs : Array Value} (h : Blk w g t cs) (i : Nat) : w.cell? ⟨g, i, none⟩ = cs[i]? := by
  unfold Blk at h; simp [World.cell?, h]
theorem Blk.free {w : World} {g : Nat} {t : TypeId} {cs : Array Value} (h : Blk w g t cs) (i : Nat) : w.frozen? ⟨g, i, none⟩ = false := by
  unfold Blk at h; simp [World.frozen?, h]
theorem Blk.new (w : World) (t : TypeId) (cs : Array Value) : Blk (w.alloc (.cells cs t)) w.heap.size t cs := heap_alloc_new w _
theorem Blk.ext {w w' : World} {g : Nat} {t : TypeId} {cs : Array Value} (h : Blk w g t cs) (e : Ext w w') : Blk w' g t cs := (e.block g h.lt).trans h
theorem Blk.alloc {w : World} {g : Nat} {t : TypeId} {cs : Array Value} (h : Blk w g t cs) (o : Obj) : Blk (w.alloc o) g t cs := h.ext (Ext.of_alloc _ _)
theorem Blk.set {w : World} {g : Nat} {t : TypeId} {cs : Array Value} (h : Blk w g t cs) (i : Nat) (u : Value) : Blk (w.setCell ⟨g, i, none⟩ u) g t (cs.setIfInBounds i u) := by
  unfold Blk at h ⊢
  simp [World.setCell, Array.getElem?_modify, h]
theorem Blk.far {w : World} {g : Nat} {t : TypeId} {cs : Array Value} (h : Blk w g t cs) {p : Addr} (hp : g ≠ p.block) (u : Value) : Blk (w.setCell p u) g t cs := (Below.heap_setCell w p u g hp).trans h
theorem Blk.grown {w w' : World} {g : Nat} {t : TypeId} {cs : Array Value} {row : Option Nat} (h : Blk w g t cs) (hb : w.grownBy w' row) (hg : some g ≠ row) : Blk w' g t cs := (hb.block g h.lt hg).trans h
theorem Blk.ne {w : World} {g g' : Nat} {t t' : TypeId} {cs cs' : Array Value} (h : Blk w g t cs) (h' : Blk w g' t' cs') (hne : t ≠ t') : g ≠ g' := by
  rintro rfl
  unfold Blk at h h'
  rw [h] at h'
  injection h' with h'
  injection h' with _ ht
  exact hne ht
theorem grown_setCell (w : World) (p : Addr) (u : Value) : w.grownBy (w.setCell p u) (some p.block) :=
  ⟨rfl, rfl, rfl, by simp, fun i _ hne => Below.heap_setCell _ _ _ _ (fun e => hne (by rw [e]))⟩
theorem grown_refl (w : World) (row : Option Nat) : w.grownBy w row := (Ext.refl w).grown row
theorem grown_trans {a b c : World} {row : Option Nat} (h : a.grownBy b row) (k : b.grownBy c row) : a.grownBy c row :=
  ⟨k.os.trans h.os, k.tape.trans h.tape, k.output.trans h.output, Nat.le_trans h.size k.size, fun i hi hne => (k.block i (Nat.lt_of_lt_of_le hi h.size) hne).trans (h.block i hi hne)⟩
theorem grown_drew (w : World) (row : Option Nat) : w.grownBy w.drew row := (Ext.refl w).drew.grown row

theorem quiet_add_same {P : Program} {f : FuncId} {args : Array Value} {w : World} {a n : Nat} {v : Value}
    (h : Calls P f args (w.drewN (a + n)) fun e w' => e = .returned v ∧ w' = w.drewN (a + n)) :
    Calls P f args (w.drewN (a + n)) fun e w'' => e = .returned v ∧ ∃ m, w'' = w.drewN (a + m) :=
  h.mono fun _ _ ⟨he, hm⟩ => ⟨he, n, hm⟩

/-- A region that draws, all of whose operations read or call, in a class of worlds. -/
theorem wp_region_class {P : Program} {id : Nat} {Q : Exit → Act → World → Prop} {a : Act} {w : World} {l : List Oper} (C : World → Prop) (hm : P.follows .mixedOrders = true) (hB : Region.lexB .any l.toArray = true) (hC : C w.drew)
    (h : wpQuiet P l.toArray C (fun a' => ∀ w', C w' → Q .normal a' w') l a) : (Code.region id l.toArray true).wp P Q a w :=
  wp_region_quiet (C := C) hm hB hC (by simpa using h)

theorem ret_int {k : IntKind} {a b : Int} (h : a = b) : Ending.returned (.int k a) = .returned (.int k b) := by rw [h]
theorem ret_bool {a b : Bool} (h : a = b) : Ending.returned (.bool a) = .returned (.bool b) := by rw [h]
end Go.Proofs.Ytdipcdallenmkaa

namespace Go.Proofs.Ytdipcdallenmkaa
open Go.RowKit Go.ChangeShapes Go.WideShapes Go.Deep

section
variable {H : Type} {enc : TypeId × Value → H} {P : Program} {w : World} {base : Nat} {held : Bool}

/-- A slice's elements, cell by cell. -/
theorem rd_slice {t e : TypeId} {sz n : Nat} {v : Value} {y : DataW H × List MemPlace} (ht : P.underlying t = some (.slice e)) (hc : P.cellsOf e = sz) (hsz : 0 < sz) (h : DataW.trod enc P w base (fun _ => true) held n t [v] = some y) :
    ∃ A len cap, v = .slice A len cap ∧ len ≤ 9223372036854775807 ∧ (A = none → len = 0) ∧ ∀ i, i < len → ∃ b off m cs z, A = some ⟨b, off, none⟩ ∧ b < w.heap.size ∧ cs.length = sz ∧ (∀ j, j < sz → w.cell? ⟨b, off + i * sz + j, none⟩ = cs[j]?) ∧
      DataW.trod enc P w base (fun _ => true) held m e cs = some z := by
  rcases open_slice ht h with ⟨h0, _⟩ | ⟨a, len, cap, m, n', D, Pl, h0, hb, hl, hm, hmm, _, hx⟩
  · injection h0 with h0
    exact ⟨none, 0, 0, h0, by omega, fun _ => rfl, fun i hi => by omega⟩
  · injection h0 with h0
    have hmx : maxLen = 9223372036854775807 := rfl
    refine ⟨some a, len, cap, h0, by omega, (fun h => by cases h), fun i hi => ?_⟩
    simp only [if_true] at hmm
    obtain ⟨cs, h1, h2⟩ := hx i (by omega)
    obtain ⟨_, hlen, hcell⟩ := World.cells?_some h1
    rw [hc] at hlen hcell
    have hc0 := hcell 0 hsz
    rw [List.getElem?_eq_getElem (by omega)] at hc0
    obtain ⟨b, off, spot⟩ := a
    have hadd : ∀ (x y : Nat), ((⟨b, off, spot⟩ : Addr).add x).add y = (⟨b, off, spot⟩ : Addr).add (x + y) := fun x y => add_of_add _ _ _
    have hsp : spot = none := by
      obtain ⟨cs0, g1, _⟩ := hx 0 (by omega)
      obtain ⟨_, glen, gcell⟩ := World.cells?_some g1
      rw [hc] at glen gcell
      have g0 := gcell 0 hsz
      rw [List.getElem?_eq_getElem (by omega)] at g0
      have := World.cell?_spot g0
      simpa [hadd, Addr.add] using this
    subst hsp
    have hform : ∀ x, (⟨b, off, none⟩ : Addr).add x = ⟨b, off + x, none⟩ := fun x => by
      unfold Addr.add
      by_cases hx0 : x = 0 <;> simp [hx0]
    refine ⟨b, off, n', cs, _, rfl, ?_, hlen, fun j hj => ?_, h2⟩
    · have := World.block_lt_of_cell? w _ hc0
      rw [hadd, hform] at this
      exact this
    · have := hcell j hj
      rw [hadd, hform] at this
      rw [← this, Nat.add_assoc]

theorem rd_int {t : TypeId} {n : Nat} {cs : List Value} {y : DataW H × List MemPlace} (ht : P.underlying t = some (.int .i64)) (h : DataW.trod enc P w base (fun _ => true) held n t cs = some y) : ∃ i : Int, cs = [.int .i64 i] ∧ -9223372036854775808 ≤ i ∧ i ≤ 9223372036854775807 := by
  obtain ⟨i, h1, _, h3⟩ := DataW.trod_int ht h
  refine ⟨i, h1, ?_⟩
  simpa [Lit.wf, IntKind.min, IntKind.max, IntKind.signed, IntKind.bits] using h3

def I64 (x : Int) : Prop := -9223372036854775808 ≤ x ∧ x ≤ 9223372036854775807

theorem rd_ints {t e : TypeId} {n : Nat} {v : Value} {y : DataW H × List MemPlace} (ht : P.underlying t = some (.slice e)) (he : P.underlying e = some (.int .i64)) (hc : P.cellsOf e = 1) (h : DataW.trod enc P w base (fun _ => true) held n t [v] = some y) :
    ∃ A c, ∃ l : List Int, v = .slice A l.length c ∧ Ints w A l ∧ l.length ≤ 9223372036854775807 ∧ (A = none → l = []) ∧ ∀ x ∈ l, I64 x := by
  obtain ⟨A, len, cap, rfl, hl, hn, hx⟩ := rd_slice ht hc (by omega) h
  have key : ∀ i, i < len → ∃ x : Int, (∃ b off, A = some ⟨b, off, none⟩ ∧ b < w.heap.size ∧ w.cell? ⟨b, off + i, none⟩ = some (.int .i64 x)) ∧ I64 x := by
    intro i hi
    obtain ⟨b, off, m, cs, z, hA, hb, hlen, hcell, ht'⟩ := hx i hi
    obtain ⟨x, rfl, h1, h2⟩ := rd_int he ht'
    have := hcell 0 (by omega)
    rw [Nat.mul_one, Nat.add_zero] at this
    exact ⟨x, ⟨b, off, hA, hb, this⟩, h1, h2⟩
  obtain ⟨f, hf⟩ := choose_lt key
  have hlen : ((List.range len).map f).length = len := by simp
  refine ⟨A, cap, (List.range len).map f, by rw [hlen], fun k hk => ?_, by omega, fun hA => by rw [hn hA]; rfl, fun x hx' => ?_⟩
  · rw [hlen] at hk
    obtain ⟨⟨b, off, h1, h2, h3⟩, _⟩ := hf k hk
    exact ⟨b, off, h1, h2, by rw [h3]; simp [List.getD, hk]⟩
  · obtain ⟨k, hk, rfl⟩ := List.mem_map.1 hx'
    exact (hf k (by simpa using hk)).2

/-- A world that only has more. -/
theorem since_of_ext {W W' : World} (h : Ext W W') : W.Since W.heap.size W' := ⟨h.os, h.tape, h.output, h.size, fun k hk => h.block k hk⟩
/-- An argument reads as before in a world that only has more. -/
theorem stays {t : TypeId} (hl : laidOutB P = true) (hr : P.readableRec t = true) (hrow : t < P.types.size) {W W' : World} {sp' : Nat → Bool} {v : Value} {d : DataW H} {ps : List MemPlace}
    (h : DataW.Trod enc P W 0 (fun _ => true) true t v d ps) (hE : Ext W W') (hlt : ∀ p ∈ ps, p.block < W.heap.size) (hs : ∀ p ∈ ps, sp' p.block = true) : DataW.Trod enc P W' 0 sp' true t v d ps :=
  WideElems.Trod_stays hl hr hrow h (fun p hp => (since_of_ext hE).sameAt (hlt p hp)) hs
end
end Go.Proofs.Ytdipcdallenmkaa

namespace Go.Proofs.Ytdipcdallenmkaa
open Go.RowKit Go.ChangeShapes Go.WideShapes Go.Deep Go.ChangeAt

section
variable {H : Type} {enc : TypeId × Value → H} {P : Program}
theorem staysAll (hl : laidOutB P = true) {W W' : World} (hE : Ext W W') {sp' : Nat → Bool} : ∀ {ts : List TypeId} {vs : List Value} {ds : List (DataW H)} {ps : List MemPlace}, (∀ t ∈ ts, P.readableRec t = true ∧ t < P.types.size) →
    DataW.TrodAll enc P W 0 (fun _ => true) true ts vs ds ps → (∀ p ∈ ps, p.block < W.heap.size) → (∀ p ∈ ps, sp' p.block = true) → DataW.TrodAll enc P W' 0 sp' true ts vs ds ps := by
  intro ts
  induction ts with
  | nil =>
    intro vs ds ps _ h _ _
    obtain ⟨rfl, rfl, rfl⟩ := trodAll_nil h
    exact trodAll_mk0
  | cons t ts ih =>
    intro vs ds ps ht h hlt hs
    obtain ⟨v, vs', d, ds', p, q, rfl, rfl, rfl, h0, hr⟩ := trodAll_cons h
    exact trodAll_cons_mk (stays hl (ht t List.mem_cons_self).1 (ht t List.mem_cons_self).2 h0 hE (fun x hx => hlt x (List.mem_append_left _ hx)) (fun x hx => hs x (List.mem_append_left _ hx)))
      (ih (fun t' h' => ht t' (List.mem_cons_of_mem _ h')) hr (fun x hx => hlt x (List.mem_append_right _ hx)) (fun x hx => hs x (List.mem_append_right _ hx)))

theorem trodLen {w : World} {base : Nat} {spare : Nat → Bool} {held : Bool} : ∀ {ts : List TypeId} {vs : List Value} {ds : List (DataW H)} {ps : List MemPlace}, DataW.TrodAll enc P w base spare held ts vs ds ps → ds.length = ts.length := by
  intro ts
  induction ts with
  | nil =>
    intro vs ds ps h
    obtain ⟨rfl, rfl, rfl⟩ := trodAll_nil h
    rfl
  | cons t ts ih =>
    intro vs ds ps h
    obtain ⟨v, vs', d, ds', p, q, rfl, rfl, rfl, h0, hr⟩ := trodAll_cons h
    simp [ih hr]

theorem law_post {f : Func} {s : ChangeSpec} {W W' : World} {args : Array Value} {ds gs : List (DataW H)} {before : List MemPlace} {tb : TypeId} (hl : laidOutB P = true) (hts : ∀ t ∈ f.params.toList, P.readableRec t = true ∧ t < P.types.size)
    (hv : s.vars = []) (hb : P.underlying tb = some .bool) (hrt : f.resultTypes = #[tb]) (hspec : ∀ l : List (DataW H), l.length = f.params.toList.length → s.fn H (l ++ []) = { results := [.lit (.bool true)], args := l, vars := [] })
    (hW : DataW.Whole enc P f.params.toList s.vars false W args.toList ds gs before) (hE : Ext W W') : s.post enc P f false true false false W args (.bool true) W' := by
  have hW' := hW
  obtain ⟨p, q, hA, hV, rfl, _, _⟩ := hW
  rw [hv] at hV
  obtain ⟨rfl, rfl⟩ := trodVars_none hV
  have hlt : ∀ x ∈ p, x.block < W.heap.size := fun x hx => hW'.lt x (by simp [hx])
  have hlen := trodLen hA
  have hs := hspec ds hlen
  refine ⟨ds, [], _, [], p, [], hW', ?_, ?_, ?_, (since_of_ext hE).frame _, fun h => by cases h⟩
  · rw [hs, hrt]
    exact trodAll_cons_mk (shut_bool hb _) trodAll_mk0
  · rw [hs]
    exact staysAll hl hE hts hA hlt (fun x hx => by simpa using hlt x hx)
  · rw [hs, hv]
    rfl
end
end Go.Proofs.Ytdipcdallenmkaa
