/- Cover: Slot, Ready of the reference. / Cover: the statement CoverReady. / Cover: the statement CoverCheapest. / Plain facts on memory: slices that read as lists, worlds that extend other worlds / How the form's readings of data give cells: slices, ints / What a law's row asks behind the walk: the call returned true and the world only has more / From handed data to abstract values; from a reading of a law to what its row asks / Cover: how pools and watches read. / Cover: Missed of the reference. / Cover, plain: more people on call. -/
import Derived.Test.YtbhjehpjjbbhbaaBb10
import Derived.Test.YtbhjehpjjbbhbaaBb8
import Derived.Test.YtbhjehpjjbbhbaaBb9
import Derived.WalkKit
import Derived.WalkSpells
import Derived.WalkLawsBesides
import Derived.Deep.QuietTactic
import Derived.BigQuiet
import Derived.Lib.Hide
import Derived.Deep.Slices
import Derived.Lib.SmallJoins
import Derived.OpenShut
import Derived.WideKeyArgs
import Derived.Deep.OwnRows
import Derived.ProofKit
import Derived.JoinedOf
import Derived.Test.YtbhjehpjjbbhbaaBb6
set_option linter.unusedSimpArgs false
set_option linter.unusedVariables false
namespace Go.Proofs.Ytbhjehpjjbbhbaa
open Go.RowKit

abbrev aNI (l : List Nat) : AV := .sl l.isEmpty l.isEmpty l.length 1 (fun k _ => AI (l.getD k 0 : Nat))
theorem outI_ni (l : List Nat) : outI (l.map fun (g : Nat) => (g : Int)) = aNI l := by
  have h1 : (l.map fun (g : Nat) => (g : Int)).isEmpty = l.isEmpty := by cases l <;> rfl
  have h2 : (l.map fun (g : Nat) => (g : Int)).length = l.length := by simp
  have h3 : (fun (k : Nat) (_ : Nat) => AI ((l.map fun (g : Nat) => (g : Int)).getD k 0)) = fun k _ => AI (l.getD k 0 : Nat) := by
    funext k o
    simp only [List.getD, List.getElem?_map]
    cases l[k]? <;> rfl
  show AV.sl _ _ _ _ _ = _
  rw [h1, h2, h3]
/-- The best one of the first ones, the first one among them. -/
def bestA (p : Pool) (l : List Nat) : Nat → Nat
  | 0 => l.getD 0 0
  | k + 1 => stepB p (bestA p l k) (l.getD k 0)
theorem bestA_to (p : Pool) (l : List Nat) : ∀ k, bestA p l (k + 1) = bestTo p l k
  | 0 => by
    show stepB p (l.getD 0 0) (l.getD 0 0) = l.getD 0 0
    unfold stepB; split <;> rfl
  | k + 1 => by
    show stepB p (bestA p l (k + 1)) _ = stepB p (bestTo p l k) _
    rw [bestA_to p l k]
theorem bestA_mem (p : Pool) (l : List Nat) (hl : 0 < l.length) : ∀ k, k ≤ l.length → bestA p l k ∈ l
  | 0, _ => getD_memN hl
  | k + 1, h => by
    show stepB p (bestA p l k) _ ∈ l
    unfold stepB
    split
    · exact getD_memN (by omega)
    · exact bestA_mem p l hl k (by omega)
set_option maxHeartbeats 4000000
set_option maxRecDepth 100000
theorem coversN_ok (f : PoF) (p : Pool) (s : Nat) (hs : s < p.needs.length) (h : PoolOk p) : ACall Try.prog 70 [aPool f p, AI s] [] (fun r h => r = aNI (coversT p s) ∧ h = []) := by
  have := covers_ok f p s hs h
  unfold covL at this
  rwa [outI_ni] at this
theorem refSlot_ok (f : PoF) (p : Pool) (s : Int) (hn : NearP p) : ACall Try.prog 41 [aPool f p, AI s] [] (fun r h => r = .tup 3 (ofL [AI (slotE p s).1, AI (slotE p s).2.1, AI (slotE p s).2.2]) ∧ h = []) := by
  have cC := refCheck_ok f p hn
  (refine fcall_of mixed Try.func41 rfl (by decide) (hs := { ord := [(12, [(0, []), (1, []), (2, []), (3, []), (4, []), (6, []), (7, []), (5, [6]), (8, []), (9, []), (10, [])])] }) ?k (ac := ?ac) ?c (rs := ?rs) ?r ?l ?H; (case k => kernel_rfl); (case c => (conv => (lhs; cbv))); (case r => (conv => (lhs; cbv))); (case l => exact Nat.le_of_ble_eq_true rfl))
  cases hk : p.ok
  · have hE : slotE p s = (0, 0, 100) := by unfold slotE; rw [hk]; rfl
    rw [check_100 hk] at cC
    rw [hE]
    (repeat' ((try (conv => whnf)); first | (with_reducible first | refine FCond.tA ?_ | refine FCond.fA ?_) | ((with_reducible refine FCond.i (fun hq => ?_) (fun hq => ?_)) <;> (try simp only [zA, zE, zD, zJ, zB, zI, Int.not_le, Int.not_lt] at hq)) | (with_reducible first | refine Fits.in64 (by omega) ?_ | refine FIdx.nat (by omega) ?_ | refine FIdx.int (by omega) ?_ | refine FTo.nat (by omega) ?_ | refine FTo.int (by omega) ?_) | ((with_reducible refine Need.mk ?_ ?_); focus exact needA) | (with_reducible refine FApp.grow ?_) | (refine FCall.pure (cC) ⟨Ln.sameB _ rfl, True.intro⟩ rfl ?_)))
    all_goals (try (conv => whnf))
    (refine ⟨⟨_, [], [], Cut.nil _, Ln.sameB _ rfl, ?_, rfl⟩⟩)
    rfl
  · have h := pool_d hk
    have s6 := h.s6
    have n8 := h.n8
    have hp8 := pow8 n8
    rw [check_0.2 hk] at cC
    by_cases hs : 0 ≤ s ∧ s ≤ p.needs.length - 1
    · obtain ⟨i, rfl⟩ : ∃ i : Nat, s = i := ⟨s.toNat, by omega⟩
      have cS := isSlot_ok f p i (by omega)
      rw [show inB (i : Int) 0 (p.needs.length - 1) = true from decide_eq_true hs] at cS
      have cV := coversN_ok f p i (by omega) h
      have hE : slotE p i = match coversT p i with | [] => (0, 0, 3) | g :: l => ((bestG p (g :: l) : Int), payT p (bestG p (g :: l)), 0) := by
        unfold slotE; rw [if_pos hk, if_pos (decide_eq_true hs), Int.toNat_natCast]
        try rfl
      have hmem := fun g => covers_mem (p := p) (s := i) (g := g)
      have hlen := covers_len p i
      rcases hL : coversT p i with _ | ⟨g, l⟩
      · rw [hL] at hE cV
        have hE : slotE p i = (0, 0, 3) := hE
        rw [hE]
        (repeat' ((try (conv => whnf)); first | (with_reducible first | refine FCond.tA ?_ | refine FCond.fA ?_) | ((with_reducible refine FCond.i (fun hq => ?_) (fun hq => ?_)) <;> (try simp only [zA, zE, zD, zJ, zB, zI, Int.not_le, Int.not_lt] at hq)) | (with_reducible first | refine Fits.in64 (by omega) ?_ | refine FIdx.nat (by omega) ?_ | refine FIdx.int (by omega) ?_ | refine FTo.nat (by omega) ?_ | refine FTo.int (by omega) ?_) | ((with_reducible refine Need.mk ?_ ?_); focus exact needA) | (with_reducible refine FApp.grow ?_) | (refine FCall.pure (cC) ⟨Ln.sameB _ rfl, True.intro⟩ rfl ?_) | (refine FCall.pure (cS) ⟨Ln.sameB _ rfl, Ln.sameB _ rfl, True.intro⟩ rfl ?_) | (refine FCall.pure (cV) ⟨Ln.sameB _ rfl, Ln.sameB _ rfl, True.intro⟩ rfl ?_)))
        all_goals (try (conv => whnf))
        (refine ⟨⟨_, [], [], Cut.nil _, Ln.sameB _ rfl, ?_, rfl⟩⟩)
        rfl
      · rw [hL] at hE cV hmem hlen
        have hE : slotE p i = ((bestG p (g :: l) : Int), payT p (bestG p (g :: l)), 0) := hE
        have hlen : l.length + 1 ≤ 2 ^ p.folk.length := hlen
        have hbA : bestA p (g :: l) (l.length + 1) = bestG p (g :: l) := bestA_to p (g :: l) l.length
        rw [hE]
        (repeat' ((try (conv => whnf)); first | (with_reducible first | refine FCond.tA ?_ | refine FCond.fA ?_) | ((with_reducible refine FCond.i (fun hq => ?_) (fun hq => ?_)) <;> (try simp only [zA, zE, zD, zJ, zB, zI, Int.not_le, Int.not_lt] at hq)) | (with_reducible first | refine Fits.in64 (by omega) ?_ | refine FIdx.nat (by omega) ?_ | refine FIdx.int (by omega) ?_ | refine FTo.nat (by omega) ?_ | refine FTo.int (by omega) ?_) | ((with_reducible refine Need.mk ?_ ?_); focus exact needA) | (with_reducible refine FApp.grow ?_) | (refine FCall.pure (cC) ⟨Ln.sameB _ rfl, True.intro⟩ rfl ?_) | (refine FCall.pure (cS) ⟨Ln.sameB _ rfl, Ln.sameB _ rfl, True.intro⟩ rfl ?_) | (refine FCall.pure (cV) ⟨Ln.sameB _ rfl, Ln.sameB _ rfl, True.intro⟩ rfl ?_)))
        all_goals (try (conv => whnf))
        · exact absurd hq (by simp only [List.length_cons]; omega)
        have hgl : (g :: l).length = l.length + 1 := rfl
        refine FLoop.of (ACalls.mono _) (X := Nat) (fun k => [(2, .ptr 0 0), (7, aNI (g :: l)), (8, AI (bestA p (g :: l) k : Nat)), (9, AI k)]) (fun _ => [.box 4 (cPool f p)]) (fun k => k ≤ l.length + 1) (fun k => l.length + 1 - k) 0 ⟨Nat.zero_le _, [0], Cut.A, allA⟩ ?_
        intro k hk2
        have hbm := bestA_mem p (g :: l) (by simp) k (by simpa using hk2)
        have hb2 := (hmem _ hbm).1
        by_cases hlt : k < l.length + 1
        · have hgm : (g :: l).getD k 0 ∈ (g :: l) := getD_memN (by simpa using hlt)
          have hg2 := (hmem _ hgm).1
          have hst : bestA p (g :: l) (k + 1) = stepB p (bestA p (g :: l) k) ((g :: l).getD k 0) := rfl
          generalize bestA p (g :: l) k = b at hst hb2 ⊢
          have c1 := refPay_ok f p ((g :: l).getD k 0) h
          have c2 := refPay_ok f p b h
          have c3 := size_ok ((g :: l).getD k 0) (by omega)
          have c4 := size_ok b (by omega)
          (repeat' ((try (conv => whnf)); first | (with_reducible first | refine FCond.tA ?_ | refine FCond.fA ?_) | ((with_reducible refine FCond.i (fun hq => ?_) (fun hq => ?_)) <;> (try simp only [zA, zE, zD, zJ, zB, zI, Int.not_le, Int.not_lt] at hq)) | (with_reducible first | refine Fits.in64 (by omega) ?_ | refine FIdx.nat (by omega) ?_ | refine FIdx.int (by omega) ?_ | refine FTo.nat (by omega) ?_ | refine FTo.int (by omega) ?_) | ((with_reducible refine Need.mk ?_ ?_); focus exact needA) | (with_reducible refine FApp.grow ?_) | (refine FCall.pure (c1) ⟨Ln.sameB _ rfl, Ln.sameB _ rfl, True.intro⟩ rfl ?_) | (refine FCall.pure (c2) ⟨Ln.sameB _ rfl, Ln.sameB _ rfl, True.intro⟩ rfl ?_) | (refine FCall.pure (c3) ⟨Ln.sameB _ rfl, True.intro⟩ rfl ?_) | (refine FCall.pure (c4) ⟨Ln.sameB _ rfl, True.intro⟩ rfl ?_)))
          all_goals (try (conv => whnf))
          all_goals first
            | (rw [stepB, if_pos (by omega)] at hst; (exact ⟨⟨(k + 1), hlt, by show _ < _; omega, [0], Cut.A, allA⟩⟩))
            | (rw [stepB, if_neg (by omega)] at hst; (exact ⟨⟨(k + 1), hlt, by show _ < _; omega, [0], Cut.A, allA⟩⟩))
        · obtain rfl : k = l.length + 1 := by omega
          rw [hbA] at hb2 ⊢
          have c2 := refPay_ok f p (bestG p (g :: l)) h
          (repeat' ((try (conv => whnf)); first | (with_reducible first | refine FCond.tA ?_ | refine FCond.fA ?_) | ((with_reducible refine FCond.i (fun hq => ?_) (fun hq => ?_)) <;> (try simp only [zA, zE, zD, zJ, zB, zI, Int.not_le, Int.not_lt] at hq)) | (with_reducible first | refine Fits.in64 (by omega) ?_ | refine FIdx.nat (by omega) ?_ | refine FIdx.int (by omega) ?_ | refine FTo.nat (by omega) ?_ | refine FTo.int (by omega) ?_) | ((with_reducible refine Need.mk ?_ ?_); focus exact needA) | (with_reducible refine FApp.grow ?_) | (refine FCall.pure (c2) ⟨Ln.sameB _ rfl, Ln.sameB _ rfl, True.intro⟩ rfl ?_)))
          all_goals (try (conv => whnf))
          (refine ⟨⟨_, [], [], Cut.nil _, Ln.sameB _ rfl, ?_, rfl⟩⟩)
          rfl
    · have cS := isSlot_ok f p s (by omega)
      rw [show inB s 0 (p.needs.length - 1) = false from decide_eq_false hs] at cS
      have hE : slotE p s = (0, 0, 1) := by unfold slotE; rw [if_pos hk, if_neg (by rw [show inB s 0 (p.needs.length - 1) = false from decide_eq_false hs]; decide)]
      rw [hE]
      (repeat' ((try (conv => whnf)); first | (with_reducible first | refine FCond.tA ?_ | refine FCond.fA ?_) | ((with_reducible refine FCond.i (fun hq => ?_) (fun hq => ?_)) <;> (try simp only [zA, zE, zD, zJ, zB, zI, Int.not_le, Int.not_lt] at hq)) | (with_reducible first | refine Fits.in64 (by omega) ?_ | refine FIdx.nat (by omega) ?_ | refine FIdx.int (by omega) ?_ | refine FTo.nat (by omega) ?_ | refine FTo.int (by omega) ?_) | ((with_reducible refine Need.mk ?_ ?_); focus exact needA) | (with_reducible refine FApp.grow ?_) | (refine FCall.pure (cC) ⟨Ln.sameB _ rfl, True.intro⟩ rfl ?_) | (refine FCall.pure (cS) ⟨Ln.sameB _ rfl, Ln.sameB _ rfl, True.intro⟩ rfl ?_)))
      all_goals (try (conv => whnf))
      (refine ⟨⟨_, [], [], Cut.nil _, Ln.sameB _ rfl, ?_, rfl⟩⟩)
      rfl
theorem spare_of {p : Pool} (h : PoolOk p) {s g x : Nat} (hs : s < p.needs.length) (hg : g < 2 ^ p.folk.length) (hx : x ≤ pop g + 1) (hl : ∀ j, j < x → standsT p s g (j : Nat) = true) (he : x = pop g + 1 ∨ standsT p s g (x : Nat) = false) : spareT p s g = (x : Int) - 1 := by
  have hb := spare_b (p := p) s g
  rcases he with e | e
  · have := (stands_spare h hs hg (k := ((x - 1 : Nat) : Int)) (by omega)).1 (hl (x - 1) (by omega))
    omega
  · have h1 : ¬ ((x : Int) ≤ spareT p s g ∨ (pop g : Int) ≤ spareT p s g) := fun hh => by
      rw [(stands_spare h hs hg (k := (x : Int)) (by omega)).2 hh] at e; cases e
    rcases x with _ | x
    · omega
    · have := (stands_spare h hs hg (k := (x : Int)) (by omega)).1 (hl x (by omega))
      omega
theorem refReady_ok (f : PoF) (p : Pool) (z e : Bool) (w : List Int) (s : Int) (hn : NearP p) (hl : w.length ≤ 1000) : ACall Try.prog 33 [aPool f p, aInts z e w, AI s] [] (fun r h => r = .tup 2 (ofL [AI (readyE p w s).1, AI (readyE p w s).2]) ∧ h = []) := by
  have cW := checkWatch_ok f p z e w hn hl
  (refine fcall_of mixed Try.func33 rfl (by decide) (hs := {}) ?k (ac := ?ac) ?c (rs := ?rs) ?r ?l ?H; (case k => kernel_rfl); (case c => (conv => (lhs; cbv))); (case r => (conv => (lhs; cbv))); (case l => exact Nat.le_of_ble_eq_true rfl))
  by_cases hk : checkW p w = 0
  · obtain ⟨h, k⟩ := checkW_d hk
    have s6 := h.s6
    have hlen := k.len
    have hp8 := pow8 h.n8
    rw [hk] at cW
    by_cases hs : 0 ≤ s ∧ s ≤ p.needs.length - 1
    · have hE : readyE p w s = (spareT p s.toNat (w.getD s.toNat 0).toNat, 0) := by unfold readyE; rw [if_pos hk, if_pos (decide_eq_true hs)]
      obtain ⟨i, rfl⟩ : ∃ i : Nat, s = i := ⟨s.toNat, by omega⟩
      have cS := isSlot_ok f p i (by omega)
      rw [show inB (i : Int) 0 (p.needs.length - 1) = true from decide_eq_true hs] at cS
      rw [hE, Int.toNat_natCast]
      obtain ⟨e1, e2, _⟩ := k.el i (by omega)
      obtain ⟨g, hg⟩ : ∃ g : Nat, w.getD i 0 = g := ⟨(w.getD i 0).toNat, by omega⟩
      rw [hg, Int.toNat_natCast] at e2
      have e2' := e2
      rw [hg, Int.toNat_natCast]
      have cZ := size_ok g (by omega)
      have hpg := popTo_le g 8
      rw [pop_popTo g (by omega)] at hpg
      (repeat' ((try (conv => whnf)); first | (with_reducible first | refine FCond.tA ?_ | refine FCond.fA ?_) | ((with_reducible refine FCond.i (fun hq => ?_) (fun hq => ?_)) <;> (try simp only [zA, zE, zD, zJ, zB, zI, Int.not_le, Int.not_lt] at hq)) | (with_reducible first | refine Fits.in64 (by omega) ?_ | refine FIdx.nat (by omega) ?_ | refine FIdx.int (by omega) ?_ | refine FTo.nat (by omega) ?_ | refine FTo.int (by omega) ?_) | ((with_reducible refine Need.mk ?_ ?_); focus exact needA) | (with_reducible refine FApp.grow ?_) | (refine FCall.pure (cW) ⟨Ln.sameB _ rfl, Ln.sameB _ rfl, True.intro⟩ rfl ?_) | (refine FCall.pure (cS) ⟨Ln.sameB _ rfl, Ln.sameB _ rfl, True.intro⟩ rfl ?_)))
      all_goals (try (conv => whnf))
      refine FLoop.of (ACalls.mono _) (X := Nat) (fun x => [(1, aInts z e w), (2, AI i), (3, .ptr 0 0), (9, AI ((x : Int) - 1))]) (fun _ => [.box 4 (cPool f p)]) (fun x => x ≤ pop g + 1 ∧ ∀ j, j < x → standsT p i g (j : Nat) = true) (fun x => pop g + 1 - x) 0 ⟨⟨Nat.zero_le _, fun j hj => absurd hj (Nat.not_lt_zero j)⟩, [0], Cut.A, allA⟩ ?_
      rintro x ⟨hx, hj⟩
      have cT := stands_ok f p i g ((x : Int) - 1 + 1) (by omega) (by omega) h
      rw [← hg] at cZ cT
      (repeat' ((try (conv => whnf)); first | (with_reducible first | refine FCond.tA ?_ | refine FCond.fA ?_) | ((with_reducible refine FCond.i (fun hq => ?_) (fun hq => ?_)) <;> (try simp only [zA, zE, zD, zJ, zB, zI, Int.not_le, Int.not_lt] at hq)) | (with_reducible first | refine Fits.in64 (by omega) ?_ | refine FIdx.nat (by omega) ?_ | refine FIdx.int (by omega) ?_ | refine FTo.nat (by omega) ?_ | refine FTo.int (by omega) ?_) | ((with_reducible refine Need.mk ?_ ?_); focus exact needA) | (with_reducible refine FApp.grow ?_) | (refine FCall.pure (cZ) ⟨Ln.sameB _ rfl, True.intro⟩ rfl ?_) | (refine FCall.pure (cT) ⟨Ln.sameB _ rfl, Ln.sameB _ rfl, Ln.sameB _ rfl, Ln.sameB _ rfl, True.intro⟩ rfl ?_)))
      all_goals (try (conv => whnf))
      · have e : (x : Int) - 1 + 1 = ((x + 1 : Nat) : Int) - 1 := by omega
        have e2 : (x : Int) - 1 + 1 = x := by omega
        rw [e2] at hq
        rw [e]
        (exact ⟨⟨(x + 1), ⟨by omega, below_step hj hq⟩, by show _ < _; omega, [0], Cut.A, allA⟩⟩)
      · have e2 : (x : Int) - 1 + 1 = x := by omega
        rw [e2] at hq
        rw [spare_of h (by omega) e2' hx hj (.inr hq)]
        (refine ⟨⟨_, [], [], Cut.nil _, Ln.sameB _ rfl, ?_, rfl⟩⟩)
        rfl
      · rw [spare_of h (by omega) e2' hx hj (.inl (by omega))]
        (refine ⟨⟨_, [], [], Cut.nil _, Ln.sameB _ rfl, ?_, rfl⟩⟩)
        rfl
    · have cS := isSlot_ok f p s (by omega)
      rw [show inB s 0 (p.needs.length - 1) = false from decide_eq_false hs] at cS
      have hE : readyE p w s = (0, 1) := by unfold readyE; rw [if_pos hk, if_neg (by rw [show inB s 0 (p.needs.length - 1) = false from decide_eq_false hs]; decide)]
      rw [hE]
      (repeat' ((try (conv => whnf)); first | (with_reducible first | refine FCond.tA ?_ | refine FCond.fA ?_) | ((with_reducible refine FCond.i (fun hq => ?_) (fun hq => ?_)) <;> (try simp only [zA, zE, zD, zJ, zB, zI, Int.not_le, Int.not_lt] at hq)) | (with_reducible first | refine Fits.in64 (by omega) ?_ | refine FIdx.nat (by omega) ?_ | refine FIdx.int (by omega) ?_ | refine FTo.nat (by omega) ?_ | refine FTo.int (by omega) ?_) | ((with_reducible refine Need.mk ?_ ?_); focus exact needA) | (with_reducible refine FApp.grow ?_) | (refine FCall.pure (cW) ⟨Ln.sameB _ rfl, Ln.sameB _ rfl, True.intro⟩ rfl ?_) | (refine FCall.pure (cS) ⟨Ln.sameB _ rfl, Ln.sameB _ rfl, True.intro⟩ rfl ?_)))
      all_goals (try (conv => whnf))
      (refine ⟨⟨_, [], [], Cut.nil _, Ln.sameB _ rfl, ?_, rfl⟩⟩)
      rfl
  · have hE : readyE p w s = (0, checkW p w) := by unfold readyE; rw [if_neg hk]
    rw [hE]
    (repeat' ((try (conv => whnf)); first | (with_reducible first | refine FCond.tA ?_ | refine FCond.fA ?_) | ((with_reducible refine FCond.i (fun hq => ?_) (fun hq => ?_)) <;> (try simp only [zA, zE, zD, zJ, zB, zI, Int.not_le, Int.not_lt] at hq)) | (with_reducible first | refine Fits.in64 (by omega) ?_ | refine FIdx.nat (by omega) ?_ | refine FIdx.int (by omega) ?_ | refine FTo.nat (by omega) ?_ | refine FTo.int (by omega) ?_) | ((with_reducible refine Need.mk ?_ ?_); focus exact needA) | (with_reducible refine FApp.grow ?_) | (refine FCall.pure (cW) ⟨Ln.sameB _ rfl, Ln.sameB _ rfl, True.intro⟩ rfl ?_)))
    all_goals (try (conv => whnf))
    (refine ⟨⟨_, [], [], Cut.nil _, Ln.sameB _ rfl, ?_, rfl⟩⟩)
    rfl
end Go.Proofs.Ytbhjehpjjbbhbaa

namespace Go.Proofs.Ytbhjehpjjbbhbaa
open Go.RowKit

def covTo (p : Pool) (w : List Int) : Nat → Bool
  | 0 => true
  | s + 1 => covTo p w s && coveredT p s (w.getD s 0).toNat
theorem covTo_all (p : Pool) (w : List Int) : ∀ s, covTo p w s = (List.range s).all fun s => coveredT p s (w.getD s 0).toNat
  | 0 => rfl
  | s + 1 => by rw [List.range_succ, List.all_append, covTo, covTo_all p w s]; simp
theorem safe_to (p : Pool) (w : List Int) : safeT p w = covTo p w w.length := (covTo_all p w _).symm
theorem covered_min {p : Pool} (h : PoolOk p) {s g : Nat} (hs : s < p.needs.length) (hg : g < 2 ^ p.folk.length) : coveredT p s g = decide (min p.ill (pop g) ≤ spareT p s g) := by
  have := stands_spare h hs hg (k := p.ill) h.ill.1
  rw [Bool.eq_iff_iff, decide_eq_true_eq]
  exact this.trans (by omega)
theorem checkW_0 {p : Pool} {w : List Int} (hk : p.ok = true) (h : isWatch p w = true) : checkW p w = 0 := by unfold checkW; rw [if_pos hk, if_pos h]
set_option maxHeartbeats 4000000
set_option maxRecDepth 100000
theorem cready_any (f : PoF) (p : Pool) (z : Bool) (w : List Int) (hw : ∀ s, s < w.length → in64 (w.getD s 0)) (hlw : w.length ≤ 9223372036854775807) : ACall Try.prog 6 [aPool f p, aInts z false w] [] (fun v h => v = .bool true ∧ h = []) := by
  have hcv := valid_ok f p
  (refine fcall_of mixed Try.func6 rfl (by decide) (hs := { ord := [(11, [(0, []), (1, []), (2, []), (3, []), (4, []), (5, []), (6, []), (7, []), (8, []), (9, [4]), (10, []), (11, []), (12, []), (13, [])])] }) ?k (ac := ?ac) ?c (rs := ?rs) ?r ?l ?H; (case k => kernel_rfl); (case c => (conv => (lhs; cbv))); (case r => (conv => (lhs; cbv))); (case l => exact Nat.le_of_ble_eq_true rfl))
  cases hv : validT p
  · rw [hv] at hcv
    (repeat' ((try (conv => whnf)); first | (with_reducible first | refine FCond.tA ?_ | refine FCond.fA ?_) | ((with_reducible refine FCond.i (fun hq => ?_) (fun hq => ?_)) <;> (try simp only [zA, zE, zD, zJ, zB, zI, Int.not_le, Int.not_lt] at hq)) | (with_reducible first | refine Fits.in64 (by omega) ?_ | refine FIdx.nat (by omega) ?_ | refine FIdx.int (by omega) ?_ | refine FTo.nat (by omega) ?_ | refine FTo.int (by omega) ?_) | ((with_reducible refine Need.mk ?_ ?_); focus exact needA) | (with_reducible refine FApp.grow ?_) | (refine FCall.pure (hcv) ⟨Ln.sameB _ rfl, True.intro⟩ rfl ?_) | (refine FCall.pure works_ok True.intro rfl ?_)))
    all_goals (try (conv => whnf))
    all_goals ((refine ⟨⟨_, [], [], Cut.nil _, Ln.sameB _ rfl, ?_, rfl⟩⟩); rfl)
  rw [hv] at hcv
  obtain ⟨hn, hk, h, hs⟩ := valid_d hv
  by_cases hl : w.length ≤ 20
  · have ciw := isWatch_ok f p z false w (by omega) h
    cases hq : isWatch p w
    · rw [hq] at ciw
      (repeat' ((try (conv => whnf)); first | (with_reducible first | refine FCond.tA ?_ | refine FCond.fA ?_) | ((with_reducible refine FCond.i (fun hq => ?_) (fun hq => ?_)) <;> (try simp only [zA, zE, zD, zJ, zB, zI, Int.not_le, Int.not_lt] at hq)) | (with_reducible first | refine Fits.in64 (by omega) ?_ | refine FIdx.nat (by omega) ?_ | refine FIdx.int (by omega) ?_ | refine FTo.nat (by omega) ?_ | refine FTo.int (by omega) ?_) | ((with_reducible refine Need.mk ?_ ?_); focus exact needA) | (with_reducible refine FApp.grow ?_) | (refine FCall.pure (hcv) ⟨Ln.sameB _ rfl, True.intro⟩ rfl ?_) | (refine FCall.pure (ciw) ⟨Ln.sameB _ rfl, Ln.sameB _ rfl, True.intro⟩ rfl ?_) | (refine FCall.pure works_ok True.intro rfl ?_)))
      all_goals (try (conv => whnf))
      all_goals ((refine ⟨⟨_, [], [], Cut.nil _, Ln.sameB _ rfl, ?_, rfl⟩⟩); rfl)
    rw [hq] at ciw
    have k := watch_d hq
    have hcw := checkW_0 hk hq
    have hlen := k.len
    have s6 := h.s6
    have cS := psafe_ok f p z false w hn hw (by omega)
    rw [show safeE p w = (safeT p w, 0) by unfold safeE; rw [if_pos hcw]] at cS
    (repeat' ((try (conv => whnf)); first | (with_reducible first | refine FCond.tA ?_ | refine FCond.fA ?_) | ((with_reducible refine FCond.i (fun hq => ?_) (fun hq => ?_)) <;> (try simp only [zA, zE, zD, zJ, zB, zI, Int.not_le, Int.not_lt] at hq)) | (with_reducible first | refine Fits.in64 (by omega) ?_ | refine FIdx.nat (by omega) ?_ | refine FIdx.int (by omega) ?_ | refine FTo.nat (by omega) ?_ | refine FTo.int (by omega) ?_) | ((with_reducible refine Need.mk ?_ ?_); focus exact needA) | (with_reducible refine FApp.grow ?_) | (refine FCall.pure (hcv) ⟨Ln.sameB _ rfl, True.intro⟩ rfl ?_) | (refine FCall.pure (ciw) ⟨Ln.sameB _ rfl, Ln.sameB _ rfl, True.intro⟩ rfl ?_) | (refine FCall.pure (cS) ⟨Ln.sameB _ rfl, Ln.sameB _ rfl, True.intro⟩ rfl ?_)))
    all_goals (try (conv => whnf))
    refine FLoop.of (ACalls.mono _) (X := Nat × Bool) (fun x => [(1, aInts z false w), (2, .ptr 0 0), (5, .bool (safeT p w)), (6, AI 0), (7, .bool x.2), (8, AI x.1)]) (fun _ => [.box 4 (cPool f p)]) (fun x => x.1 ≤ w.length ∧ covTo p w x.1 = x.2) (fun x => w.length - x.1) (0, true) ⟨⟨Nat.zero_le _, rfl⟩, [0], Cut.A, allA⟩ ?_
    rintro ⟨s, b⟩ ⟨hs, hb⟩
    simp only at hs hb
    by_cases hlt : s < w.length
    · obtain ⟨e1, e2, _⟩ := k.el s hlt
      obtain ⟨m, hm⟩ : ∃ m : Nat, w.getD s 0 = m := ⟨(w.getD s 0).toNat, by omega⟩
      have hp8 := pow8 h.n8
      have cR := pready_ok f p z false w s hn hw
      have hst : covTo p w (s + 1) = (covTo p w s && coveredT p s (w.getD s 0).toNat) := rfl
      rw [hm, Int.toNat_natCast] at e2 hst
      rw [covered_min h (by omega) e2] at hst
      have hsb := spare_b (p := p) s m
      rw [show readyE p w s = (spareT p s m, 0) by unfold readyE; rw [if_pos hcw, if_pos (decide_eq_true (by omega)), Int.toNat_natCast, hm, Int.toNat_natCast]] at cR
      have cZ := size_ok m (by omega)
      rw [← hm] at cZ
      rw [hb] at hst
      cases b
      · (repeat' ((try (conv => whnf)); first | (with_reducible first | refine FCond.tA ?_ | refine FCond.fA ?_) | ((with_reducible refine FCond.i (fun hq => ?_) (fun hq => ?_)) <;> (try simp only [zA, zE, zD, zJ, zB, zI, Int.not_le, Int.not_lt] at hq)) | (with_reducible first | refine Fits.in64 (by omega) ?_ | refine FIdx.nat (by omega) ?_ | refine FIdx.int (by omega) ?_ | refine FTo.nat (by omega) ?_ | refine FTo.int (by omega) ?_) | ((with_reducible refine Need.mk ?_ ?_); focus exact needA) | (with_reducible refine FApp.grow ?_) | (refine FCall.pure (cR) ⟨Ln.sameB _ rfl, Ln.sameB _ rfl, Ln.sameB _ rfl, True.intro⟩ rfl ?_) | (refine FCall.pure (cZ) ⟨Ln.sameB _ rfl, True.intro⟩ rfl ?_)))
        all_goals (try (conv => whnf))
        (exact ⟨⟨(s + 1, false), ⟨hlt, hst⟩, by show _ < _; omega, [0], Cut.A, allA⟩⟩)
      · (repeat' ((try (conv => whnf)); first | (with_reducible first | refine FCond.tA ?_ | refine FCond.fA ?_) | ((with_reducible refine FCond.i (fun hq => ?_) (fun hq => ?_)) <;> (try simp only [zA, zE, zD, zJ, zB, zI, Int.not_le, Int.not_lt] at hq)) | (with_reducible first | refine Fits.in64 (by omega) ?_ | refine FIdx.nat (by omega) ?_ | refine FIdx.int (by omega) ?_ | refine FTo.nat (by omega) ?_ | refine FTo.int (by omega) ?_) | ((with_reducible refine Need.mk ?_ ?_); focus exact needA) | (with_reducible refine FApp.grow ?_) | (refine FCall.pure (cR) ⟨Ln.sameB _ rfl, Ln.sameB _ rfl, Ln.sameB _ rfl, True.intro⟩ rfl ?_) | (refine FCall.pure (cZ) ⟨Ln.sameB _ rfl, True.intro⟩ rfl ?_)))
        all_goals (try (conv => whnf))
        (exact ⟨⟨(s + 1, decide (min p.ill (pop m) ≤ spareT p s m)), ⟨hlt, hst⟩, by show _ < _; omega, [0], Cut.A, allA⟩⟩)
    · obtain rfl : s = w.length := by omega
      rw [safe_to, hb]
      cases b
      all_goals
        (repeat' ((try (conv => whnf)); first | (with_reducible first | refine FCond.tA ?_ | refine FCond.fA ?_) | ((with_reducible refine FCond.i (fun hq => ?_) (fun hq => ?_)) <;> (try simp only [zA, zE, zD, zJ, zB, zI, Int.not_le, Int.not_lt] at hq)) | (with_reducible first | refine Fits.in64 (by omega) ?_ | refine FIdx.nat (by omega) ?_ | refine FIdx.int (by omega) ?_ | refine FTo.nat (by omega) ?_ | refine FTo.int (by omega) ?_) | ((with_reducible refine Need.mk ?_ ?_); focus exact needA) | (with_reducible refine FApp.grow ?_) | (refine FCall.pure works_ok True.intro rfl ?_)))
        all_goals (try (conv => whnf))
        · (refine ⟨⟨_, [], [], Cut.nil _, Ln.sameB _ rfl, ?_, rfl⟩⟩)
          rfl
        · exact absurd hq (by decide)
  · (repeat' ((try (conv => whnf)); first | (with_reducible first | refine FCond.tA ?_ | refine FCond.fA ?_) | ((with_reducible refine FCond.i (fun hq => ?_) (fun hq => ?_)) <;> (try simp only [zA, zE, zD, zJ, zB, zI, Int.not_le, Int.not_lt] at hq)) | (with_reducible first | refine Fits.in64 (by omega) ?_ | refine FIdx.nat (by omega) ?_ | refine FIdx.int (by omega) ?_ | refine FTo.nat (by omega) ?_ | refine FTo.int (by omega) ?_) | ((with_reducible refine Need.mk ?_ ?_); focus exact needA) | (with_reducible refine FApp.grow ?_) | (refine FCall.pure (hcv) ⟨Ln.sameB _ rfl, True.intro⟩ rfl ?_) | (refine FCall.pure works_ok True.intro rfl ?_)))
    all_goals (try (conv => whnf))
    all_goals ((refine ⟨⟨_, [], [], Cut.nil _, Ln.sameB _ rfl, ?_, rfl⟩⟩); rfl)
end Go.Proofs.Ytbhjehpjjbbhbaa

namespace Go.Proofs.Ytbhjehpjjbbhbaa
open Go.RowKit

theorem ltL_step {a b : List Int} {i : Nat} (ha : i < a.length) (hb : i < b.length) (he : ltL a b = ltL (a.drop i) (b.drop i)) (e : a.getD i 0 = b.getD i 0) : ltL a b = ltL (a.drop (i + 1)) (b.drop (i + 1)) := by
  rw [he, drop_eq 0 ha, drop_eq 0 hb, ltL, if_pos e]
theorem ltL_diff {a b : List Int} {i : Nat} (ha : i < a.length) (hb : i < b.length) (he : ltL a b = ltL (a.drop i) (b.drop i)) (e : ¬ a.getD i 0 = b.getD i 0) : ltL a b = decide (a.getD i 0 < b.getD i 0) := by
  rw [he, drop_eq 0 ha, drop_eq 0 hb, ltL, if_neg e]
set_option maxHeartbeats 8000000
set_option maxRecDepth 100000
theorem before_ok (z e z2 e2 : Bool) (a b : List Int) (hl : a.length = b.length) (h1 : a.length ≤ 1000) : ACall Try.prog 40 [aInts z e a, aInts z2 e2 b] [] (fun r h => r = .bool (ltL a b) ∧ h = []) := by
  (refine fcall_of mixed Try.func40 rfl (by decide) (hs := {}) ?k (ac := ?ac) ?c (rs := ?rs) ?r ?l ?H; (case k => kernel_rfl); (case c => (conv => (lhs; cbv))); (case r => (conv => (lhs; cbv))); (case l => exact Nat.le_of_ble_eq_true rfl))
  (repeat' ((try (conv => whnf)); first | (with_reducible first | refine FCond.tA ?_ | refine FCond.fA ?_) | ((with_reducible refine FCond.i (fun hq => ?_) (fun hq => ?_)) <;> (try simp only [zA, zE, zD, zJ, zB, zI, Int.not_le, Int.not_lt] at hq)) | (with_reducible first | refine Fits.in64 (by omega) ?_ | refine FIdx.nat (by omega) ?_ | refine FIdx.int (by omega) ?_ | refine FTo.nat (by omega) ?_ | refine FTo.int (by omega) ?_) | ((with_reducible refine Need.mk ?_ ?_); focus exact needA) | (with_reducible refine FApp.grow ?_)))
  all_goals (try (conv => whnf))
  refine FLoop.of (ACalls.mono _) (X := Nat) (fun i => [(0, aInts z e a), (1, aInts z2 e2 b), (5, AI i)]) (fun _ => []) (fun i => i ≤ a.length ∧ ltL a b = ltL (a.drop i) (b.drop i)) (fun i => a.length - i) 0 ⟨⟨Nat.zero_le _, rfl⟩, [], Cut.A, allA⟩ ?_
  rintro i ⟨hi, hL⟩
  by_cases hlt : i < a.length
  · (repeat' ((try (conv => whnf)); first | (with_reducible first | refine FCond.tA ?_ | refine FCond.fA ?_) | ((with_reducible refine FCond.i (fun hq => ?_) (fun hq => ?_)) <;> (try simp only [zA, zE, zD, zJ, zB, zI, Int.not_le, Int.not_lt] at hq)) | (with_reducible first | refine Fits.in64 (by omega) ?_ | refine FIdx.nat (by omega) ?_ | refine FIdx.int (by omega) ?_ | refine FTo.nat (by omega) ?_ | refine FTo.int (by omega) ?_) | ((with_reducible refine Need.mk ?_ ?_); focus exact needA) | (with_reducible refine FApp.grow ?_)))
    all_goals (try (conv => whnf))
    · (refine ⟨⟨_, [], [], Cut.nil _, Ln.sameB _ rfl, ?_, rfl⟩⟩)
      rw [ltL_diff hlt (by omega) hL hq]
    · (exact ⟨⟨(i + 1), ⟨hlt, ltL_step hlt (by omega) hL hq⟩, by show _ < _; omega, [], Cut.A, allA⟩⟩)
  · obtain rfl : i = a.length := by omega
    (repeat' ((try (conv => whnf)); first | (with_reducible first | refine FCond.tA ?_ | refine FCond.fA ?_) | ((with_reducible refine FCond.i (fun hq => ?_) (fun hq => ?_)) <;> (try simp only [zA, zE, zD, zJ, zB, zI, Int.not_le, Int.not_lt] at hq)) | (with_reducible first | refine Fits.in64 (by omega) ?_ | refine FIdx.nat (by omega) ?_ | refine FIdx.int (by omega) ?_ | refine FTo.nat (by omega) ?_ | refine FTo.int (by omega) ?_) | ((with_reducible refine Need.mk ?_ ?_); focus exact needA) | (with_reducible refine FApp.grow ?_)))
    all_goals (try (conv => whnf))
    (refine ⟨⟨_, [], [], Cut.nil _, Ln.sameB _ rfl, ?_, rfl⟩⟩)
    rw [hL, List.drop_eq_nil_of_le (Nat.le_refl _)]
    rfl
/-- What one slot answers. -/
theorem slot_two (p : Pool) (hk : p.ok = true) {s : Nat} (hs : s < p.needs.length) : (coversT p s = [] ∧ slotE p s = (0, 0, 3)) ∨ (bestG p (coversT p s) ∈ coversT p s ∧ slotE p s = (((bestG p (coversT p s) : Nat) : Int), payT p (bestG p (coversT p s)), 0)) := by
  have hE : slotE p s = match coversT p s with | [] => (0, 0, 3) | g :: l => ((bestG p (g :: l) : Int), payT p (bestG p (g :: l)), 0) := by
    unfold slotE
    rw [if_pos hk, if_pos (decide_eq_true (by omega)), Int.toNat_natCast]
    try rfl
  rcases hL : coversT p s with _ | ⟨g, l⟩
  · exact .inl ⟨rfl, by rw [hE, hL]⟩
  · refine .inr ⟨?_, by rw [hE, hL]⟩
    obtain ⟨j, h1, h2⟩ := bestTo_mem p (g :: l) l.length (by simp)
    unfold bestG
    rw [show (g :: l).length - 1 = l.length by simp, h2]
    exact getD_memN (by simp; omega)
/-- The sum over the slots, as the law takes it. -/
theorem cheap_any (f : PoF) (p : Pool) (z : Bool) (w : List Int) (hlw : w.length ≤ 9223372036854775807) : ACall Try.prog 9 [aPool f p, aInts z false w] [] (fun v h => v = .bool true ∧ h = []) := by
  have hcv := valid_ok f p
  (refine fcall_of mixed Try.func9 rfl (by decide) (hs := { ord := [(13, [(0, []), (1, []), (2, []), (3, []), (4, []), (5, []), (6, []), (7, []), (8, []), (9, []), (10, []), (11, []), (12, []), (13, []), (14, []), (16, []), (15, []), (17, []), (18, []), (19, []), (20, []), (21, []), (22, []), (23, []), (24, []), (25, []), (26, []), (28, []), (27, []), (29, []), (30, []), (31, [])])] }) ?k (ac := ?ac) ?c (rs := ?rs) ?r ?l ?H; (case k => kernel_rfl); (case c => (conv => (lhs; cbv))); (case r => (conv => (lhs; cbv))); (case l => exact Nat.le_of_ble_eq_true rfl))
  cases hv : validT p
  · rw [hv] at hcv
    (repeat' ((try (conv => whnf)); first | (with_reducible first | refine FCond.tA ?_ | refine FCond.fA ?_) | ((with_reducible refine FCond.i (fun hq => ?_) (fun hq => ?_)) <;> (try simp only [zA, zE, zD, zJ, zB, zI, Int.not_le, Int.not_lt] at hq)) | (with_reducible first | refine Fits.in64 (by omega) ?_ | refine FIdx.nat (by omega) ?_ | refine FIdx.int (by omega) ?_ | refine FTo.nat (by omega) ?_ | refine FTo.int (by omega) ?_) | ((with_reducible refine Need.mk ?_ ?_); focus exact needA) | (with_reducible refine FApp.grow ?_) | (refine FCall.pure (hcv) ⟨Ln.sameB _ rfl, True.intro⟩ rfl ?_) | (refine FCall.pure works_ok True.intro rfl ?_)))
    all_goals (try (conv => whnf))
    all_goals ((refine ⟨⟨_, [], [], Cut.nil _, Ln.sameB _ rfl, ?_, rfl⟩⟩); rfl)
  rw [hv] at hcv
  obtain ⟨hn, hk, h, hs⟩ := valid_d hv
  by_cases hl : w.length ≤ 20
  rotate_left
  · (repeat' ((try (conv => whnf)); first | (with_reducible first | refine FCond.tA ?_ | refine FCond.fA ?_) | ((with_reducible refine FCond.i (fun hq => ?_) (fun hq => ?_)) <;> (try simp only [zA, zE, zD, zJ, zB, zI, Int.not_le, Int.not_lt] at hq)) | (with_reducible first | refine Fits.in64 (by omega) ?_ | refine FIdx.nat (by omega) ?_ | refine FIdx.int (by omega) ?_ | refine FTo.nat (by omega) ?_ | refine FTo.int (by omega) ?_) | ((with_reducible refine Need.mk ?_ ?_); focus exact needA) | (with_reducible refine FApp.grow ?_) | (refine FCall.pure (hcv) ⟨Ln.sameB _ rfl, True.intro⟩ rfl ?_) | (refine FCall.pure works_ok True.intro rfl ?_)))
    all_goals (try (conv => whnf))
    all_goals ((refine ⟨⟨_, [], [], Cut.nil _, Ln.sameB _ rfl, ?_, rfl⟩⟩); rfl)
  have s6 := h.s6
  have hp8 := pow8 h.n8
  have cP := plan_ok f p hn
  have ciw := isWatch_ok f p z false w (by omega) h
  rcases plan_best h hk with ⟨v, hE, hv1, hv2, hv3⟩ | ⟨hE, hno⟩
  · have cP : ACall Try.prog 16 [aPool f p] [] (fun r h => r = .tup 3 (ofL [outI (toI v), AI (costL p v), AI 0]) ∧ h = []) := by
      rw [hE] at cP
      exact cP
    have kv := watch_d hv1
    have hlv := kv.len
    have cLw := isWatch_ok f p (toI v).isEmpty (toI v).isEmpty (toI v) (by omega) h
    rw [hv1] at cLw
    have cLs := isSafe_ok f p (toI v).isEmpty (toI v).isEmpty (toI v) h kv
    rw [hv2] at cLs
    have cLc := refCost_ok f p (toI v).isEmpty (toI v).isEmpty (toI v) h (fun k hk => (kv.el k hk).1) (by omega)
    rw [cost_toI] at cLc
    have hsum := sum_le hv1 hv2 (toI v).length (Nat.le_refl _)
    have hsum : sumS p p.needs.length ≤ costL p v := by rw [← hlv, ← cost_toI]; exact hsum
    cases hq : isWatch p w
    · rw [hq] at ciw
      (repeat' ((try (conv => whnf)); first | (with_reducible first | refine FCond.tA ?_ | refine FCond.fA ?_) | ((with_reducible refine FCond.i (fun hq => ?_) (fun hq => ?_)) <;> (try simp only [zA, zE, zD, zJ, zB, zI, Int.not_le, Int.not_lt] at hq)) | (with_reducible first | refine Fits.in64 (by omega) ?_ | refine FIdx.nat (by omega) ?_ | refine FIdx.int (by omega) ?_ | refine FTo.nat (by omega) ?_ | refine FTo.int (by omega) ?_) | ((with_reducible refine Need.mk ?_ ?_); focus exact needA) | (with_reducible refine FApp.grow ?_) | (refine FCall.pure (hcv) ⟨Ln.sameB _ rfl, True.intro⟩ rfl ?_) | (refine FCall.pure (cP) ⟨Ln.sameB _ rfl, True.intro⟩ rfl ?_) | (refine FCall.pure (ciw) ⟨Ln.sameB _ rfl, Ln.sameB _ rfl, True.intro⟩ rfl ?_)))
      all_goals (try (conv => whnf))
      refine FLoop.of (ACalls.mono _) (X := Nat) (fun s => [(1, aInts z false w), (2, .ptr 0 0), (5, outI (toI v)), (6, AI (costL p v)), (7, AI 0), (8, .bool false), (9, AI (sumS p s)), (10, AI s)]) (fun _ => [.box 4 (cPool f p)]) (fun s => s ≤ p.needs.length) (fun s => p.needs.length - s) 0 ⟨Nat.zero_le _, [0], Cut.A, allA⟩ ?_
      intro s hs
      have hsb := sumS_b h s
      by_cases hlt : s < p.needs.length
      · have hmv := safe_mem hv1 hv2 (s := s) (by omega)
        have hstS : sumS p (s + 1) = sumS p s + payT p (bestG p (coversT p s)) := rfl
        rcases slot_two p hk hlt with ⟨e1, _⟩ | ⟨hbm, hE2⟩
        · rw [e1] at hmv; cases hmv
        have cSl : ACall Try.prog 36 [aPool f p, AI s] [] (fun r h => r = .tup 3 (ofL [AI (bestG p (coversT p s) : Nat), AI (payT p (bestG p (coversT p s))), AI 0]) ∧ h = []) := by
          have := pSlot_ok f p s hn
          rw [hE2] at this
          exact this
        obtain ⟨b1, b2, b3⟩ := covers_mem hbm
        have cB := canBe_ok f p s (bestG p (coversT p s) : Nat) (by omega) (by omega) h
        rw [canBe_nat b1, b2] at cB
        have cV := covered_ok f p s (bestG p (coversT p s)) hlt (by omega) h
        rw [b3] at cV
        have cPy := refPay_ok f p (bestG p (coversT p s)) h
        have hpb := pay_b h (bestG p (coversT p s))
        (repeat' ((try (conv => whnf)); first | (with_reducible first | refine FCond.tA ?_ | refine FCond.fA ?_) | ((with_reducible refine FCond.i (fun hq => ?_) (fun hq => ?_)) <;> (try simp only [zA, zE, zD, zJ, zB, zI, Int.not_le, Int.not_lt] at hq)) | (with_reducible first | refine Fits.in64 (by omega) ?_ | refine FIdx.nat (by omega) ?_ | refine FIdx.int (by omega) ?_ | refine FTo.nat (by omega) ?_ | refine FTo.int (by omega) ?_) | ((with_reducible refine Need.mk ?_ ?_); focus exact needA) | (with_reducible refine FApp.grow ?_) | (refine FCall.pure (cSl) ⟨Ln.sameB _ rfl, Ln.sameB _ rfl, True.intro⟩ rfl ?_) | (refine FCall.pure (cB) ⟨Ln.sameB _ rfl, Ln.sameB _ rfl, Ln.sameB _ rfl, True.intro⟩ rfl ?_) | (refine FCall.pure (cV) ⟨Ln.sameB _ rfl, Ln.sameB _ rfl, Ln.sameB _ rfl, True.intro⟩ rfl ?_) | (refine FCall.pure (cPy) ⟨Ln.sameB _ rfl, Ln.sameB _ rfl, True.intro⟩ rfl ?_)))
        all_goals (try (conv => whnf))
        all_goals first
          | (exact ⟨⟨(s + 1), hlt, by show _ < _; omega, [0], Cut.A, allA⟩⟩)
          | (exfalso; omega)
      · obtain rfl : s = p.needs.length := by omega
        (repeat' ((try (conv => whnf)); first | (with_reducible first | refine FCond.tA ?_ | refine FCond.fA ?_) | ((with_reducible refine FCond.i (fun hq => ?_) (fun hq => ?_)) <;> (try simp only [zA, zE, zD, zJ, zB, zI, Int.not_le, Int.not_lt] at hq)) | (with_reducible first | refine Fits.in64 (by omega) ?_ | refine FIdx.nat (by omega) ?_ | refine FIdx.int (by omega) ?_ | refine FTo.nat (by omega) ?_ | refine FTo.int (by omega) ?_) | ((with_reducible refine Need.mk ?_ ?_); focus exact needA) | (with_reducible refine FApp.grow ?_) | (refine FCall.pure (cLw) ⟨Ln.sameB _ rfl, Ln.sameB _ rfl, True.intro⟩ rfl ?_) | (refine FCall.pure (cLs) ⟨Ln.sameB _ rfl, Ln.sameB _ rfl, True.intro⟩ rfl ?_) | (refine FCall.pure (cLc) ⟨Ln.sameB _ rfl, Ln.sameB _ rfl, True.intro⟩ rfl ?_) | (refine FCall.pure works_ok True.intro rfl ?_)))
        all_goals (try (conv => whnf))
        all_goals first | ((refine ⟨⟨_, [], [], Cut.nil _, Ln.sameB _ rfl, ?_, rfl⟩⟩); rfl) | (exfalso; omega)
    have hlw2 := (watch_d hq).len
    rw [hq] at ciw
    have cis := isSafe_ok f p z false w h (watch_d hq)
    cases hsw : safeT p w
    · rw [hsw] at cis
      (repeat' ((try (conv => whnf)); first | (with_reducible first | refine FCond.tA ?_ | refine FCond.fA ?_) | ((with_reducible refine FCond.i (fun hq => ?_) (fun hq => ?_)) <;> (try simp only [zA, zE, zD, zJ, zB, zI, Int.not_le, Int.not_lt] at hq)) | (with_reducible first | refine Fits.in64 (by omega) ?_ | refine FIdx.nat (by omega) ?_ | refine FIdx.int (by omega) ?_ | refine FTo.nat (by omega) ?_ | refine FTo.int (by omega) ?_) | ((with_reducible refine Need.mk ?_ ?_); focus exact needA) | (with_reducible refine FApp.grow ?_) | (refine FCall.pure (hcv) ⟨Ln.sameB _ rfl, True.intro⟩ rfl ?_) | (refine FCall.pure (cP) ⟨Ln.sameB _ rfl, True.intro⟩ rfl ?_) | (refine FCall.pure (ciw) ⟨Ln.sameB _ rfl, Ln.sameB _ rfl, True.intro⟩ rfl ?_) | (refine FCall.pure (cis) ⟨Ln.sameB _ rfl, Ln.sameB _ rfl, True.intro⟩ rfl ?_)))
      all_goals (try (conv => whnf))
      refine FLoop.of (ACalls.mono _) (X := Nat) (fun s => [(1, aInts z false w), (2, .ptr 0 0), (5, outI (toI v)), (6, AI (costL p v)), (7, AI 0), (8, .bool false), (9, AI (sumS p s)), (10, AI s)]) (fun _ => [.box 4 (cPool f p)]) (fun s => s ≤ p.needs.length) (fun s => p.needs.length - s) 0 ⟨Nat.zero_le _, [0], Cut.A, allA⟩ ?_
      intro s hs
      have hsb := sumS_b h s
      by_cases hlt : s < p.needs.length
      · have hmv := safe_mem hv1 hv2 (s := s) (by omega)
        have hstS : sumS p (s + 1) = sumS p s + payT p (bestG p (coversT p s)) := rfl
        rcases slot_two p hk hlt with ⟨e1, _⟩ | ⟨hbm, hE2⟩
        · rw [e1] at hmv; cases hmv
        have cSl : ACall Try.prog 36 [aPool f p, AI s] [] (fun r h => r = .tup 3 (ofL [AI (bestG p (coversT p s) : Nat), AI (payT p (bestG p (coversT p s))), AI 0]) ∧ h = []) := by
          have := pSlot_ok f p s hn
          rw [hE2] at this
          exact this
        obtain ⟨b1, b2, b3⟩ := covers_mem hbm
        have cB := canBe_ok f p s (bestG p (coversT p s) : Nat) (by omega) (by omega) h
        rw [canBe_nat b1, b2] at cB
        have cV := covered_ok f p s (bestG p (coversT p s)) hlt (by omega) h
        rw [b3] at cV
        have cPy := refPay_ok f p (bestG p (coversT p s)) h
        have hpb := pay_b h (bestG p (coversT p s))
        (repeat' ((try (conv => whnf)); first | (with_reducible first | refine FCond.tA ?_ | refine FCond.fA ?_) | ((with_reducible refine FCond.i (fun hq => ?_) (fun hq => ?_)) <;> (try simp only [zA, zE, zD, zJ, zB, zI, Int.not_le, Int.not_lt] at hq)) | (with_reducible first | refine Fits.in64 (by omega) ?_ | refine FIdx.nat (by omega) ?_ | refine FIdx.int (by omega) ?_ | refine FTo.nat (by omega) ?_ | refine FTo.int (by omega) ?_) | ((with_reducible refine Need.mk ?_ ?_); focus exact needA) | (with_reducible refine FApp.grow ?_) | (refine FCall.pure (cSl) ⟨Ln.sameB _ rfl, Ln.sameB _ rfl, True.intro⟩ rfl ?_) | (refine FCall.pure (cB) ⟨Ln.sameB _ rfl, Ln.sameB _ rfl, Ln.sameB _ rfl, True.intro⟩ rfl ?_) | (refine FCall.pure (cV) ⟨Ln.sameB _ rfl, Ln.sameB _ rfl, Ln.sameB _ rfl, True.intro⟩ rfl ?_) | (refine FCall.pure (cPy) ⟨Ln.sameB _ rfl, Ln.sameB _ rfl, True.intro⟩ rfl ?_)))
        all_goals (try (conv => whnf))
        all_goals first
          | (exact ⟨⟨(s + 1), hlt, by show _ < _; omega, [0], Cut.A, allA⟩⟩)
          | (exfalso; omega)
      · obtain rfl : s = p.needs.length := by omega
        (repeat' ((try (conv => whnf)); first | (with_reducible first | refine FCond.tA ?_ | refine FCond.fA ?_) | ((with_reducible refine FCond.i (fun hq => ?_) (fun hq => ?_)) <;> (try simp only [zA, zE, zD, zJ, zB, zI, Int.not_le, Int.not_lt] at hq)) | (with_reducible first | refine Fits.in64 (by omega) ?_ | refine FIdx.nat (by omega) ?_ | refine FIdx.int (by omega) ?_ | refine FTo.nat (by omega) ?_ | refine FTo.int (by omega) ?_) | ((with_reducible refine Need.mk ?_ ?_); focus exact needA) | (with_reducible refine FApp.grow ?_) | (refine FCall.pure (cLw) ⟨Ln.sameB _ rfl, Ln.sameB _ rfl, True.intro⟩ rfl ?_) | (refine FCall.pure (cLs) ⟨Ln.sameB _ rfl, Ln.sameB _ rfl, True.intro⟩ rfl ?_) | (refine FCall.pure (cLc) ⟨Ln.sameB _ rfl, Ln.sameB _ rfl, True.intro⟩ rfl ?_) | (refine FCall.pure works_ok True.intro rfl ?_)))
        all_goals (try (conv => whnf))
        all_goals first | ((refine ⟨⟨_, [], [], Cut.nil _, Ln.sameB _ rfl, ?_, rfl⟩⟩); rfl) | (exfalso; omega)
    · rw [hsw] at cis
      have cWc := refCost_ok f p z false w h (fun k hk => ((watch_d hq).el k hk).1) (by omega)
      have cBe := before_ok z false (toI v).isEmpty (toI v).isEmpty w (toI v) (by omega) (by omega)
      (repeat' ((try (conv => whnf)); first | (with_reducible first | refine FCond.tA ?_ | refine FCond.fA ?_) | ((with_reducible refine FCond.i (fun hq => ?_) (fun hq => ?_)) <;> (try simp only [zA, zE, zD, zJ, zB, zI, Int.not_le, Int.not_lt] at hq)) | (with_reducible first | refine Fits.in64 (by omega) ?_ | refine FIdx.nat (by omega) ?_ | refine FIdx.int (by omega) ?_ | refine FTo.nat (by omega) ?_ | refine FTo.int (by omega) ?_) | ((with_reducible refine Need.mk ?_ ?_); focus exact needA) | (with_reducible refine FApp.grow ?_) | (refine FCall.pure (hcv) ⟨Ln.sameB _ rfl, True.intro⟩ rfl ?_) | (refine FCall.pure (cP) ⟨Ln.sameB _ rfl, True.intro⟩ rfl ?_) | (refine FCall.pure (ciw) ⟨Ln.sameB _ rfl, Ln.sameB _ rfl, True.intro⟩ rfl ?_) | (refine FCall.pure (cis) ⟨Ln.sameB _ rfl, Ln.sameB _ rfl, True.intro⟩ rfl ?_)))
      all_goals (try (conv => whnf))
      refine FLoop.of (ACalls.mono _) (X := Nat) (fun s => [(1, aInts z false w), (2, .ptr 0 0), (5, outI (toI v)), (6, AI (costL p v)), (7, AI 0), (8, .bool true), (9, AI (sumS p s)), (10, AI s)]) (fun _ => [.box 4 (cPool f p)]) (fun s => s ≤ p.needs.length) (fun s => p.needs.length - s) 0 ⟨Nat.zero_le _, [0], Cut.A, allA⟩ ?_
      intro s hs
      have hsb := sumS_b h s
      by_cases hlt : s < p.needs.length
      · have hmv := safe_mem hv1 hv2 (s := s) (by omega)
        have hstS : sumS p (s + 1) = sumS p s + payT p (bestG p (coversT p s)) := rfl
        rcases slot_two p hk hlt with ⟨e1, _⟩ | ⟨hbm, hE2⟩
        · rw [e1] at hmv; cases hmv
        have cSl : ACall Try.prog 36 [aPool f p, AI s] [] (fun r h => r = .tup 3 (ofL [AI (bestG p (coversT p s) : Nat), AI (payT p (bestG p (coversT p s))), AI 0]) ∧ h = []) := by
          have := pSlot_ok f p s hn
          rw [hE2] at this
          exact this
        obtain ⟨b1, b2, b3⟩ := covers_mem hbm
        have cB := canBe_ok f p s (bestG p (coversT p s) : Nat) (by omega) (by omega) h
        rw [canBe_nat b1, b2] at cB
        have cV := covered_ok f p s (bestG p (coversT p s)) hlt (by omega) h
        rw [b3] at cV
        have cPy := refPay_ok f p (bestG p (coversT p s)) h
        have hpb := pay_b h (bestG p (coversT p s))
        have hmw := safe_mem hq hsw (s := s) (by omega)
        have hle := best_le hmw
        have cPw := refPay_ok f p (w.getD s 0).toNat h
        rw [Int.toNat_of_nonneg ((watch_d hq).el s (by omega)).1] at cPw
        (repeat' ((try (conv => whnf)); first | (with_reducible first | refine FCond.tA ?_ | refine FCond.fA ?_) | ((with_reducible refine FCond.i (fun hq => ?_) (fun hq => ?_)) <;> (try simp only [zA, zE, zD, zJ, zB, zI, Int.not_le, Int.not_lt] at hq)) | (with_reducible first | refine Fits.in64 (by omega) ?_ | refine FIdx.nat (by omega) ?_ | refine FIdx.int (by omega) ?_ | refine FTo.nat (by omega) ?_ | refine FTo.int (by omega) ?_) | ((with_reducible refine Need.mk ?_ ?_); focus exact needA) | (with_reducible refine FApp.grow ?_) | (refine FCall.pure (cSl) ⟨Ln.sameB _ rfl, Ln.sameB _ rfl, True.intro⟩ rfl ?_) | (refine FCall.pure (cB) ⟨Ln.sameB _ rfl, Ln.sameB _ rfl, Ln.sameB _ rfl, True.intro⟩ rfl ?_) | (refine FCall.pure (cV) ⟨Ln.sameB _ rfl, Ln.sameB _ rfl, Ln.sameB _ rfl, True.intro⟩ rfl ?_) | (refine FCall.pure (cPy) ⟨Ln.sameB _ rfl, Ln.sameB _ rfl, True.intro⟩ rfl ?_) | (refine FCall.pure (cPw) ⟨Ln.sameB _ rfl, Ln.sameB _ rfl, True.intro⟩ rfl ?_)))
        all_goals (try (conv => whnf))
        all_goals first
          | (exact ⟨⟨(s + 1), hlt, by show _ < _; omega, [0], Cut.A, allA⟩⟩)
          | (exfalso; omega)
      · obtain rfl : s = p.needs.length := by omega
        rcases hv3 w hq hsw with h3 | ⟨h3, h4⟩
        · (repeat' ((try (conv => whnf)); first | (with_reducible first | refine FCond.tA ?_ | refine FCond.fA ?_) | ((with_reducible refine FCond.i (fun hq => ?_) (fun hq => ?_)) <;> (try simp only [zA, zE, zD, zJ, zB, zI, Int.not_le, Int.not_lt] at hq)) | (with_reducible first | refine Fits.in64 (by omega) ?_ | refine FIdx.nat (by omega) ?_ | refine FIdx.int (by omega) ?_ | refine FTo.nat (by omega) ?_ | refine FTo.int (by omega) ?_) | ((with_reducible refine Need.mk ?_ ?_); focus exact needA) | (with_reducible refine FApp.grow ?_) | (refine FCall.pure (cLw) ⟨Ln.sameB _ rfl, Ln.sameB _ rfl, True.intro⟩ rfl ?_) | (refine FCall.pure (cLs) ⟨Ln.sameB _ rfl, Ln.sameB _ rfl, True.intro⟩ rfl ?_) | (refine FCall.pure (cLc) ⟨Ln.sameB _ rfl, Ln.sameB _ rfl, True.intro⟩ rfl ?_) | (refine FCall.pure (cWc) ⟨Ln.sameB _ rfl, Ln.sameB _ rfl, True.intro⟩ rfl ?_) | (refine FCall.pure (cBe) ⟨Ln.sameB _ rfl, Ln.sameB _ rfl, True.intro⟩ rfl ?_) | (refine FCall.pure works_ok True.intro rfl ?_)))
          all_goals (try (conv => whnf))
          all_goals first | ((refine ⟨⟨_, [], [], Cut.nil _, Ln.sameB _ rfl, ?_, rfl⟩⟩); rfl) | (exfalso; omega)
        · rw [h4] at cBe
          (repeat' ((try (conv => whnf)); first | (with_reducible first | refine FCond.tA ?_ | refine FCond.fA ?_) | ((with_reducible refine FCond.i (fun hq => ?_) (fun hq => ?_)) <;> (try simp only [zA, zE, zD, zJ, zB, zI, Int.not_le, Int.not_lt] at hq)) | (with_reducible first | refine Fits.in64 (by omega) ?_ | refine FIdx.nat (by omega) ?_ | refine FIdx.int (by omega) ?_ | refine FTo.nat (by omega) ?_ | refine FTo.int (by omega) ?_) | ((with_reducible refine Need.mk ?_ ?_); focus exact needA) | (with_reducible refine FApp.grow ?_) | (refine FCall.pure (cLw) ⟨Ln.sameB _ rfl, Ln.sameB _ rfl, True.intro⟩ rfl ?_) | (refine FCall.pure (cLs) ⟨Ln.sameB _ rfl, Ln.sameB _ rfl, True.intro⟩ rfl ?_) | (refine FCall.pure (cLc) ⟨Ln.sameB _ rfl, Ln.sameB _ rfl, True.intro⟩ rfl ?_) | (refine FCall.pure (cWc) ⟨Ln.sameB _ rfl, Ln.sameB _ rfl, True.intro⟩ rfl ?_) | (refine FCall.pure (cBe) ⟨Ln.sameB _ rfl, Ln.sameB _ rfl, True.intro⟩ rfl ?_) | (refine FCall.pure works_ok True.intro rfl ?_)))
          all_goals (try (conv => whnf))
          all_goals first | ((refine ⟨⟨_, [], [], Cut.nil _, Ln.sameB _ rfl, ?_, rfl⟩⟩); rfl) | (exfalso; omega)
  · have cP : ACall Try.prog 16 [aPool f p] [] (fun r h => r = .tup 3 (ofL [outI [], AI 0, AI 3]) ∧ h = []) := by
      rw [hE] at cP
      exact cP
    cases hq : isWatch p w
    · rw [hq] at ciw
      (repeat' ((try (conv => whnf)); first | (with_reducible first | refine FCond.tA ?_ | refine FCond.fA ?_) | ((with_reducible refine FCond.i (fun hq => ?_) (fun hq => ?_)) <;> (try simp only [zA, zE, zD, zJ, zB, zI, Int.not_le, Int.not_lt] at hq)) | (with_reducible first | refine Fits.in64 (by omega) ?_ | refine FIdx.nat (by omega) ?_ | refine FIdx.int (by omega) ?_ | refine FTo.nat (by omega) ?_ | refine FTo.int (by omega) ?_) | ((with_reducible refine Need.mk ?_ ?_); focus exact needA) | (with_reducible refine FApp.grow ?_) | (refine FCall.pure (hcv) ⟨Ln.sameB _ rfl, True.intro⟩ rfl ?_) | (refine FCall.pure (cP) ⟨Ln.sameB _ rfl, True.intro⟩ rfl ?_) | (refine FCall.pure (ciw) ⟨Ln.sameB _ rfl, Ln.sameB _ rfl, True.intro⟩ rfl ?_)))
      all_goals (try (conv => whnf))
      refine FLoop.of (ACalls.mono _) (X := Nat × Int) (fun x => [(1, aInts z false w), (2, .ptr 0 0), (5, outI []), (6, AI 0), (7, AI 3), (8, .bool false), (9, AI x.2), (10, AI x.1)]) (fun _ => [.box 4 (cPool f p)]) (fun x => x.1 ≤ p.needs.length ∧ 0 ≤ x.2 ∧ x.2 ≤ 8000 * (x.1 : Int)) (fun x => p.needs.length - x.1) (0, 0) ⟨⟨Nat.zero_le _, by decide, by decide⟩, [0], Cut.A, allA⟩ ?_
      rintro ⟨s, y⟩ ⟨hs, hy1, hy2⟩
      simp only at hs hy1 hy2
      by_cases hlt : s < p.needs.length
      · have cSl0 := pSlot_ok f p s hn
        rcases slot_two p hk hlt with ⟨e1, hE2⟩ | ⟨hbm, hE2⟩
        · have cSl : ACall Try.prog 36 [aPool f p, AI s] [] (fun r h => r = .tup 3 (ofL [AI 0, AI 0, AI 3]) ∧ h = []) := by
            rw [hE2] at cSl0
            exact cSl0
          (repeat' ((try (conv => whnf)); first | (with_reducible first | refine FCond.tA ?_ | refine FCond.fA ?_) | ((with_reducible refine FCond.i (fun hq => ?_) (fun hq => ?_)) <;> (try simp only [zA, zE, zD, zJ, zB, zI, Int.not_le, Int.not_lt] at hq)) | (with_reducible first | refine Fits.in64 (by omega) ?_ | refine FIdx.nat (by omega) ?_ | refine FIdx.int (by omega) ?_ | refine FTo.nat (by omega) ?_ | refine FTo.int (by omega) ?_) | ((with_reducible refine Need.mk ?_ ?_); focus exact needA) | (with_reducible refine FApp.grow ?_) | (refine FCall.pure (cSl) ⟨Ln.sameB _ rfl, Ln.sameB _ rfl, True.intro⟩ rfl ?_)))
          all_goals (try (conv => whnf))
          all_goals first
            | (exact ⟨⟨(s + 1, y), ⟨hlt, hy1, by show y ≤ 8000 * ((s + 1 : Nat) : Int); omega⟩, by show _ < _; omega, [0], Cut.A, allA⟩⟩)
            | (exfalso; omega)
        · have cSl : ACall Try.prog 36 [aPool f p, AI s] [] (fun r h => r = .tup 3 (ofL [AI (bestG p (coversT p s) : Nat), AI (payT p (bestG p (coversT p s))), AI 0]) ∧ h = []) := by
            rw [hE2] at cSl0
            exact cSl0
          obtain ⟨b1, b2, b3⟩ := covers_mem hbm
          have cB := canBe_ok f p s (bestG p (coversT p s) : Nat) (by omega) (by omega) h
          rw [canBe_nat b1, b2] at cB
          have cV := covered_ok f p s (bestG p (coversT p s)) hlt (by omega) h
          rw [b3] at cV
          have cPy := refPay_ok f p (bestG p (coversT p s)) h
          have hpb := pay_b h (bestG p (coversT p s))
          (repeat' ((try (conv => whnf)); first | (with_reducible first | refine FCond.tA ?_ | refine FCond.fA ?_) | ((with_reducible refine FCond.i (fun hq => ?_) (fun hq => ?_)) <;> (try simp only [zA, zE, zD, zJ, zB, zI, Int.not_le, Int.not_lt] at hq)) | (with_reducible first | refine Fits.in64 (by omega) ?_ | refine FIdx.nat (by omega) ?_ | refine FIdx.int (by omega) ?_ | refine FTo.nat (by omega) ?_ | refine FTo.int (by omega) ?_) | ((with_reducible refine Need.mk ?_ ?_); focus exact needA) | (with_reducible refine FApp.grow ?_) | (refine FCall.pure (cSl) ⟨Ln.sameB _ rfl, Ln.sameB _ rfl, True.intro⟩ rfl ?_) | (refine FCall.pure (cB) ⟨Ln.sameB _ rfl, Ln.sameB _ rfl, Ln.sameB _ rfl, True.intro⟩ rfl ?_) | (refine FCall.pure (cV) ⟨Ln.sameB _ rfl, Ln.sameB _ rfl, Ln.sameB _ rfl, True.intro⟩ rfl ?_) | (refine FCall.pure (cPy) ⟨Ln.sameB _ rfl, Ln.sameB _ rfl, True.intro⟩ rfl ?_)))
          all_goals (try (conv => whnf))
          all_goals first
            | (exact ⟨⟨(s + 1, y + payT p (bestG p (coversT p s))), ⟨hlt, by show 0 ≤ y + payT p (bestG p (coversT p s)); omega, by show y + payT p (bestG p (coversT p s)) ≤ 8000 * ((s + 1 : Nat) : Int); omega⟩, by show _ < _; omega, [0], Cut.A, allA⟩⟩)
            | (exfalso; omega)
      · obtain rfl : s = p.needs.length := by omega
        (repeat' ((try (conv => whnf)); first | (with_reducible first | refine FCond.tA ?_ | refine FCond.fA ?_) | ((with_reducible refine FCond.i (fun hq => ?_) (fun hq => ?_)) <;> (try simp only [zA, zE, zD, zJ, zB, zI, Int.not_le, Int.not_lt] at hq)) | (with_reducible first | refine Fits.in64 (by omega) ?_ | refine FIdx.nat (by omega) ?_ | refine FIdx.int (by omega) ?_ | refine FTo.nat (by omega) ?_ | refine FTo.int (by omega) ?_) | ((with_reducible refine Need.mk ?_ ?_); focus exact needA) | (with_reducible refine FApp.grow ?_) | (refine FCall.pure works_ok True.intro rfl ?_)))
        all_goals (try (conv => whnf))
        all_goals first | ((refine ⟨⟨_, [], [], Cut.nil _, Ln.sameB _ rfl, ?_, rfl⟩⟩); rfl) | (exfalso; omega)
    · rw [hq] at ciw
      have cis := isSafe_ok f p z false w h (watch_d hq)
      rw [hno w hq] at cis
      (repeat' ((try (conv => whnf)); first | (with_reducible first | refine FCond.tA ?_ | refine FCond.fA ?_) | ((with_reducible refine FCond.i (fun hq => ?_) (fun hq => ?_)) <;> (try simp only [zA, zE, zD, zJ, zB, zI, Int.not_le, Int.not_lt] at hq)) | (with_reducible first | refine Fits.in64 (by omega) ?_ | refine FIdx.nat (by omega) ?_ | refine FIdx.int (by omega) ?_ | refine FTo.nat (by omega) ?_ | refine FTo.int (by omega) ?_) | ((with_reducible refine Need.mk ?_ ?_); focus exact needA) | (with_reducible refine FApp.grow ?_) | (refine FCall.pure (hcv) ⟨Ln.sameB _ rfl, True.intro⟩ rfl ?_) | (refine FCall.pure (cP) ⟨Ln.sameB _ rfl, True.intro⟩ rfl ?_) | (refine FCall.pure (ciw) ⟨Ln.sameB _ rfl, Ln.sameB _ rfl, True.intro⟩ rfl ?_) | (refine FCall.pure (cis) ⟨Ln.sameB _ rfl, Ln.sameB _ rfl, True.intro⟩ rfl ?_)))
      all_goals (try (conv => whnf))
      refine FLoop.of (ACalls.mono _) (X := Nat × Int) (fun x => [(1, aInts z false w), (2, .ptr 0 0), (5, outI []), (6, AI 0), (7, AI 3), (8, .bool false), (9, AI x.2), (10, AI x.1)]) (fun _ => [.box 4 (cPool f p)]) (fun x => x.1 ≤ p.needs.length ∧ 0 ≤ x.2 ∧ x.2 ≤ 8000 * (x.1 : Int)) (fun x => p.needs.length - x.1) (0, 0) ⟨⟨Nat.zero_le _, by decide, by decide⟩, [0], Cut.A, allA⟩ ?_
      rintro ⟨s, y⟩ ⟨hs, hy1, hy2⟩
      simp only at hs hy1 hy2
      by_cases hlt : s < p.needs.length
      · have cSl0 := pSlot_ok f p s hn
        rcases slot_two p hk hlt with ⟨e1, hE2⟩ | ⟨hbm, hE2⟩
        · have cSl : ACall Try.prog 36 [aPool f p, AI s] [] (fun r h => r = .tup 3 (ofL [AI 0, AI 0, AI 3]) ∧ h = []) := by
            rw [hE2] at cSl0
            exact cSl0
          (repeat' ((try (conv => whnf)); first | (with_reducible first | refine FCond.tA ?_ | refine FCond.fA ?_) | ((with_reducible refine FCond.i (fun hq => ?_) (fun hq => ?_)) <;> (try simp only [zA, zE, zD, zJ, zB, zI, Int.not_le, Int.not_lt] at hq)) | (with_reducible first | refine Fits.in64 (by omega) ?_ | refine FIdx.nat (by omega) ?_ | refine FIdx.int (by omega) ?_ | refine FTo.nat (by omega) ?_ | refine FTo.int (by omega) ?_) | ((with_reducible refine Need.mk ?_ ?_); focus exact needA) | (with_reducible refine FApp.grow ?_) | (refine FCall.pure (cSl) ⟨Ln.sameB _ rfl, Ln.sameB _ rfl, True.intro⟩ rfl ?_)))
          all_goals (try (conv => whnf))
          all_goals first
            | (exact ⟨⟨(s + 1, y), ⟨hlt, hy1, by show y ≤ 8000 * ((s + 1 : Nat) : Int); omega⟩, by show _ < _; omega, [0], Cut.A, allA⟩⟩)
            | (exfalso; omega)
        · have cSl : ACall Try.prog 36 [aPool f p, AI s] [] (fun r h => r = .tup 3 (ofL [AI (bestG p (coversT p s) : Nat), AI (payT p (bestG p (coversT p s))), AI 0]) ∧ h = []) := by
            rw [hE2] at cSl0
            exact cSl0
          obtain ⟨b1, b2, b3⟩ := covers_mem hbm
          have cB := canBe_ok f p s (bestG p (coversT p s) : Nat) (by omega) (by omega) h
          rw [canBe_nat b1, b2] at cB
          have cV := covered_ok f p s (bestG p (coversT p s)) hlt (by omega) h
          rw [b3] at cV
          have cPy := refPay_ok f p (bestG p (coversT p s)) h
          have hpb := pay_b h (bestG p (coversT p s))
          (repeat' ((try (conv => whnf)); first | (with_reducible first | refine FCond.tA ?_ | refine FCond.fA ?_) | ((with_reducible refine FCond.i (fun hq => ?_) (fun hq => ?_)) <;> (try simp only [zA, zE, zD, zJ, zB, zI, Int.not_le, Int.not_lt] at hq)) | (with_reducible first | refine Fits.in64 (by omega) ?_ | refine FIdx.nat (by omega) ?_ | refine FIdx.int (by omega) ?_ | refine FTo.nat (by omega) ?_ | refine FTo.int (by omega) ?_) | ((with_reducible refine Need.mk ?_ ?_); focus exact needA) | (with_reducible refine FApp.grow ?_) | (refine FCall.pure (cSl) ⟨Ln.sameB _ rfl, Ln.sameB _ rfl, True.intro⟩ rfl ?_) | (refine FCall.pure (cB) ⟨Ln.sameB _ rfl, Ln.sameB _ rfl, Ln.sameB _ rfl, True.intro⟩ rfl ?_) | (refine FCall.pure (cV) ⟨Ln.sameB _ rfl, Ln.sameB _ rfl, Ln.sameB _ rfl, True.intro⟩ rfl ?_) | (refine FCall.pure (cPy) ⟨Ln.sameB _ rfl, Ln.sameB _ rfl, True.intro⟩ rfl ?_)))
          all_goals (try (conv => whnf))
          all_goals first
            | (exact ⟨⟨(s + 1, y + payT p (bestG p (coversT p s))), ⟨hlt, by show 0 ≤ y + payT p (bestG p (coversT p s)); omega, by show y + payT p (bestG p (coversT p s)) ≤ 8000 * ((s + 1 : Nat) : Int); omega⟩, by show _ < _; omega, [0], Cut.A, allA⟩⟩)
            | (exfalso; omega)
      · obtain rfl : s = p.needs.length := by omega
        (repeat' ((try (conv => whnf)); first | (with_reducible first | refine FCond.tA ?_ | refine FCond.fA ?_) | ((with_reducible refine FCond.i (fun hq => ?_) (fun hq => ?_)) <;> (try simp only [zA, zE, zD, zJ, zB, zI, Int.not_le, Int.not_lt] at hq)) | (with_reducible first | refine Fits.in64 (by omega) ?_ | refine FIdx.nat (by omega) ?_ | refine FIdx.int (by omega) ?_ | refine FTo.nat (by omega) ?_ | refine FTo.int (by omega) ?_) | ((with_reducible refine Need.mk ?_ ?_); focus exact needA) | (with_reducible refine FApp.grow ?_) | (refine FCall.pure works_ok True.intro rfl ?_)))
        all_goals (try (conv => whnf))
        all_goals first | ((refine ⟨⟨_, [], [], Cut.nil _, Ln.sameB _ rfl, ?_, rfl⟩⟩); rfl) | (exfalso; omega)
end Go.Proofs.Ytbhjehpjjbbhbaa

namespace Go.Proofs.Ytbhjehpjjbbhbaa
open Go.RowKit

theorem block_of_add (a : Addr) (n : Nat) : (a.add n).block = a.block := by unfold Addr.add; split <;> rfl
theorem add_of_add (a : Addr) (i j : Nat) : (a.add i).add j = a.add (i + j) := by
  unfold Addr.add
  by_cases hi : i = 0 <;> by_cases hj : j = 0 <;> simp [hi, hj, Nat.add_assoc]

/-- w' has all that w has, unchanged. -/
abbrev Ext (w w' : World) : Prop := Below w.heap.size w w'

theorem Ext.refl (w : World) : Ext w w := Below.refl _ w
theorem Ext.trans {a b c : World} (h : Ext a b) (k : Ext b c) : Ext a c := Below.trans h (k.mono h.size)
theorem Ext.of_alloc (w : World) (o : Obj) : Ext w (w.alloc o) := (Below.refl _ w).alloc (Nat.le_refl _) o
theorem Ext.alloc {a w : World} (h : Ext a w) (o : Obj) : Ext a (w.alloc o) := Below.alloc h h.size o
theorem Ext.drew {a w : World} (h : Ext a w) : Ext a w.drew := Below.drew h
theorem Ext.drewN {a w : World} (h : Ext a w) (n : Nat) : Ext a (w.drewN n) := ⟨h.os, h.tape, h.output, h.size, h.block⟩
theorem Ext.cellOf {w w' : World} (h : Ext w w') {p : Addr} (hp : p.block < w.heap.size) : w'.cell? p = w.cell? p := Below.cell h hp

/-- The n elements (size cells each) of a slice at A are the cells xs. -/
def Sl (w : World) (size : Nat) (A : Option Addr) (n : Nat) (xs : List Value) : Prop :=
  xs.length = n * size ∧ (0 < n → ∃ b off, A = some ⟨b, off, none⟩ ∧ b < w.heap.size ∧ ∀ (j : Nat) (u : Value), xs[j]? = some u → w.cell? ⟨b, off + j, none⟩ = some u)

theorem Sl.ext {w w' : World} {size n : Nat} {A : Option Addr} {xs : List Value} (h : Sl w size A n xs) (e : Ext w w') : Sl w' size A n xs :=
  ⟨h.1, fun hn => by
    obtain ⟨b, off, hA, hb, hc⟩ := h.2 hn
    exact ⟨b, off, hA, Nat.lt_of_lt_of_le hb e.size, fun j u hu => (e.cellOf (p := ⟨b, off + j, none⟩) hb).trans (hc j u hu)⟩⟩
theorem Sl.nil (w : World) (size : Nat) (A : Option Addr) : Sl w size A 0 [] := ⟨by simp, fun h => absurd h (by omega)⟩
theorem own_lt {w : World} {g : Nat} {o : Obj} (hh : w.heap[g]? = some o) : g < w.heap.size := by
  rcases Nat.lt_or_ge g w.heap.size with hlt | hge
  · exact hlt
  · rw [Array.getElem?_eq_none hge] at hh; cases hh
theorem Sl.of_own {w : World} {base size n c : Nat} {e : TypeId} {A : Option Addr} {xs : List Value} (h : w.ownsRow base e size (.slice A n c) n xs) : Sl w size A n xs := by
  refine ⟨h.1, fun hn => ?_⟩
  rcases h.2 with ⟨hv, hx⟩ | ⟨g, cap, cur, hv, hb, hh, _⟩
  · injection hv with hA hn'
    omega
  · injection hv with hA
    subst hA
    refine ⟨g, 0, rfl, own_lt hh, fun j u hu => ?_⟩
    have h1 := h.cells (g := g) rfl j u hu
    unfold Addr.add at h1
    split at h1
    · rename_i h0; subst h0; exact h1
    · simpa using h1
theorem Sl.at {w : World} {size n : Nat} {A : Option Addr} {xs : List Value} (h : Sl w size A n xs) {k : Nat} (hk : k < n) :
    ∃ b off, A = some ⟨b, off, none⟩ ∧ b < w.heap.size ∧ ∀ i, i < size → ∃ u, xs[k * size + i]? = some u ∧ w.cell? ⟨b, off + (k * size + i), none⟩ = some u := by
  obtain ⟨b, off, hA, hb, hc⟩ := h.2 (by omega)
  refine ⟨b, off, hA, hb, fun i hi => ?_⟩
  have hlt : k * size + i < xs.length := by
    rw [h.1]
    have : (k + 1) * size ≤ n * size := Nat.mul_le_mul_right _ hk
    rw [Nat.add_mul] at this
    omega
  exact ⟨xs[k * size + i], List.getElem?_eq_getElem hlt, hc _ _ (List.getElem?_eq_getElem hlt)⟩

/-- A slice of ints. -/
def Ints (w : World) (A : Option Addr) (l : List Int) : Prop :=
  ∀ k, k < l.length → ∃ b off, A = some ⟨b, off, none⟩ ∧ b < w.heap.size ∧ w.cell? ⟨b, off + k, none⟩ = some (.int .i64 (l.getD k 0))
theorem Ints.ext {w w' : World} {A : Option Addr} {l : List Int} (h : Ints w A l) (e : Ext w w') : Ints w' A l := fun k hk => by
  obtain ⟨b, off, hA, hb, hc⟩ := h k hk
  exact ⟨b, off, hA, Nat.lt_of_lt_of_le hb e.size, (e.cellOf (p := ⟨b, off + k, none⟩) hb).trans hc⟩
theorem Ints.of_own {w : World} {base n c : Nat} {e : TypeId} {A : Option Addr} {l : List Int} (h : w.ownsRow base e 1 (.slice A n c) n (l.map (.int .i64))) : n = l.length ∧ Ints w A l := by
  have hl : n = l.length := by have := h.1; simp at this; omega
  refine ⟨hl, fun k hk => ?_⟩
  obtain ⟨b, off, hA, hb, hc⟩ := (Sl.of_own h).at (k := k) (by omega)
  obtain ⟨u, hu, hcu⟩ := hc 0 (by omega)
  refine ⟨b, off, hA, hb, ?_⟩
  simp at hu hcu
  obtain ⟨a, ha, rfl⟩ := hu
  rw [hcu]
  simp [List.getD, ha]

theorem Ints.get {w : World} {A : Option Addr} {l : List Int} (h : Ints w A l) {k : Nat} (hk : k < l.length) :
    ∃ b off x, A = some ⟨b, off, none⟩ ∧ b < w.heap.size ∧ w.cell? ⟨b, off + k, none⟩ = some (.int .i64 x) ∧ Hid (l.getD k 0 = x) := by
  obtain ⟨b, off, h1, h2, h3⟩ := h k hk
  exact ⟨b, off, _, h1, h2, h3, rfl⟩

theorem Ext.unalloc {w wr : World} {o : Obj} (h : Ext (w.alloc o) wr) : Ext w wr := (Ext.of_alloc w o).trans h
theorem Ext.box {w wr : World} {cs : Array Value} {T : TypeId} (h : Ext (w.alloc (.cells cs T)) wr) (i : Nat) : wr.cell? ⟨w.heap.size, i, none⟩ = cs[i]? := by
  rw [h.cellOf (by simp), World.cell?_alloc_at _ _ _ _ rfl]
theorem Ext.boxFree {w wr : World} {cs : Array Value} {T : TypeId} (h : Ext (w.alloc (.cells cs T)) wr) (i : Nat) : wr.frozen? ⟨w.heap.size, i, none⟩ = false := by
  rw [Below.frozen h (by simp), World.frozen?_alloc_at _ _ _ _ rfl]
theorem Ext.lt {w wr : World} {o : Obj} (h : Ext (w.alloc o) wr) : w.heap.size < wr.heap.size := by have := h.size; simp at this; omega
theorem Ext.le {w wr : World} (h : Ext w wr) : w.heap.size ≤ wr.heap.size := h.size

theorem Ext.grown {w w' : World} (h : Ext w w') (row : Option Nat) : w.grownBy w' row := ⟨h.os, h.tape, h.output, h.size, fun i hi _ => h.block i hi⟩
theorem Ext.of_grown {w w' : World} (h : w.grownBy w' none) : Ext w w' := ⟨h.os, h.tape, h.output, h.size, fun i hi => h.block i hi (by simp)⟩

/-- Block g is just the cells cs of element type t, none frozen. -/
def Blk (w : World) (g : Nat) (t : TypeId) (cs : Array Value) : Prop := w.heap[g]? = some (.cells cs t (0, 0))
theorem Blk.lt {w : World} {g : Nat} {t : TypeId} {cs : Array Value} (h : Blk w g t cs) : g < w.heap.size := own_lt h
theorem Blk.cell {w : World} {g : Nat} {t : TypeId} {cs : Array Value} (h : Blk w g t cs) (i : Nat) : w.cell? ⟨g, i, none⟩ = cs[i]? := by
  unfold Blk at h; simp [World.cell?, h]
theorem Blk.free {w : World} {g : Nat} {t : TypeId} {cs : Array Value} (h : Blk w g t cs) (i : Nat) : w.frozen? ⟨g, i, none⟩ = false := by
  unfold Blk at h; simp [World.frozen?, h]
theorem Blk.new (w : World) (t : TypeId) (cs : Array Value) : Blk (w.alloc (.cells cs t)) w.heap.size t cs := heap_alloc_new w _
theorem Blk.ext {w w' : World} {g : Nat} {t : TypeId} {cs : Array Value} (h : Blk w g t cs) (e : Ext w w') : Blk w' g t cs := (e.block g h.lt).trans h
theorem Blk.alloc {w : World} {g : Nat} {t : TypeId} {cs : Array Value} (h : Blk w g t cs) (o : Obj) : Blk (w.alloc o) g t cs := h.ext (Ext.of_alloc _ _)
theorem Blk.set {w : World} {g : Nat} {t : TypeId} {cs : Array Value} (h : Blk w g t cs) (i : Nat) (u : Value) : Blk (w.setCell ⟨g, i, none⟩ u) g t (cs.setIfInBounds i u) := by
  unfold Blk at h ⊢
  simp [World.setCell, Array.getElem?_modify, h]
theorem Blk.far {w : World} {g : Nat} {t : TypeId} {cs : Array Value} (h : Blk w g t cs) {p : Addr} (hp : g ≠ p.block) (u : Value) : Blk (w.setCell p u) g t cs := (Below.heap_setCell w p u g hp).trans h
theorem Blk.grown {w w' : World} {g : Nat} {t : TypeId} {cs : Array Value} {row : Option Nat} (h : Blk w g t cs) (hb : w.grownBy w' row) (hg : some g ≠ row) : Blk w' g t cs := (hb.block g h.lt hg).trans h
theorem Blk.ne {w : World} {g g' : Nat} {t t' : TypeId} {cs cs' : Array Value} (h : Blk w g t cs) (h' : Blk w g' t' cs') (hne : t ≠ t') : g ≠ g' := by
  rintro rfl
  unfold Blk at h h'
  rw [h] at h'
  injection h' with h'
  injection h' with _ ht
  exact hne ht
theorem grown_setCell (w : World) (p : Addr) (u : Value) : w.grownBy (w.setCell p u) (some p.block) :=
  ⟨rfl, rfl, rfl, by simp, fun i _ hne => Below.heap_setCell _ _ _ _ (fun e => hne (by rw [e]))⟩
theorem grown_refl (w : World) (row : Option Nat) : w.grownBy w row := (Ext.refl w).grown row
theorem grown_trans {a b c : World} {row : Option Nat} (h : a.grownBy b row) (k : b.grownBy c row) : a.grownBy c row :=
  ⟨k.os.trans h.os, k.tape.trans h.tape, k.output.trans h.output, Nat.le_trans h.size k.size, fun i hi hne => (k.block i (Nat.lt_of_lt_of_le hi h.size) hne).trans (h.block i hi hne)⟩
theorem grown_drew (w : World) (row : Option Nat) : w.grownBy w.drew row := (Ext.refl w).drew.grown row

theorem quiet_add_same {P : Program} {f : FuncId} {args : Array Value} {w : World} {a n : Nat} {v : Value}
    (h : Calls P f args (w.drewN (a + n)) fun e w' => e = .returned v ∧ w' = w.drewN (a + n)) :
    Calls P f args (w.drewN (a + n)) fun e w'' => e = .returned v ∧ ∃ m, w'' = w.drewN (a + m) :=
  h.mono fun _ _ ⟨he, hm⟩ => ⟨he, n, hm⟩

/-- A region that draws, all of whose operations read or call, in a class of worlds. -/
theorem wp_region_class {P : Program} {id : Nat} {Q : Exit → Act → World → Prop} {a : Act} {w : World} {l : List Oper} (C : World → Prop) (hm : P.follows .mixedOrders = true) (hB : Region.lexB .any l.toArray = true) (hC : C w.drew)
    (h : wpQuiet P l.toArray C (fun a' => ∀ w', C w' → Q .normal a' w') l a) : (Code.region id l.toArray true).wp P Q a w :=
  wp_region_quiet (C := C) hm hB hC (by simpa using h)

theorem ret_int {k : IntKind} {a b : Int} (h : a = b) : Ending.returned (.int k a) = .returned (.int k b) := by rw [h]
theorem ret_bool {a b : Bool} (h : a = b) : Ending.returned (.bool a) = .returned (.bool b) := by rw [h]
end Go.Proofs.Ytbhjehpjjbbhbaa

namespace Go.Proofs.Ytbhjehpjjbbhbaa
open Go.RowKit Go.ChangeShapes Go.WideShapes Go.Deep

section
variable {H : Type} {enc : TypeId × Value → H} {P : Program} {w : World} {base : Nat} {held : Bool}

/-- A slice's elements, cell by cell. -/
theorem rd_slice {t e : TypeId} {sz n : Nat} {v : Value} {y : DataW H × List MemPlace} (ht : P.underlying t = some (.slice e)) (hc : P.cellsOf e = sz) (hsz : 0 < sz) (h : DataW.trod enc P w base (fun _ => true) held n t [v] = some y) :
    ∃ A len cap, v = .slice A len cap ∧ len ≤ 9223372036854775807 ∧ (A = none → len = 0) ∧ ∀ i, i < len → ∃ b off m cs z, A = some ⟨b, off, none⟩ ∧ b < w.heap.size ∧ cs.length = sz ∧ (∀ j, j < sz → w.cell? ⟨b, off + i * sz + j, none⟩ = cs[j]?) ∧
      DataW.trod enc P w base (fun _ => true) held m e cs = some z := by
  rcases open_slice ht h with ⟨h0, _⟩ | ⟨a, len, cap, m, n', D, Pl, h0, hb, hl, hm, hmm, _, hx⟩
  · injection h0 with h0
    exact ⟨none, 0, 0, h0, by omega, fun _ => rfl, fun i hi => by omega⟩
  · injection h0 with h0
    have hmx : maxLen = 9223372036854775807 := rfl
    refine ⟨some a, len, cap, h0, by omega, (fun h => by cases h), fun i hi => ?_⟩
    simp only [if_true] at hmm
    obtain ⟨cs, h1, h2⟩ := hx i (by omega)
    obtain ⟨_, hlen, hcell⟩ := World.cells?_some h1
    rw [hc] at hlen hcell
    have hc0 := hcell 0 hsz
    rw [List.getElem?_eq_getElem (by omega)] at hc0
    obtain ⟨b, off, spot⟩ := a
    have hadd : ∀ (x y : Nat), ((⟨b, off, spot⟩ : Addr).add x).add y = (⟨b, off, spot⟩ : Addr).add (x + y) := fun x y => add_of_add _ _ _
    have hsp : spot = none := by
      obtain ⟨cs0, g1, _⟩ := hx 0 (by omega)
      obtain ⟨_, glen, gcell⟩ := World.cells?_some g1
      rw [hc] at glen gcell
      have g0 := gcell 0 hsz
      rw [List.getElem?_eq_getElem (by omega)] at g0
      have := World.cell?_spot g0
      simpa [hadd, Addr.add] using this
    subst hsp
    have hform : ∀ x, (⟨b, off, none⟩ : Addr).add x = ⟨b, off + x, none⟩ := fun x => by
      unfold Addr.add
      by_cases hx0 : x = 0 <;> simp [hx0]
    refine ⟨b, off, n', cs, _, rfl, ?_, hlen, fun j hj => ?_, h2⟩
    · have := World.block_lt_of_cell? w _ hc0
      rw [hadd, hform] at this
      exact this
    · have := hcell j hj
      rw [hadd, hform] at this
      rw [← this, Nat.add_assoc]

theorem rd_int {t : TypeId} {n : Nat} {cs : List Value} {y : DataW H × List MemPlace} (ht : P.underlying t = some (.int .i64)) (h : DataW.trod enc P w base (fun _ => true) held n t cs = some y) : ∃ i : Int, cs = [.int .i64 i] ∧ -9223372036854775808 ≤ i ∧ i ≤ 9223372036854775807 := by
  obtain ⟨i, h1, _, h3⟩ := DataW.trod_int ht h
  refine ⟨i, h1, ?_⟩
  simpa [Lit.wf, IntKind.min, IntKind.max, IntKind.signed, IntKind.bits] using h3

def I64 (x : Int) : Prop := -9223372036854775808 ≤ x ∧ x ≤ 9223372036854775807

theorem rd_ints {t e : TypeId} {n : Nat} {v : Value} {y : DataW H × List MemPlace} (ht : P.underlying t = some (.slice e)) (he : P.underlying e = some (.int .i64)) (hc : P.cellsOf e = 1) (h : DataW.trod enc P w base (fun _ => true) held n t [v] = some y) :
    ∃ A c, ∃ l : List Int, v = .slice A l.length c ∧ Ints w A l ∧ l.length ≤ 9223372036854775807 ∧ (A = none → l = []) ∧ ∀ x ∈ l, I64 x := by
  obtain ⟨A, len, cap, rfl, hl, hn, hx⟩ := rd_slice ht hc (by omega) h
  have key : ∀ i, i < len → ∃ x : Int, (∃ b off, A = some ⟨b, off, none⟩ ∧ b < w.heap.size ∧ w.cell? ⟨b, off + i, none⟩ = some (.int .i64 x)) ∧ I64 x := by
    intro i hi
    obtain ⟨b, off, m, cs, z, hA, hb, hlen, hcell, ht'⟩ := hx i hi
    obtain ⟨x, rfl, h1, h2⟩ := rd_int he ht'
    have := hcell 0 (by omega)
    rw [Nat.mul_one, Nat.add_zero] at this
    exact ⟨x, ⟨b, off, hA, hb, this⟩, h1, h2⟩
  obtain ⟨f, hf⟩ := choose_lt key
  have hlen : ((List.range len).map f).length = len := by simp
  refine ⟨A, cap, (List.range len).map f, by rw [hlen], fun k hk => ?_, by omega, fun hA => by rw [hn hA]; rfl, fun x hx' => ?_⟩
  · rw [hlen] at hk
    obtain ⟨⟨b, off, h1, h2, h3⟩, _⟩ := hf k hk
    exact ⟨b, off, h1, h2, by rw [h3]; simp [List.getD, hk]⟩
  · obtain ⟨k, hk, rfl⟩ := List.mem_map.1 hx'
    exact (hf k (by simpa using hk)).2

/-- A world that only has more. -/
theorem since_of_ext {W W' : World} (h : Ext W W') : W.Since W.heap.size W' := ⟨h.os, h.tape, h.output, h.size, fun k hk => h.block k hk⟩
/-- An argument reads as before in a world that only has more. -/
theorem stays {t : TypeId} (hl : laidOutB P = true) (hr : P.readableRec t = true) (hrow : t < P.types.size) {W W' : World} {sp' : Nat → Bool} {v : Value} {d : DataW H} {ps : List MemPlace}
    (h : DataW.Trod enc P W 0 (fun _ => true) true t v d ps) (hE : Ext W W') (hlt : ∀ p ∈ ps, p.block < W.heap.size) (hs : ∀ p ∈ ps, sp' p.block = true) : DataW.Trod enc P W' 0 sp' true t v d ps :=
  WideElems.Trod_stays hl hr hrow h (fun p hp => (since_of_ext hE).sameAt (hlt p hp)) hs
end
end Go.Proofs.Ytbhjehpjjbbhbaa

namespace Go.Proofs.Ytbhjehpjjbbhbaa
open Go.RowKit Go.ChangeShapes Go.WideShapes Go.Deep Go.ChangeAt

section
variable {H : Type} {enc : TypeId × Value → H} {P : Program}
theorem staysAll (hl : laidOutB P = true) {W W' : World} (hE : Ext W W') {sp' : Nat → Bool} : ∀ {ts : List TypeId} {vs : List Value} {ds : List (DataW H)} {ps : List MemPlace}, (∀ t ∈ ts, P.readableRec t = true ∧ t < P.types.size) →
    DataW.TrodAll enc P W 0 (fun _ => true) true ts vs ds ps → (∀ p ∈ ps, p.block < W.heap.size) → (∀ p ∈ ps, sp' p.block = true) → DataW.TrodAll enc P W' 0 sp' true ts vs ds ps := by
  intro ts
  induction ts with
  | nil =>
    intro vs ds ps _ h _ _
    obtain ⟨rfl, rfl, rfl⟩ := trodAll_nil h
    exact trodAll_mk0
  | cons t ts ih =>
    intro vs ds ps ht h hlt hs
    obtain ⟨v, vs', d, ds', p, q, rfl, rfl, rfl, h0, hr⟩ := trodAll_cons h
    exact trodAll_cons_mk (stays hl (ht t List.mem_cons_self).1 (ht t List.mem_cons_self).2 h0 hE (fun x hx => hlt x (List.mem_append_left _ hx)) (fun x hx => hs x (List.mem_append_left _ hx)))
      (ih (fun t' h' => ht t' (List.mem_cons_of_mem _ h')) hr (fun x hx => hlt x (List.mem_append_right _ hx)) (fun x hx => hs x (List.mem_append_right _ hx)))

theorem trodLen {w : World} {base : Nat} {spare : Nat → Bool} {held : Bool} : ∀ {ts : List TypeId} {vs : List Value} {ds : List (DataW H)} {ps : List MemPlace}, DataW.TrodAll enc P w base spare held ts vs ds ps → ds.length = ts.length := by
  intro ts
  induction ts with
  | nil =>
    intro vs ds ps h
    obtain ⟨rfl, rfl, rfl⟩ := trodAll_nil h
    rfl
  | cons t ts ih =>
    intro vs ds ps h
    obtain ⟨v, vs', d, ds', p, q, rfl, rfl, rfl, h0, hr⟩ := trodAll_cons h
    simp [ih hr]

theorem law_post {f : Func} {s : ChangeSpec} {W W' : World} {args : Array Value} {ds gs : List (DataW H)} {before : List MemPlace} {tb : TypeId} (hl : laidOutB P = true) (hts : ∀ t ∈ f.params.toList, P.readableRec t = true ∧ t < P.types.size)
    (hv : s.vars = []) (hb : P.underlying tb = some .bool) (hrt : f.resultTypes = #[tb]) (hspec : ∀ l : List (DataW H), l.length = f.params.toList.length → s.fn H (l ++ []) = { results := [.lit (.bool true)], args := l, vars := [] })
    (hW : DataW.Whole enc P f.params.toList s.vars false W args.toList ds gs before) (hE : Ext W W') : s.post enc P f false true false false W args (.bool true) W' := by
  have hW' := hW
  obtain ⟨p, q, hA, hV, rfl, _, _⟩ := hW
  rw [hv] at hV
  obtain ⟨rfl, rfl⟩ := trodVars_none hV
  have hlt : ∀ x ∈ p, x.block < W.heap.size := fun x hx => hW'.lt x (by simp [hx])
  have hlen := trodLen hA
  have hs := hspec ds hlen
  refine ⟨ds, [], _, [], p, [], hW', ?_, ?_, ?_, (since_of_ext hE).frame _, fun h => by cases h⟩
  · rw [hs, hrt]
    exact trodAll_cons_mk (shut_bool hb _) trodAll_mk0
  · rw [hs]
    exact staysAll hl hE hts hA hlt (fun x hx => by simpa using hlt x hx)
  · rw [hs, hv]
    rfl
end
end Go.Proofs.Ytbhjehpjjbbhbaa

namespace Go.Proofs.Ytbhjehpjjbbhbaa
open Go.RowKit Go.ChangeShapes Go.WideShapes Go.Deep

def nobody : Nat → Prop := fun _ => False
/-- Cells that are as a table says. -/
def CellsAre (w : World) (cs : List Value) (sz : Nat) (c : Nat → AV) : Prop := cs.length = sz ∧ ∀ o, o < sz → ∃ u, cs[o]? = some u ∧ u.oneCell' = true ∧ rep nobody w (c o) g0 u
theorem law_calls {P : Program} {f : FuncId} {xs : List AV} (H : ACall P f xs [] (fun r h => r = .bool true ∧ h = [])) {w : World} {vs : Array Value} (hs : vs.size = xs.length) (hr : ∀ (i : Nat) (x : AV), xs[i]? = some x → rep nobody w x g0 (vs.getD i undef)) :
    Calls P f vs w fun e w' => e = .returned (.bool true) ∧ Ext w w' := by
  have noM : ∀ b, MM nobody g0 [] b → False := fun b hb => by
    rcases hb with hb | ⟨d, cap, ⟨x, hx, _⟩, _⟩
    · exact hb
    · simp at hx
  refine (H.2 nobody g0 w vs (HOK.nil w (fun _ h => h.elim)) hs fun i x hx => rep_mono (Chg.refl _ w) (fun b _ hb => (noM b hb).elim) _ (GM.le_refl _) (hr i x hx)).mono ?_
  rintro e w' ⟨v, r, h', g', rfl, T, hv, rfl, _⟩
  have : v = .bool true := hv
  subst this
  exact ⟨rfl, T.chg.os, T.chg.tape, T.chg.output, T.chg.size, fun b hb => T.chg.block b hb (fun hm => noM b (.inr hm))⟩
theorem CellsAre.agg {w : World} {cs : List Value} {sz : Nat} {c : Nat → AV} (h : CellsAre w cs sz c) : rep nobody w (.agg sz c) g0 (.agg cs.toArray) :=
  ⟨_, rfl, by simp [h.1], fun i hi => by obtain ⟨u, h1, h2, h3⟩ := h.2 i hi; exact ⟨u, by simpa using h1, h2, h3⟩⟩
theorem CellsAre.val {w : World} {v : Value} {cs : List Value} {c : Nat → AV} (h : CellsAre w cs 1 c) (hv : cs = [v]) : rep nobody w (c 0) g0 v := by
  subst hv
  obtain ⟨u, h1, _, h3⟩ := h.2 0 (by omega)
  simp at h1
  rw [h1]; exact h3
theorem CellsAre.sub {w : World} {cs : List Value} {off k : Nat} {c : Nat → AV} (h : CellsAre w ((cs.drop off).take k) k c) {o : Nat} (ho : o < k) : ∃ u, cs[off + o]? = some u ∧ u.oneCell' = true ∧ rep nobody w (c o) g0 u := by
  obtain ⟨u, h1, h2⟩ := h.2 o ho
  rw [List.getElem?_take] at h1
  simp only [ho, if_true, List.getElem?_drop] at h1
  exact ⟨u, h1, h2⟩
theorem CellsAre.one {w : World} {v : Value} {x : AV} (h1 : v.oneCell' = true) (h : rep nobody w x g0 v) : CellsAre w [v] 1 (fun _ => x) :=
  ⟨rfl, fun o ho => by obtain rfl : o = 0 := (by omega)
                       exact ⟨v, rfl, h1, h⟩⟩
section
variable {H : Type} {enc : TypeId × Value → H} {P : Program} {w : World} {base : Nat} {held : Bool}
theorem rdr_int {t : TypeId} {n : Nat} {cs : List Value} {y : DataW H × List MemPlace} (ht : P.underlying t = some (.int .i64)) (h : DataW.trod enc P w base (fun _ => true) held n t cs = some y) : ∃ i : Int, I64 i ∧ CellsAre w cs 1 (fun _ => .int .i64 i) := by
  obtain ⟨i, rfl, hi⟩ := rd_int ht h
  exact ⟨i, hi, .one rfl rfl⟩
theorem rdr_slice {α : Type} {t e : TypeId} {sz : Nat} (c : α → Nat → AV) (Q : α → Prop) (d : α) (ht : P.underlying t = some (.slice e)) (hc : P.cellsOf e = sz) (hsz : 0 < sz) (rd : ∀ {n : Nat} {cs : List Value} {y : DataW H × List MemPlace}, DataW.trod enc P w base (fun _ => true) held n e cs = some y → ∃ x, Q x ∧ CellsAre w cs sz (c x))
    {n : Nat} {cs : List Value} {y : DataW H × List MemPlace} (h : DataW.trod enc P w base (fun _ => true) held n t cs = some y) :
    ∃ (z : Bool) (l : List α), (l.length ≤ 9223372036854775807 ∧ ∀ x ∈ l, Q x) ∧ CellsAre w cs 1 (fun _ => .sl z false l.length sz (fun k => c (l.getD k d))) := by
  have hmx : maxLen = 9223372036854775807 := rfl
  have h' := h
  rcases open_slice ht h with ⟨rfl, _⟩ | ⟨a, len, cap, m, n', D, Pl, rfl, hb, hl, hm, hmm, _, hx⟩
  · refine ⟨true, [], ⟨by simp, fun x hx => by cases hx⟩, .one rfl ⟨none, 0, rfl, by simp, by simp, fun h => (by cases h), by simp, fun k hk => absurd hk (Nat.not_lt_zero k)⟩⟩
  · obtain ⟨A, len', cap', h0, hl', hn, hxx⟩ := rd_slice ht hc hsz h'
    injection h0 with e1 e2 e3
    subst e1; subst e2; subst e3
    have key : ∀ i, i < len → ∃ x : α, Q x ∧ ∃ b off, (some a : Option Addr) = some ⟨b, off, none⟩ ∧ b < w.heap.size ∧ ∀ o, o < sz → ∃ u, w.cell? ⟨b, off + i * sz + o, none⟩ = some u ∧ u.oneCell' = true ∧ rep nobody w (c x o) g0 u := fun i hi => by
      obtain ⟨b, off, m, cs, z, hA, hb, hlen, hcell, ht'⟩ := hxx i hi
      obtain ⟨x, hq, hcs⟩ := rd ht'
      refine ⟨x, hq, b, off, hA, hb, fun o ho => ?_⟩
      obtain ⟨u, h1, h2⟩ := hcs.2 o ho
      exact ⟨u, (hcell o ho).trans h1, h2⟩
    obtain ⟨f, hf⟩ : ∃ f : Nat → α, ∀ i, i < len → Q (f i) ∧ ∃ b off, (some a : Option Addr) = some ⟨b, off, none⟩ ∧ b < w.heap.size ∧ ∀ o, o < sz → ∃ u, w.cell? ⟨b, off + i * sz + o, none⟩ = some u ∧ u.oneCell' = true ∧ rep nobody w (c (f i) o) g0 u := by
      refine ⟨fun i => open Classical in if hi : i < len then (key i hi).choose else d, fun i hi => ?_⟩
      simp only [hi, dif_pos]
      exact (key i hi).choose_spec
    have hlen : ((List.range len).map f).length = len := by simp
    refine ⟨false, (List.range len).map f, ⟨by rw [hlen]; omega, fun x hx => ?_⟩, ?_⟩
    · obtain ⟨k, hk, rfl⟩ := List.mem_map.1 hx
      exact (hf k (by simpa using hk)).1
    · refine .one rfl ⟨some a, cap, by rw [hlen], by simp, by simp, fun h => (by cases h), by rw [hlen]; exact hl, fun k hk o ho => ?_⟩
      rw [hlen] at hk
      obtain ⟨_, b, off, h1, h2, h3⟩ := hf k hk
      obtain ⟨u, h4, h5, h6⟩ := h3 o ho
      have hg : ((List.range len).map f).getD k d = f k := by simp [List.getD, hk]
      exact ⟨b, off, u, h1, h2, fun h => h, h4, h5, by show rep nobody w (c (((List.range len).map f).getD k d) o) g0 u; rw [hg]; exact h6⟩
theorem rdr_field {t : TypeId} {fs : Array Field} {n : Nat} {cs : List Value} {y : DataW H × List MemPlace} (ht : P.underlying t = some (.struct fs)) (h : DataW.trod enc P w base (fun _ => true) held n t cs = some y) : cs.length = P.cellsOf t ∧ ∀ (k : Nat) (f : Field), fs[k]? = some f → ∃ m x, DataW.trod enc P w base (fun _ => true) held m f.type ((cs.drop f.offset).take (P.cellsOf f.type)) = some x := by
  obtain ⟨xs, m, _, rfl, hl, hlen, hf⟩ := DataW.trod_struct ht h
  refine ⟨hl, fun k f hk => ?_⟩
  have hk' : k < fs.size := by
    rcases Nat.lt_or_ge k fs.size with h | h
    · exact h
    · rw [Array.getElem?_eq_none h] at hk; cases hk
  have := hf k f hk
  rw [List.getElem?_eq_getElem (by omega)] at this
  exact ⟨m, _, this⟩
/-- Each field reads. -/
def FRd (enc : TypeId × Value → H) (P : Program) (w : World) (base : Nat) (held : Bool) (cs : List Value) : List Field → Prop
  | [] => True
  | f :: fs => (∃ m x, DataW.trod enc P w base (fun _ => true) held m f.type ((cs.drop f.offset).take (P.cellsOf f.type)) = some x) ∧ FRd enc P w base held cs fs
theorem FRd.of {cs : List Value} : ∀ {l : List Field}, (∀ f ∈ l, ∃ m x, DataW.trod enc P w base (fun _ => true) held m f.type ((cs.drop f.offset).take (P.cellsOf f.type)) = some x) → FRd enc P w base held cs l
  | [], _ => trivial
  | _ :: _, h => ⟨h _ List.mem_cons_self, FRd.of fun f hf => h f (List.mem_cons_of_mem _ hf)⟩
theorem rdr_fields {t : TypeId} {fs : Array Field} {n : Nat} {cs : List Value} {y : DataW H × List MemPlace} (ht : P.underlying t = some (.struct fs)) (h : DataW.trod enc P w base (fun _ => true) held n t cs = some y) : cs.length = P.cellsOf t ∧ FRd enc P w base held cs fs.toList := by
  obtain ⟨h1, h2⟩ := rdr_field ht h
  refine ⟨h1, FRd.of fun f hf => ?_⟩
  obtain ⟨k, hk, rfl⟩ := List.getElem_of_mem hf
  exact h2 k _ (by simp)
end
end Go.Proofs.Ytbhjehpjjbbhbaa

namespace Go.Proofs.Ytbhjehpjjbbhbaa
open Go.RowKit Go.ChangeShapes Go.WideShapes Go.Deep

theorem in64_get {l : List Int} (h : ∀ x ∈ l, I64 x) : ∀ s, s < l.length → in64 (l.getD s 0) := fun s hs => by
  have := h (l.getD s 0) (by simp [List.getD, List.getElem?_eq_getElem hs])
  exact this
section
variable {H : Type} {enc : TypeId × Value → H} {w : World} {base : Nat} {held : Bool}
theorem csz : Try.prog.cellsOf 3 = 1 ∧ Try.prog.cellsOf 35 = 1 ∧ Try.prog.cellsOf 23 = 1 ∧ Try.prog.cellsOf 27 = 3 ∧ Try.prog.cellsOf 22 = 1 ∧ Try.prog.cellsOf 25 = 4 := by
  refine ⟨?_, ?_, ?_, ?_, ?_, ?_⟩ <;> kernel_rfl
theorem rt_int {n : Nat} {cs : List Value} {y : DataW H × List MemPlace} (h : DataW.trod enc Try.prog w base (fun _ => true) held n 3 cs = some y) : ∃ i : Int, I64 i ∧ CellsAre w cs 1 (fun _ => AI i) := rdr_int Try.underlying3 h
theorem rt_ints {n : Nat} {cs : List Value} {y : DataW H × List MemPlace} (h : DataW.trod enc Try.prog w base (fun _ => true) held n 35 cs = some y) : ∃ (z : Bool) (l : List Int), (l.length ≤ 9223372036854775807 ∧ ∀ x ∈ l, I64 x) ∧ CellsAre w cs 1 (fun _ => aInts z false l) :=
  rdr_slice (fun (x : Int) _ => AI x) I64 0 Try.underlying35 csz.1 (by omega) rt_int h
theorem rt_row {n : Nat} {cs : List Value} {y : DataW H × List MemPlace} (h : DataW.trod enc Try.prog w base (fun _ => true) held n 35 cs = some y) : ∃ x : Bool × List Int, True ∧ CellsAre w cs 1 (fun _ => aInts x.1 false x.2) := by
  obtain ⟨z, l, _, c⟩ := rt_ints h
  exact ⟨(z, l), trivial, c⟩
theorem rt_rows {n : Nat} {cs : List Value} {y : DataW H × List MemPlace} (h : DataW.trod enc Try.prog w base (fun _ => true) held n 23 cs = some y) : ∃ (z : Bool) (rz : Nat → Bool) (l : List (List Int)), True ∧ CellsAre w cs 1 (fun _ => aRows z false rz (fun _ => false) l) := by
  obtain ⟨z, l, _, c⟩ := rdr_slice (fun (x : Bool × List Int) _ => aInts x.1 false x.2) (fun _ => True) (true, []) Try.underlying23 csz.2.1 (by omega) rt_row h
  have hb : ∀ k, (l.map Prod.snd).getD k [] = (l.getD k (true, [])).2 := fun k => by
    simp only [List.getD, List.getElem?_map]
    cases l[k]? <;> rfl
  refine ⟨z, fun k => (l.getD k (true, [])).1, l.map Prod.snd, trivial, ?_⟩
  simp only [aRows, List.length_map, hb]
  exact c
theorem rt_folk {n : Nat} {cs : List Value} {y : DataW H × List MemPlace} (h : DataW.trod enc Try.prog w base (fun _ => true) held n 27 cs = some y) : ∃ x : Folk, (I64 x.tongues ∧ I64 x.slots ∧ I64 x.pay) ∧ CellsAre w cs 3 (cFolk x) := by
  obtain ⟨hl, ⟨_, _, h0⟩, ⟨_, _, h1⟩, ⟨_, _, h2⟩, _⟩ := rdr_fields Try.underlying27 h
  simp only [csz.1] at h0 h1 h2
  obtain ⟨a, ha, c0⟩ := rt_int h0
  obtain ⟨b, hb, c1⟩ := rt_int h1
  obtain ⟨c, hc, c2⟩ := rt_int h2
  refine ⟨⟨a, b, c⟩, ⟨ha, hb, hc⟩, by rw [hl]; exact csz.2.2.2.1, fun o ho => ?_⟩
  rcases (show o = 0 ∨ o = 1 ∨ o = 2 by omega) with rfl | rfl | rfl
  · exact c0.sub (o := 0) (by omega)
  · exact c1.sub (o := 0) (by omega)
  · exact c2.sub (o := 0) (by omega)
theorem rt_folks {n : Nat} {cs : List Value} {y : DataW H × List MemPlace} (h : DataW.trod enc Try.prog w base (fun _ => true) held n 22 cs = some y) : ∃ (z : Bool) (l : List Folk), (l.length ≤ 9223372036854775807 ∧ ∀ x ∈ l, I64 x.tongues ∧ I64 x.slots ∧ I64 x.pay) ∧ CellsAre w cs 1 (fun _ => aFolks z false l) :=
  rdr_slice cFolk (fun x => I64 x.tongues ∧ I64 x.slots ∧ I64 x.pay) fo0 Try.underlying22 csz.2.2.2.1 (by omega) rt_folk h
theorem rt_pool {n : Nat} {cs : List Value} {y : DataW H × List MemPlace} (h : DataW.trod enc Try.prog w base (fun _ => true) held n 25 cs = some y) : ∃ (f : PoF) (p : Pool), True ∧ CellsAre w cs 4 (cPool f p) := by
  obtain ⟨hl, ⟨_, _, h0⟩, ⟨_, _, h1⟩, ⟨_, _, h2⟩, ⟨_, _, h3⟩, _⟩ := rdr_fields Try.underlying25 h
  simp only [csz.1, csz.2.2.1, csz.2.2.2.2.1] at h0 h1 h2 h3
  obtain ⟨z0, a, _, c0⟩ := rt_folks h0
  obtain ⟨z1, rz, b, _, c1⟩ := rt_rows h1
  obtain ⟨c, _, c2⟩ := rt_int h2
  obtain ⟨d, _, c3⟩ := rt_int h3
  refine ⟨⟨z0, false, z1, false, rz, fun _ => false⟩, ⟨a, b, c, d⟩, trivial, by rw [hl]; exact csz.2.2.2.2.2, fun o ho => ?_⟩
  rcases (show o = 0 ∨ o = 1 ∨ o = 2 ∨ o = 3 by omega) with rfl | rfl | rfl | rfl
  · exact c0.sub (o := 0) (by omega)
  · exact c1.sub (o := 0) (by omega)
  · exact c2.sub (o := 0) (by omega)
  · exact c3.sub (o := 0) (by omega)
end
end Go.Proofs.Ytbhjehpjjbbhbaa

namespace Go.Proofs.Ytbhjehpjjbbhbaa
open Go.RowKit

def missR (p : Pool) (w : List Int) (i s k : Nat) : Int := if k < i then (missTo p w k w.length : Int) else if k = i then (missTo p w i s : Int) else 0
theorem missR_at (p : Pool) (w : List Int) (i s : Nat) : missR p w i s i = missTo p w i s := by
  unfold missR; rw [if_neg (Nat.lt_irrefl i), if_pos rfl]
theorem missR_next (p : Pool) (w : List Int) (i k : Nat) : missR p w (i + 1) 0 k = missR p w i w.length k := by
  unfold missR
  by_cases h1 : k < i
  · rw [if_pos (by omega), if_pos h1]
  · by_cases h2 : k = i
    · subst h2; rw [if_pos (by omega), if_neg h1, if_pos rfl]
    · rw [if_neg (by omega), if_neg h1, if_neg h2]
      split <;> rfl
theorem missR_0 (p : Pool) (w : List Int) (k : Nat) : missR p w 0 0 k = 0 := by
  unfold missR
  rw [if_neg (Nat.not_lt_zero k)]
  split <;> rfl
theorem missR_row {p : Pool} {w : List Int} {i s k o : Nat} {x : Int} (hx : x = (missTo p w i (s + 1) : Int)) : AI (missR p w i (s + 1) k) = updRm (fun k _ => AI (missR p w i s k)) i (fun _ => AI x) k o := by
  subst hx
  simp only [updRm, missR]
  by_cases e : k = i
  · subst e; rw [if_neg (Nat.lt_irrefl k), if_pos rfl, if_pos rfl]
  · rw [if_neg e, if_neg e, if_neg e]
theorem missR_same {p : Pool} {w : List Int} {i s : Nat} (h : missTo p w i (s + 1) = missTo p w i s) (k : Nat) : AI (missR p w i (s + 1) k) = AI (missR p w i s k) := by
  unfold missR; rw [h]
theorem missR_end {p : Pool} {w : List Int} {i k : Nat} (h : k < i) : missR p w i 0 k = missTo p w k w.length := by
  unfold missR; rw [if_pos h]
theorem sub_sdiff {g i : Nat} (hg : g < 256) (hi : i < 8) (hb : g.testBit i = true) : ((sdiff g (2 ^ i) : Nat) : Int) = (g : Int) - ((2 ^ i : Nat) : Int) := by
  have : ∀ a : _root_.Fin 256, ∀ b : _root_.Fin 8, a.val.testBit b.val = true → ((sdiff a.val (2 ^ b.val) : Nat) : Int) = (a.val : Int) - ((2 ^ b.val : Nat) : Int) := by decide +kernel
  exact this ⟨g, hg⟩ ⟨i, hi⟩ hb
theorem sdiff_un {g i : Nat} (hg : g < 256) (hi : i < 8) (hb : g.testBit i = false) : sdiff g (2 ^ i) = g := by
  have : ∀ a : _root_.Fin 256, ∀ b : _root_.Fin 8, a.val.testBit b.val = false → sdiff a.val (2 ^ b.val) = a.val := by decide +kernel
  exact this ⟨g, hg⟩ ⟨i, hi⟩ hb
theorem isMiss_un {p : Pool} {s g i : Nat} (hg : g < 256) (hi : i < 8) (hb : g.testBit i = false) : isMiss p s g i = false := by
  unfold isMiss; rw [sdiff_un hg hi hb]; cases coveredT p s g <;> rfl
set_option maxHeartbeats 4000000
set_option maxRecDepth 100000
theorem refMissed_ok (f : PoF) (p : Pool) (z e : Bool) (w : List Int) (hn : NearP p) (hl : w.length ≤ 1000) : ACall Try.prog 32 [aPool f p, aInts z e w] [] (fun r h => r = .tup 2 (ofL [outI (missedE p w).1, AI (missedE p w).2]) ∧ h = []) := by
  have cW := checkWatch_ok f p z e w hn hl
  (refine fcall_of mixed Try.func32 rfl (by decide) (hs := {}) ?k (ac := ?ac) ?c (rs := ?rs) ?r ?l ?H; (case k => kernel_rfl); (case c => (conv => (lhs; cbv))); (case r => (conv => (lhs; cbv))); (case l => exact Nat.le_of_ble_eq_true rfl))
  by_cases hk : checkW p w = 0
  · obtain ⟨h, k⟩ := checkW_d hk
    have s6 := h.s6
    have n8 := h.n8
    have n1 := h.n1
    have hp8 := pow8 h.n8
    have hlen := k.len
    have hE : missedE p w = (missL p w, 0) := by unfold missedE; rw [if_pos hk]
    rw [hE]
    rw [hk] at cW
    have hoI : outI (missL p w) = aInts false false (missL p w) := outI_of (m := p.folk.length - 1) (by rw [missL_len]; omega)
    (repeat' ((try (conv => whnf)); first | (with_reducible first | refine FCond.tA ?_ | refine FCond.fA ?_) | ((with_reducible refine FCond.i (fun hq => ?_) (fun hq => ?_)) <;> (try simp only [zA, zE, zD, zJ, zB, zI, Int.not_le, Int.not_lt] at hq)) | (with_reducible first | refine Fits.in64 (by omega) ?_ | refine FIdx.nat (by omega) ?_ | refine FIdx.int (by omega) ?_ | refine FTo.nat (by omega) ?_ | refine FTo.int (by omega) ?_) | ((with_reducible refine Need.mk ?_ ?_); focus exact needA) | (with_reducible refine FApp.grow ?_) | (refine FCall.pure (cW) ⟨Ln.sameB _ rfl, Ln.sameB _ rfl, True.intro⟩ rfl ?_)))
    all_goals (try (conv => whnf))
    refine FLoop.of (ACalls.mono _) (X := Nat) (fun i => [(1, aInts z e w), (2, .ptr 0 0), (7, .own 1 p.folk.length), (8, AI i)]) (fun i => [.box 4 (cPool f p), rowZ p.folk.length (missR p w i 0)]) (fun i => i ≤ p.folk.length) (fun i => p.folk.length - i) 0 ⟨Nat.zero_le _, [0, 1], Cut.of (Nat.le_of_ble_eq_true rfl) rfl rfl (CutL.turned rfl LnB.A (CutL.turned rfl (LnB.rowE (by omega) (fun k hk o ho => by obtain rfl : o = 0 := (by omega); exact int_eq (missR_0 p w k))) CutL.done)), allA⟩ ?_
    intro i hi
    by_cases hlt : i < p.folk.length
    · (repeat' ((try (conv => whnf)); first | (with_reducible first | refine FCond.tA ?_ | refine FCond.fA ?_) | ((with_reducible refine FCond.i (fun hq => ?_) (fun hq => ?_)) <;> (try simp only [zA, zE, zD, zJ, zB, zI, Int.not_le, Int.not_lt] at hq)) | (with_reducible first | refine Fits.in64 (by omega) ?_ | refine FIdx.nat (by omega) ?_ | refine FIdx.int (by omega) ?_ | refine FTo.nat (by omega) ?_ | refine FTo.int (by omega) ?_) | ((with_reducible refine Need.mk ?_ ?_); focus exact needA) | (with_reducible refine FApp.grow ?_)))
      all_goals (try (conv => whnf))
      refine FLoop.of (ACalls.mono _) (X := Nat) (fun s => [(1, aInts z e w), (2, .ptr 0 0), (7, .own 1 p.folk.length), (8, AI i), (9, AI s)]) (fun s => [.box 4 (cPool f p), rowZ p.folk.length (missR p w i s)]) (fun s => s ≤ w.length) (fun s => w.length - s) 0 ⟨Nat.zero_le _, [0, 1], Cut.A, allA⟩ ?_
      intro s hs
      by_cases hlt2 : s < w.length
      · obtain ⟨e1, e2, _⟩ := k.el s hlt2
        obtain ⟨m, hm⟩ : ∃ m : Nat, w.getD s 0 = m := ⟨(w.getD s 0).toNat, by omega⟩
        rw [hm, Int.toNat_natCast] at e2
        have c1 := has_ok m i (by omega)
        have cA := covered_ok f p s m (by omega) (by omega) h
        have hle := missTo_le p w i s
        have hst : missTo p w i (s + 1) = missTo p w i s + if isMiss p s m i then 1 else 0 := by rw [missTo, hm, Int.toNat_natCast]
        have hat := missR_at p w i s
        have hpi := pow8 (n := i) (by omega)
        cases hb : m.testBit i
        · rw [hb] at c1
          rw [← hm] at c1
          rw [isMiss_un (by omega) (by omega) hb, if_neg (by decide), Nat.add_zero] at hst
          (repeat' ((try (conv => whnf)); first | (with_reducible first | refine FCond.tA ?_ | refine FCond.fA ?_) | ((with_reducible refine FCond.i (fun hq => ?_) (fun hq => ?_)) <;> (try simp only [zA, zE, zD, zJ, zB, zI, Int.not_le, Int.not_lt] at hq)) | (with_reducible first | refine Fits.in64 (by omega) ?_ | refine FIdx.nat (by omega) ?_ | refine FIdx.int (by omega) ?_ | refine FTo.nat (by omega) ?_ | refine FTo.int (by omega) ?_) | ((with_reducible refine Need.mk ?_ ?_); focus exact needA) | (with_reducible first | refine FBit.hasT rfl (by assumption) ?_ | refine FBit.hasF rfl (by assumption) ?_ | refine FBit.shrN rfl (by omega) ?_ | refine FBit.half rfl ?_ | refine FBit.shl1 rfl (by omega) ?_ | refine Fits.inU (by omega) ?_ | refine FBit.shrNI rfl (by omega) ?_ | refine FBit.shrIN rfl (by omega) (by omega) ?_ | refine FBit.shrI rfl (by omega) (by omega) ?_ | refine FBit.shl1I rfl (by omega) ?_) | (with_reducible refine FBit.has rfl (fun hq => ?_) (fun hq => ?_)) | (with_reducible first | refine FBit.and1 rfl ?_ | refine FBit.andN rfl (by omega) (by omega) ?_ | refine FBit.orN rfl (by omega) (by omega) ?_ | refine FBit.andNotN rfl (by omega) (by omega) ?_) | (with_reducible refine FApp.grow ?_) | (refine FCall.pure (c1) ⟨Ln.sameB _ rfl, Ln.sameB _ rfl, True.intro⟩ rfl ?_)))
          all_goals (try (conv => whnf))
          (exact ⟨⟨(s + 1), hlt2, by show _ < _; omega, [0, 1], (by (refine Cut.of (Nat.le_of_ble_eq_true rfl) rfl rfl ?_; repeat (first | exact CutL.done | (refine CutL.turned rfl (by first | exact LnB.rowS | exact LnB.rowE (Nat.le_refl _) (fun k hk o ho => missR_same hst k) | exact LnB.A) ?_) | (refine CutL.gone (Nat.lt_of_lt_of_le (Nat.lt_succ_self _) (Nat.le_of_ble_eq_true rfl)) ?_)))), allA⟩⟩)
        · have hsd := sub_sdiff (by omega) (by omega) hb
          have cB := covered_ok f p s (sdiff m (2 ^ i)) (by omega) (Nat.lt_of_lt_of_le (sdiff_pow_lt e2) hp8.2) h
          rw [hsd, ← hm] at cB
          rw [hb] at c1
          rw [← hm] at c1 cA
          (repeat' ((try (conv => whnf)); first | (with_reducible first | refine FCond.tA ?_ | refine FCond.fA ?_) | ((with_reducible refine FCond.i (fun hq => ?_) (fun hq => ?_)) <;> (try simp only [zA, zE, zD, zJ, zB, zI, Int.not_le, Int.not_lt] at hq)) | (with_reducible first | refine Fits.in64 (by omega) ?_ | refine FIdx.nat (by omega) ?_ | refine FIdx.int (by omega) ?_ | refine FTo.nat (by omega) ?_ | refine FTo.int (by omega) ?_) | ((with_reducible refine Need.mk ?_ ?_); focus exact needA) | (with_reducible first | refine FBit.hasT rfl (by assumption) ?_ | refine FBit.hasF rfl (by assumption) ?_ | refine FBit.shrN rfl (by omega) ?_ | refine FBit.half rfl ?_ | refine FBit.shl1 rfl (by omega) ?_ | refine Fits.inU (by omega) ?_ | refine FBit.shrNI rfl (by omega) ?_ | refine FBit.shrIN rfl (by omega) (by omega) ?_ | refine FBit.shrI rfl (by omega) (by omega) ?_ | refine FBit.shl1I rfl (by omega) ?_) | (with_reducible refine FBit.has rfl (fun hq => ?_) (fun hq => ?_)) | (with_reducible first | refine FBit.and1 rfl ?_ | refine FBit.andN rfl (by omega) (by omega) ?_ | refine FBit.orN rfl (by omega) (by omega) ?_ | refine FBit.andNotN rfl (by omega) (by omega) ?_) | (with_reducible refine FApp.grow ?_) | (refine FCall.pure (c1) ⟨Ln.sameB _ rfl, Ln.sameB _ rfl, True.intro⟩ rfl ?_) | (refine FCall.pure (cA) ⟨Ln.sameB _ rfl, Ln.sameB _ rfl, Ln.sameB _ rfl, True.intro⟩ rfl ?_) | (refine FCall.pure (cB) ⟨Ln.sameB _ rfl, Ln.sameB _ rfl, Ln.sameB _ rfl, True.intro⟩ rfl ?_)))
          all_goals (try (conv => whnf))
          · rw [show isMiss p s m i = true by unfold isMiss; rw [show coveredT p s m = true by assumption, hq]; rfl, if_pos rfl] at hst
            (exact ⟨⟨(s + 1), hlt2, by show _ < _; omega, [0, 1], (by (refine Cut.of (Nat.le_of_ble_eq_true rfl) rfl rfl ?_; repeat (first | exact CutL.done | (refine CutL.turned rfl (by first | exact LnB.rowS | exact LnB.rowE (Nat.le_refl _) (fun k hk o ho => missR_row (by omega)) | exact LnB.A) ?_) | (refine CutL.gone (Nat.lt_of_lt_of_le (Nat.lt_succ_self _) (Nat.le_of_ble_eq_true rfl)) ?_)))), allA⟩⟩)
          · rw [show isMiss p s m i = false by unfold isMiss; rw [hq, Bool.not_true, Bool.and_false], if_neg (by decide), Nat.add_zero] at hst
            (exact ⟨⟨(s + 1), hlt2, by show _ < _; omega, [0, 1], (by (refine Cut.of (Nat.le_of_ble_eq_true rfl) rfl rfl ?_; repeat (first | exact CutL.done | (refine CutL.turned rfl (by first | exact LnB.rowS | exact LnB.rowE (Nat.le_refl _) (fun k hk o ho => missR_same hst k) | exact LnB.A) ?_) | (refine CutL.gone (Nat.lt_of_lt_of_le (Nat.lt_succ_self _) (Nat.le_of_ble_eq_true rfl)) ?_)))), allA⟩⟩)
          · rw [show isMiss p s m i = false by unfold isMiss; rw [hq]; rfl, if_neg (by decide), Nat.add_zero] at hst
            (exact ⟨⟨(s + 1), hlt2, by show _ < _; omega, [0, 1], (by (refine Cut.of (Nat.le_of_ble_eq_true rfl) rfl rfl ?_; repeat (first | exact CutL.done | (refine CutL.turned rfl (by first | exact LnB.rowS | exact LnB.rowE (Nat.le_refl _) (fun k hk o ho => missR_same hst k) | exact LnB.A) ?_) | (refine CutL.gone (Nat.lt_of_lt_of_le (Nat.lt_succ_self _) (Nat.le_of_ble_eq_true rfl)) ?_)))), allA⟩⟩)
      · obtain rfl : s = w.length := by omega
        (repeat' ((try (conv => whnf)); first | (with_reducible first | refine FCond.tA ?_ | refine FCond.fA ?_) | ((with_reducible refine FCond.i (fun hq => ?_) (fun hq => ?_)) <;> (try simp only [zA, zE, zD, zJ, zB, zI, Int.not_le, Int.not_lt] at hq)) | (with_reducible first | refine Fits.in64 (by omega) ?_ | refine FIdx.nat (by omega) ?_ | refine FIdx.int (by omega) ?_ | refine FTo.nat (by omega) ?_ | refine FTo.int (by omega) ?_) | ((with_reducible refine Need.mk ?_ ?_); focus exact needA) | (with_reducible refine FApp.grow ?_)))
        all_goals (try (conv => whnf))
        (exact ⟨⟨(i + 1), hlt, by show _ < _; omega, [0, 1], (by (refine Cut.of (Nat.le_of_ble_eq_true rfl) rfl rfl ?_; repeat (first | exact CutL.done | (refine CutL.turned rfl (by first | exact LnB.rowS | exact LnB.rowE (Nat.le_refl _) (fun k hk o ho => int_eq (missR_next p w i k)) | exact LnB.A) ?_) | (refine CutL.gone (Nat.lt_of_lt_of_le (Nat.lt_succ_self _) (Nat.le_of_ble_eq_true rfl)) ?_)))), allA⟩⟩)
    · obtain rfl : i = p.folk.length := by omega
      (repeat' ((try (conv => whnf)); first | (with_reducible first | refine FCond.tA ?_ | refine FCond.fA ?_) | ((with_reducible refine FCond.i (fun hq => ?_) (fun hq => ?_)) <;> (try simp only [zA, zE, zD, zJ, zB, zI, Int.not_le, Int.not_lt] at hq)) | (with_reducible first | refine Fits.in64 (by omega) ?_ | refine FIdx.nat (by omega) ?_ | refine FIdx.int (by omega) ?_ | refine FTo.nat (by omega) ?_ | refine FTo.int (by omega) ?_) | ((with_reducible refine Need.mk ?_ ?_); focus exact needA) | (with_reducible refine FApp.grow ?_)))
      all_goals (try (conv => whnf))
      rw [hoI]
      exact ⟨⟨.tup 2 (ofL [aInts false false (missL p w), AI 0]), [], [], Cut.nil _, Ln.tupN ⟨⟨True.intro, Ln.pubE (goneB rfl) rfl (Nat.le_refl _) (missL_len p w).symm (fun k hk o ho => int_eq (by rw [missL_get hk, missR_end hk]))⟩, Ln.A⟩, rfl, rfl⟩⟩
  · have hE : missedE p w = ([], checkW p w) := by unfold missedE; rw [if_neg hk]
    rw [hE]
    (repeat' ((try (conv => whnf)); first | (with_reducible first | refine FCond.tA ?_ | refine FCond.fA ?_) | ((with_reducible refine FCond.i (fun hq => ?_) (fun hq => ?_)) <;> (try simp only [zA, zE, zD, zJ, zB, zI, Int.not_le, Int.not_lt] at hq)) | (with_reducible first | refine Fits.in64 (by omega) ?_ | refine FIdx.nat (by omega) ?_ | refine FIdx.int (by omega) ?_ | refine FTo.nat (by omega) ?_ | refine FTo.int (by omega) ?_) | ((with_reducible refine Need.mk ?_ ?_); focus exact needA) | (with_reducible refine FApp.grow ?_) | (refine FCall.pure (cW) ⟨Ln.sameB _ rfl, Ln.sameB _ rfl, True.intro⟩ rfl ?_)))
    all_goals (try (conv => whnf))
    exact ⟨⟨.tup 2 (ofL [outI [], AI (checkW p w)]), [], [], Cut.nil _, Ln.tupN ⟨⟨True.intro, Ln.slz _ _ _ _ _ _ _ (by decide)⟩, Ln.A⟩, rfl, rfl⟩⟩
end Go.Proofs.Ytbhjehpjjbbhbaa

namespace Go.Proofs.Ytbhjehpjjbbhbaa
open Go.RowKit

theorem who_mono {p : Pool} {g g' T : Nat} (h : ∀ i, g.testBit i = true → g'.testBit i = true) : ∀ k, whoTo p g T k ≤ whoTo p g' T k
  | 0 => Nat.le_refl _
  | k + 1 => by
    have ih := who_mono (p := p) (T := T) h k
    rw [whoTo, whoTo]
    cases hb : g.testBit k with
    | false => rw [Bool.false_and, if_neg (by decide)]; omega
    | true => rw [h k hb]; omega
theorem covered_mono {p : Pool} (h : PoolOk p) {s g g' : Nat} (hs : s < p.needs.length) (hg : g < 2 ^ p.folk.length) (hg' : g' < 2 ^ p.folk.length) (hsub : sdiff g g' = 0) (hc : coveredT p s g = true) : coveredT p s g' = true := by
  have h1 := (stands_need h hs (need_nn h hs) hg h.ill.1).1 hc
  refine (stands_need h hs (need_nn h hs) hg' h.ill.1).2 fun T hT hn => ?_
  have := h1 T hT hn
  have := who_mono (p := p) (T := T) (sdiff_z.1 hsub) p.folk.length
  unfold whoT at *
  omega
theorem safe_mono {p : Pool} (h : PoolOk p) {w m : List Int} (kw : WatchOk p w) (km : WatchOk p m) (hsub : ∀ s, s < w.length → sdiff (w.getD s 0).toNat (m.getD s 0).toNat = 0) (hs : safeT p w = true) : safeT p m = true := by
  have l1 := kw.len
  have l2 := km.len
  refine rall_yes fun s hs2 => ?_
  exact covered_mono h (by omega) (kw.el s (by omega)).2.1 (km.el s hs2).2.1 (hsub s (by omega)) (rall_get (p := fun s => coveredT p s (w.getD s 0).toNat) hs (by omega))
/-- A watch with somebody left out in a slot. -/
def lessL (w : List Int) (s i : Nat) : List Int := w.set s (w.getD s 0 - ((2 ^ i : Nat) : Int))
theorem less_len (w : List Int) (s i : Nat) : (lessL w s i).length = w.length := List.length_set
theorem less_get {w : List Int} {s i k : Nat} (hs : s < w.length) : (lessL w s i).getD k 0 = if k = s then w.getD s 0 - ((2 ^ i : Nat) : Int) else w.getD k 0 := by
  unfold lessL
  simp only [List.getD, List.getElem?_set]
  by_cases e : k = s
  · subst e; simp [hs]
  · rw [if_neg (fun h => e h.symm), if_neg e]
theorem bit_sdiff {g i k : Nat} (h : (sdiff g (2 ^ i)).testBit k = true) : g.testBit k = true := by
  rw [testBit_sdiff, Bool.and_eq_true] at h; exact h.1
theorem can_sdiff {p : Pool} {s g i : Nat} (h : canT p s g = true) : canT p s (sdiff g (2 ^ i)) = true := by
  unfold canT at *
  refine rall_yes fun j hj => ?_
  have := rall_get h hj
  cases hb : (sdiff g (2 ^ i)).testBit j with
  | false => rfl
  | true => rw [bit_sdiff hb] at this; exact this
theorem on_mono {w m : List Int} {i : Nat} (h : ∀ s, (w.getD s 0).toNat.testBit i = true → (m.getD s 0).toNat.testBit i = true) : ∀ k, onTo w i k ≤ onTo m i k
  | 0 => Nat.le_refl _
  | k + 1 => by
    have ih := on_mono h k
    rw [onTo, onTo]
    cases hb : (w.getD k 0).toNat.testBit i with
    | false => rw [if_neg (by decide)]; omega
    | true => rw [h k hb]; omega
/-- Who is left out in one slot: still a watch; safe if that slot is covered without them. -/
theorem less_ok {p : Pool} (h : PoolOk p) {w : List Int} (k : WatchOk p w) {s i : Nat} (hs : s < w.length) (hi : i < 8) (hb : (w.getD s 0).toNat.testBit i = true) : isWatch p (lessL w s i) = true ∧ ((lessL w s i).getD s 0).toNat = sdiff (w.getD s 0).toNat (2 ^ i) ∧ (safeT p w = true → safeT p (lessL w s i) = coveredT p s (sdiff (w.getD s 0).toNat (2 ^ i))) := by
  have hp8 := pow8 h.n8
  obtain ⟨e1, e2, e3⟩ := k.el s hs
  have hv : ((lessL w s i).getD s 0).toNat = sdiff (w.getD s 0).toNat (2 ^ i) := by
    have := sub_sdiff (g := (w.getD s 0).toNat) (by omega) hi hb
    rw [less_get hs, if_pos rfl]
    omega
  have hnn : 0 ≤ (lessL w s i).getD s 0 := by
    have := sub_sdiff (g := (w.getD s 0).toNat) (by omega) hi hb
    rw [less_get hs, if_pos rfl]
    omega
  have hot : ∀ k, k ≠ s → (lessL w s i).getD k 0 = w.getD k 0 := fun k hk => by rw [less_get hs, if_neg hk]
  refine ⟨?_, hv, fun hsf => ?_⟩
  · unfold isWatch
    rw [Bool.and_eq_true, Bool.and_eq_true]
    refine ⟨⟨decide_eq_true (by rw [less_len, k.len]), rall_yes fun j hj => ?_⟩, rall_yes fun j hj => decide_eq_true ?_⟩
    · unfold canBe
      rw [less_len] at hj
      by_cases e : j = s
      · subst e
        rw [hv, can_sdiff e3, Bool.and_true]
        have := sdiff_pow_lt (i := i) e2
        rw [← hv] at this
        exact decide_eq_true (by omega)
      · rw [hot j e]
        obtain ⟨f1, f2, f3⟩ := k.el j hj
        rw [f3, Bool.and_true]
        exact decide_eq_true (by omega)
    · have h1 := k.on j hj
      have h2 := on_mono (w := lessL w s i) (m := w) (i := j) (fun s' hb' => by
        by_cases e : s' = s
        · subst e; rw [hv] at hb'; exact bit_sdiff hb'
        · rw [hot s' e] at hb'; exact hb') w.length
      rw [less_len]; omega
  · rw [Bool.eq_iff_iff]
    constructor
    · intro hx
      have := rall_get (p := fun j => coveredT p j ((lessL w s i).getD j 0).toNat) hx (show s < (lessL w s i).length by rw [less_len]; exact hs)
      rwa [hv] at this
    · intro hx
      refine rall_yes fun j hj => ?_
      rw [less_len] at hj
      by_cases e : j = s
      · subst e; rw [hv]; exact hx
      · rw [hot j e]; exact rall_get (p := fun s => coveredT p s (w.getD s 0).toNat) hsf hj
end Go.Proofs.Ytbhjehpjjbbhbaa
