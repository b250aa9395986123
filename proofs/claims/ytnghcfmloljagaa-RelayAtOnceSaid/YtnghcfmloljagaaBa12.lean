/- Relay: the statement RelayEasier. / Relay: With of the reference; one more emergency, in plain terms. / Relay: the statement RelayAtOnce. -/
import Derived.Test.YtnghcfmloljagaaBa11
import Derived.Test.YtnghcfmloljagaaBa10
set_option linter.unusedSimpArgs false
set_option linter.unusedVariables false
namespace Go.Proofs.Ytnghcfmloljagaa
open Go.RowKit

/-- A studio in which all that could be done can still be done. -/
structure Easier (s s' : Std) : Prop where
  times : s'.times = s.times
  rg : s'.rg = s.rg
  n : s.n ≤ s'.n
  can : ∀ i t c, i < s.n → canA s i (t : Nat) c = true → canA s' i (t : Nat) c = true
theorem easier_isM {s s' : Std} (h : Easier s s') {D D' : Nat × Nat → Prop} (hD : ∀ p, D p → p.1 < s.n ∧ D' p) {S : Nat} {a : Asg} (ha : IsM s D S a) : IsM s' D' S a := by
  have hC : s'.C = s.C := by unfold Std.C; rw [h.rg]
  refine ⟨fun c => by rw [hC]; exact ha.dom c, fun c p hp => ?_, ha.inj⟩
  obtain ⟨h1, h2⟩ := ha.can c p hp
  exact ⟨(hD p h1).2, h.can _ _ _ (hD p h1).1 h2⟩
theorem easier_best {s s' : Std} (h : Easier s s') : (bestW s).lt (bestW s') = false := by
  obtain ⟨⟨S, h1⟩, h2, _⟩ := best_ok s
  have hR : ∀ c, s'.R c = s.R c := fun c => by unfold Std.R; rw [h.rg]
  have hC : s'.C = s.C := by unfold Std.C; rw [h.rg]
  have hT : s'.T = s.T := by unfold Std.T; rw [h.times]
  have hM := easier_isM h (D := AllD s) (D' := AllD s') (fun p hp => ⟨hp.1, Nat.lt_of_lt_of_le hp.1 h.n, hT ▸ hp.2⟩) h1
  have h3 := (best_ok s').2.2 _ _ hM
  have e : total s' (bestA s) = total s (bestA s) := by
    unfold total
    rw [hC]
    refine sumW_congr fun c _ => ?_
    rw [hR, h.times]
  rw [e, h2] at h3
  exact h3
theorem easier_most {s s' : Std} (h : Easier s s') (t : Nat) (u : Bool) : mostN s t u ≤ mostN s' t u := by
  obtain ⟨S, a, h1, h2⟩ := (mostN_is s t u).is
  have hC : s'.C = s.C := by unfold Std.C; rw [h.rg]
  have hM := easier_isM h (D := upT s t) (D' := upT s' t) (fun p hp => ⟨hp.1, Nat.lt_of_lt_of_le hp.1 h.n, hp.2⟩) h1
  rw [← h2]
  refine Nat.le_trans (Nat.le_of_eq ?_) ((mostN_is s' t u).le S a hM)
  unfold cntM
  rw [hC]
  refine cntB_congr fun c _ => ?_
  unfold counts Std.R
  rw [h.rg]
theorem easier_trans {a b c : Std} (h : Easier a b) (k : Easier b c) : Easier a c :=
  ⟨k.times.trans h.times, k.rg.trans h.rg, Nat.le_trans h.n k.n, fun i t r hi hc => k.can i t r (Nat.lt_of_lt_of_le hi h.n) (h.can i t r hi hc)⟩
def addG (s : Std) (m : Sgn) : Std := { s with sg := s.sg ++ [m] }
theorem addG_S {s : Std} {m : Sgn} {i : Nat} (hi : i < s.n) : (addG s m).S i = s.S i := by
  have hi' : i < s.sg.length := hi
  unfold Std.S addG
  simp [List.getD, List.getElem?_append_left hi']
theorem addG_easier (s : Std) (m : Sgn) : Easier s (addG s m) := by
  refine ⟨rfl, rfl, ?_, fun i t c hi hc => ?_⟩
  · show s.sg.length ≤ (s.sg ++ [m]).length
    simp
  · unfold canA at hc ⊢
    rw [addG_S hi]; exact hc
def easeG (times : Int) (g : Sgn) (T B L : Int) : Sgn := ⟨((g.tongues.toNat ||| T.toNat : Nat) : Int), max 0 (g.from_ - B), min times (g.until_ + L)⟩
def easeS (s : Std) (i T B L : Int) : Std := if 0 ≤ i ∧ i < s.n then { s with sg := s.sg.set i.toNat (easeG s.times (s.S i.toNat) T B L) } else s
theorem easeS_in {s : Std} {i T B L : Int} (h : 0 ≤ i ∧ i < s.n) : easeS s i T B L = { s with sg := s.sg.set i.toNat (easeG s.times (s.S i.toNat) T B L) } := if_pos h
theorem easeS_out {s : Std} {i T B L : Int} (h : ¬ (0 ≤ i ∧ i < s.n)) : easeS s i T B L = s := if_neg h
theorem easeS_ok {s : Std} {i T B L : Int} (h : s.ok = true) (hT : 0 ≤ T ∧ T ≤ 31) (hB : 0 ≤ B) (hL : 0 ≤ L) : (easeS s i T B L).ok = true := by
  by_cases hi : 0 ≤ i ∧ i < s.n
  · rw [easeS_in hi]
    have hs := (std_d h).sg i.toNat (by omega)
    unfold Std.ok Std.head at h ⊢
    simp only [Bool.and_eq_true, decide_eq_true_eq, List.all_eq_true] at h ⊢
    obtain ⟨⟨⟨⟨a, b⟩, c⟩, d⟩, e⟩ := h
    refine ⟨⟨⟨⟨a, ?_⟩, c⟩, fun x hx => ?_⟩, e⟩
    · rw [List.length_set]; exact b
    · rcases List.mem_or_eq_of_mem_set hx with hx | hx
      · exact d x hx
      · subst hx
        have hor : (s.S i.toNat).tongues.toNat ||| T.toNat < 2 ^ 5 := Nat.or_lt_two_pow (by omega) (by omega)
        unfold Sgn.ok easeG
        simp only [inB, Bool.and_eq_true, decide_eq_true_eq]
        omega
  · rw [easeS_out hi]; exact h
theorem easeS_easier {s : Std} (hs : StdOk s) {i T B L : Int} (hB : 0 ≤ B) (hL : 0 ≤ L) : Easier s (easeS s i T B L) := by
  by_cases hi : 0 ≤ i ∧ i < s.n
  · rw [easeS_in hi]
    refine ⟨rfl, rfl, ?_, fun k t c hk hc => ?_⟩
    · show s.sg.length ≤ (s.sg.set _ _).length
      rw [List.length_set]; exact Nat.le_refl _
    · have hk' : k < s.sg.length := hk
      by_cases e : k = i.toNat
      · have eS : Std.S { s with sg := s.sg.set i.toNat (easeG s.times (s.S i.toNat) T B L) } k = easeG s.times (s.S k) T B L := by
          subst e
          unfold Std.S
          simp [List.getD, hk']
        have hd := canA_d hc
        have hg := hs.sg k hk
        unfold canA at hc ⊢
        rw [eS]
        simp only [Bool.and_eq_true, decide_eq_true_eq] at hc ⊢
        refine ⟨⟨⟨?_, ?_⟩, hc.1.2⟩, ?_⟩
        · unfold easeG; simp only; omega
        · unfold easeG; simp only; omega
        · unfold easeG
          simp only [Int.toNat_natCast, Nat.testBit_or]
          rw [Bool.or_eq_true]
          exact .inl hc.2
      · have eS : Std.S { s with sg := s.sg.set i.toNat (easeG s.times (s.S i.toNat) T B L) } k = s.S k := by
          unfold Std.S
          simp only [List.getD]
          rw [List.getElem?_set_ne (fun h => e h.symm)]
        unfold canA at hc ⊢
        rw [eS]; exact hc
  · rw [easeS_out hi]
    exact ⟨rfl, rfl, Nat.le_refl _, fun _ _ _ _ h => h⟩
theorem easeS_times (s : Std) (i T B L : Int) : (easeS s i T B L).times = s.times := by unfold easeS; split <;> rfl
theorem easeS_rg (s : Std) (i T B L : Int) : (easeS s i T B L).rg = s.rg := by unfold easeS; split <;> rfl
theorem easeS_n (s : Std) (i T B L : Int) : (easeS s i T B L).sg.length = s.sg.length := by
  unfold easeS
  split
  · exact List.length_set
  · rfl
theorem sg_snoc {l : List Sgn} {m : Sgn} {k : Nat} (hk : k < l.length + 1) : (l ++ [m]).getD k sg0 = if k < l.length then l.getD k sg0 else m := by
  by_cases h : k < l.length
  · rw [if_pos h]; simp [List.getD, List.getElem?_append_left h]
  · rw [if_neg h]
    obtain rfl : k = l.length := by omega
    simp [List.getD]
theorem addG_row {l : List Sgn} {m : Sgn} {n : Nat} {c : Nat → Nat → AV} {z : Nat → Nat → AV} (hn : n = l.length) (hc : ∀ k, k < n → ∀ o, o < 3 → c k o = cSgn (l.getD k sg0) o) : ∀ k, k < n + 1 → ∀ o, o < 3 → cSgn ((l ++ [m]).getD k sg0) o = appc n c (bslC z [(0, aSgn m)]) k o := fun k hk o ho => by
  subst hn
  simp only [appc]
  rw [sg_snoc hk]
  by_cases h : k < l.length
  · rw [if_pos h, if_pos h, hc k h o ho]
  · rw [if_neg h, if_neg h, show k - l.length = 0 by omega]; rfl
theorem ease_row {s : Std} {i T B L : Int} (hi : 0 ≤ i ∧ i < s.n) {v : AV} (hv : ∀ o, o < 3 → elemC v o = cSgn (easeG s.times (s.S i.toNat) T B L) o) : ∀ k, k < s.sg.length → ∀ o, o < 3 → updRm (fun k => cSgn (s.sg.getD k sg0)) i.toNat (elemC v) k o = cSgn ((easeS s i T B L).sg.getD k sg0) o := fun k hk o ho => by
  rw [easeS_in hi]
  simp only [updRm]
  by_cases e : k = i.toNat
  · rw [if_pos e, hv o ho]
    have : (s.sg.set i.toNat (easeG s.times (s.S i.toNat) T B L)).getD k sg0 = easeG s.times (s.S i.toNat) T B L := by
      subst e; simp [List.getD, hk]
    rw [this]
  · rw [if_neg e]
    have : (s.sg.set i.toNat (easeG s.times (s.S i.toNat) T B L)).getD k sg0 = s.sg.getD k sg0 := by
      simp only [List.getD]
      rw [List.getElem?_set_ne (fun h => e h.symm)]
    rw [this]
set_option maxHeartbeats 8000000
set_option maxRecDepth 100000
/-- A copy whose signers are the caller's own. -/
theorem copyG_ok (f : StF) (s : Std) (hn : NearS s) (ha : 0 < s.sg.length) : ACall Try.prog 15 [aStd f s] [] (fun v h => v = .agg 3 (ofL [AI s.times, .own 0 s.sg.length, aRngs false (decide (s.rg.length = 0)) s.rg]) ∧ h = [rowG s.sg.length s.sg]) := by
  have h1 := hn.n
  have h2 := hn.c
  rcases Nat.eq_zero_or_pos s.rg.length with hb | hb
  · refine ACall.wk (ACall.mono' _ ?_ (copy_a0 f s ⟨ha, h1⟩ hb))
    rintro _ _ ⟨rfl, rfl⟩
    exact ⟨_, [rowG s.sg.length s.sg], [0], Cut.A, Ln.aggN ⟨⟨⟨True.intro, Ln.A⟩, Ln.A⟩, Ln.slZ hb⟩, rfl, rfl⟩
  · refine ACall.wk (ACall.mono' _ ?_ (copy_ab f s ⟨ha, h1⟩ ⟨hb, h2⟩))
    rintro _ _ ⟨rfl, rfl⟩
    exact ⟨_, [rowG s.sg.length s.sg], [0], Cut.A, Ln.aggN ⟨⟨⟨True.intro, Ln.A⟩, Ln.A⟩, Ln.pubD hb (goneB rfl) rfl (Nat.le_refl _) rfl (fun _ _ _ _ => rfl)⟩, rfl, rfl⟩
theorem Ln.slE {σ : Nat → Nat → Prop} {Bp : Nat → Prop} {H : List AB} {z e : Bool} {n n' sz : Nat} {c c' : Nat → Nat → AV} (hn : n = n') (hc : ∀ k, k < n → ∀ o, o < sz → c' k o = c k o) : Ln σ Bp H (.sl z e n sz c) (.sl z e n' sz c') := hn ▸ Ln.sl _ _ _ _ _ _ _ (fun h => h) hc
theorem easier_any (f : StF) (s : Std) (hM : Mach s) (sg T B L : Int) (m : Sgn) (time : Int) (u : Bool) : ACall Try.prog 4 [aStd f s, .agg 7 (ofL [AI sg, AI T, AI B, AI L, AI m.tongues, AI m.from_, AI m.until_]), .agg 2 (ofL [AI time, .bool u])] [] (fun v h => v = .bool true ∧ h = []) := by
  have cV := valid_ok f s hM.n hM.c
  (refine fcall_of mixed Try.func4 rfl (by decide) (hs := { pub := [11, 13] }) ?k (ac := ?ac) ?c (rs := ?rs) ?r ?l ?H; (case k => kernel_rfl); (case c => (conv => (lhs; cbv))); (case r => (conv => (lhs; cbv))); (case l => exact Nat.le_of_ble_eq_true rfl))
  cases hv : validS s
  · rw [hv] at cV
    (repeat' ((try (conv => whnf)); first | (with_reducible first | refine FCond.tA ?_ | refine FCond.fA ?_) | ((with_reducible refine FCond.i (fun hq => ?_) (fun hq => ?_)) <;> (try simp only [zA, zE, zD, zJ, zB, zI, Int.not_le, Int.not_lt] at hq)) | (with_reducible first | refine Fits.in64 (by omega) ?_ | refine FIdx.nat (by omega) ?_ | refine FIdx.int (by omega) ?_ | refine FTo.nat (by omega) ?_ | refine FTo.int (by omega) ?_) | ((with_reducible refine Need.mk ?_ ?_); focus exact needA) | (with_reducible refine FApp.grow ?_) | (refine FCall.pure (cV) ⟨Ln.sameB _ rfl, True.intro⟩ rfl ?_) | (refine FCall.pure works_ok True.intro rfl ?_) | (with_reducible refine FOr.pub ?_)))
    all_goals (try (conv => whnf))
    all_goals ((refine ⟨⟨_, [], [], Cut.nil _, Ln.sameB _ rfl, ?_, rfl⟩⟩); rfl)
  · rw [hv] at cV
    obtain ⟨hf, hk⟩ := valid_d hv
    have hn := near_of hf
    have hs := std_d hk
    have tt := hs.t
    have t8 := hs.t8
    have n1 : 1 ≤ s.sg.length := hs.n1
    have n4 : s.sg.length ≤ 4 := hs.n4
    have hnl : s.n = s.sg.length := rfl
    have c1 := checkTime_ok f s hn time
    rw [show checkT s time = if 0 ≤ time ∧ time < s.times then 0 else 1 by unfold checkT; rw [if_pos hk]] at c1
    by_cases ht : 0 ≤ time ∧ time < s.times
    · rw [if_pos ht] at c1
      by_cases hall : (0 ≤ T ∧ T ≤ 31) ∧ (0 ≤ B ∧ B ≤ 8) ∧ 0 ≤ L ∧ L ≤ 8
      · obtain ⟨t, rfl⟩ : ∃ t : Nat, time = t := ⟨time.toNat, by omega⟩
        have hke := easeS_ok (i := sg) hk hall.1 hall.2.1.1 hall.2.2.1
        have he := easeS_easier hs (i := sg) (T := T) hall.2.1.1 hall.2.2.1
        have hEl := easeS_n s sg T B L
        have hEr := easeS_rg s sg T B L
        have hEt := easeS_times s sg T B L
        obtain ⟨E, hE⟩ : ∃ E, E = easeS s sg T B L := ⟨_, rfl⟩
        have hrow := @ease_row s sg T B L
        rw [← hE] at hke he hEl hEr hEt hrow
        have hnE : NearS E := ⟨by rw [hEl]; exact hn.n, by rw [hEr]; exact hn.c⟩
        have hnA : NearS (addG E m) := ⟨by show (E.sg ++ [m]).length ≤ 1000; rw [List.length_append, List.length_singleton, hEl]; omega, by show E.rg.length ≤ 1000; rw [hEr]; exact hn.c⟩
        by_cases hin : 0 ≤ sg ∧ sg < s.n
        · have hgi := hs.sg sg.toNat (by omega)
          unfold Std.S at hgi
          (repeat' ((try (conv => whnf)); first | (with_reducible first | refine FCond.tA ?_ | refine FCond.fA ?_) | ((with_reducible refine FCond.i (fun hq => ?_) (fun hq => ?_)) <;> (try simp only [zA, zE, zD, zJ, zB, zI, Int.not_le, Int.not_lt] at hq)) | (with_reducible first | refine Fits.in64 (by omega) ?_ | refine FIdx.nat (by omega) ?_ | refine FIdx.int (by omega) ?_ | refine FTo.nat (by omega) ?_ | refine FTo.int (by omega) ?_) | ((with_reducible refine Need.mk ?_ ?_); focus exact needA) | (with_reducible refine FApp.grow ?_) | (refine FCall.pure (cV) ⟨Ln.sameB _ rfl, True.intro⟩ rfl ?_) | (refine FCall.pure (c1) ⟨Ln.sameB _ rfl, Ln.sameB _ rfl, True.intro⟩ rfl ?_) | ((refine FCall.give [] [] (copyG_ok f s hn n1) rfl rfl True.intro ⟨Ln.A, True.intro⟩ ?_); rintro _ _ ⟨rfl, rfl⟩; (refine ⟨by first | exact Nat.le_of_ble_eq_true rfl | omega, .inl rfl, ?_⟩)) | (refine FBit.orI rfl (a := (s.sg.getD sg.toNat sg0).tongues.toNat) (b := T.toNat) (by omega) (by omega) (by omega) (by omega) ?_) | (with_reducible refine FOr.pub ?_)))
          all_goals (try (conv => whnf))
          refine FWk.of [(3, .ptr 0 0), (5, .ptr 1 0), (7, .ptr 2 0)] [.box 3 (cStd f s), .box 2 (ofL [AI t, .bool u]), .box 3 (cStd ⟨false, false, false, decide (s.rg.length = 0)⟩ (addG E m))] [0, 2, 4] (Cut.of (Nat.le_of_ble_eq_true rfl) rfl rfl (CutL.turned rfl LnB.A (CutL.turned rfl LnB.A (CutL.turned rfl (LnB.boxN ⟨⟨⟨True.intro, Ln.int hEt.symm⟩, Ln.pubE (goneB rfl) rfl (Nat.le_refl _) (by show _ = (E.sg ++ [m]).length; rw [List.length_append, List.length_singleton, hEl]) (addG_row hEl.symm (fun k hk o ho => hrow hin (fun o ho => by rcases (show o = 0 ∨ o = 1 ∨ o = 2 by omega) with rfl | rfl | rfl <;> rfl) k hk o ho))⟩, by show Ln _ _ _ (aRngs _ _ s.rg) (aRngs _ _ E.rg); rw [hEr]; exact Ln.sameB _ rfl⟩) CutL.done)))) allA ?_
          have cK := refCheck_ok ⟨false, false, false, decide (s.rg.length = 0)⟩ (addG E m) hnA
          by_cases hok : (addG E m).ok = true
          · rw [check_ok' hok] at cK
            (repeat' ((try (conv => whnf)); first | (with_reducible first | refine FCond.tA ?_ | refine FCond.fA ?_) | ((with_reducible refine FCond.i (fun hq => ?_) (fun hq => ?_)) <;> (try simp only [zA, zE, zD, zJ, zB, zI, Int.not_le, Int.not_lt] at hq)) | (with_reducible first | refine Fits.in64 (by omega) ?_ | refine FIdx.nat (by omega) ?_ | refine FIdx.int (by omega) ?_ | refine FTo.nat (by omega) ?_ | refine FTo.int (by omega) ?_) | ((with_reducible refine Need.mk ?_ ?_); focus exact needA) | (with_reducible refine FApp.grow ?_) | (refine FCall.pure (cK) ⟨Ln.sameB _ rfl, True.intro⟩ rfl ?_) | (with_reducible refine FOr.pub ?_)))
            all_goals (try (conv => whnf))
            refine FWk.of [(3, .ptr 0 0), (5, .ptr 1 0), (7, .ptr 2 0)] [.box 3 (cStd f s), .box 2 (ofL [AI t, .bool u]), .box 3 (cStd ⟨false, false, false, decide (s.rg.length = 0)⟩ (addG E m))] [0, 1, 2] Cut.A allA ?_
            have he2 := easier_trans he (addG_easier E m)
            have cP := plan_yes f s hn hk
            have cQ := plan_yes ⟨false, false, false, decide (s.rg.length = 0)⟩ (addG E m) hnA hok
            have hT2 : t < Std.T (addG E m) := by
              have : Std.T (addG E m) = s.T := by unfold Std.T; rw [Easier.times he2]
              omega
            have cX := most_yes f s hn hk t (by omega) u
            have cY := most_yes ⟨false, false, false, decide (s.rg.length = 0)⟩ (addG E m) hnA hok t hT2 u
            have cM := isMore_ok (bestW (addG E m)).u (bestW (addG E m)).o (bestW s).u (bestW s).o
            rw [show (Wt.mk (bestW s).u (bestW s).o).lt ⟨(bestW (addG E m)).u, (bestW (addG E m)).o⟩ = false from easier_best he2] at cM
            have hmost := easier_most he2 t u
            (repeat' ((try (conv => whnf)); first | (with_reducible first | refine FCond.tA ?_ | refine FCond.fA ?_) | ((with_reducible refine FCond.i (fun hq => ?_) (fun hq => ?_)) <;> (try simp only [zA, zE, zD, zJ, zB, zI, Int.not_le, Int.not_lt] at hq)) | (with_reducible first | refine Fits.in64 (by omega) ?_ | refine FIdx.nat (by omega) ?_ | refine FIdx.int (by omega) ?_ | refine FTo.nat (by omega) ?_ | refine FTo.int (by omega) ?_) | ((with_reducible refine Need.mk ?_ ?_); focus exact needA) | (with_reducible refine FApp.grow ?_) | (refine FCall.pure (cP) ⟨Ln.sameB _ rfl, True.intro⟩ rfl ?_) | (refine FCall.pure (cQ) ⟨Ln.sameB _ rfl, True.intro⟩ rfl ?_) | (refine FCall.pure (cX) ⟨Ln.sameB _ rfl, Ln.sameB _ rfl, Ln.sameB _ rfl, True.intro⟩ rfl ?_) | (refine FCall.pure (cY) ⟨Ln.sameB _ rfl, Ln.sameB _ rfl, Ln.sameB _ rfl, True.intro⟩ rfl ?_) | (refine FCall.pure (cM) ⟨Ln.sameB _ rfl, Ln.sameB _ rfl, Ln.sameB _ rfl, Ln.sameB _ rfl, True.intro⟩ rfl ?_) | (refine FCall.pure works_ok True.intro rfl ?_) | (with_reducible refine FOr.pub ?_)))
            all_goals (try (conv => whnf))
            all_goals ((refine ⟨⟨_, [], [], Cut.nil _, Ln.sameB _ rfl, ?_, rfl⟩⟩); rfl)

          · rw [check_60 (by simpa using hok)] at cK
            have hl : (addG E m).sg.length = E.sg.length + 1 := (by show (E.sg ++ [m]).length = _; simp)
            (repeat' ((try (conv => whnf)); first | (with_reducible first | refine FCond.tA ?_ | refine FCond.fA ?_) | ((with_reducible refine FCond.i (fun hq => ?_) (fun hq => ?_)) <;> (try simp only [zA, zE, zD, zJ, zB, zI, Int.not_le, Int.not_lt] at hq)) | (with_reducible first | refine Fits.in64 (by omega) ?_ | refine FIdx.nat (by omega) ?_ | refine FIdx.int (by omega) ?_ | refine FTo.nat (by omega) ?_ | refine FTo.int (by omega) ?_) | ((with_reducible refine Need.mk ?_ ?_); focus exact needA) | (with_reducible refine FApp.grow ?_) | (refine FCall.pure (cK) ⟨Ln.sameB _ rfl, True.intro⟩ rfl ?_) | (with_reducible refine FOr.pub ?_)))
            all_goals (try (conv => whnf))
            refine FWk.of [(3, .ptr 0 0), (5, .ptr 1 0), (7, .ptr 2 0)] [.box 3 (cStd f s), .box 2 (ofL [AI t, .bool u]), .box 3 (cStd ⟨false, false, false, decide (s.rg.length = 0)⟩ E)] [0, 1, 2] (Cut.of (Nat.le_of_ble_eq_true rfl) rfl rfl (CutL.turned rfl LnB.A (CutL.turned rfl LnB.A (CutL.turned rfl (LnB.boxN ⟨⟨⟨True.intro, Ln.A⟩, Ln.slE (by show _ = E.sg.length; omega) (fun k hk o ho => by
                have hkE : k < E.sg.length := by omega
                show cSgn (E.sg.getD k sg0) o = cSgn ((E.sg ++ [m]).getD k sg0) o
                rw [sg_snoc (by omega), if_pos hkE])⟩, Ln.A⟩) CutL.done)))) allA ?_
            have cP := plan_yes f s hn hk
            have cQ := plan_yes ⟨false, false, false, decide (s.rg.length = 0)⟩ E hnE hke
            have hT2 : t < Std.T E := by
              have : Std.T E = s.T := by unfold Std.T; rw [Easier.times he]
              omega
            have cX := most_yes f s hn hk t (by omega) u
            have cY := most_yes ⟨false, false, false, decide (s.rg.length = 0)⟩ E hnE hke t hT2 u
            have cM := isMore_ok (bestW E).u (bestW E).o (bestW s).u (bestW s).o
            rw [show (Wt.mk (bestW s).u (bestW s).o).lt ⟨(bestW E).u, (bestW E).o⟩ = false from easier_best he] at cM
            have hmost := easier_most he t u
            (repeat' ((try (conv => whnf)); first | (with_reducible first | refine FCond.tA ?_ | refine FCond.fA ?_) | ((with_reducible refine FCond.i (fun hq => ?_) (fun hq => ?_)) <;> (try simp only [zA, zE, zD, zJ, zB, zI, Int.not_le, Int.not_lt] at hq)) | (with_reducible first | refine Fits.in64 (by omega) ?_ | refine FIdx.nat (by omega) ?_ | refine FIdx.int (by omega) ?_ | refine FTo.nat (by omega) ?_ | refine FTo.int (by omega) ?_) | ((with_reducible refine Need.mk ?_ ?_); focus exact needA) | (with_reducible refine FApp.grow ?_) | (refine FCall.pure (cP) ⟨Ln.sameB _ rfl, True.intro⟩ rfl ?_) | (refine FCall.pure (cQ) ⟨Ln.sameB _ rfl, True.intro⟩ rfl ?_) | (refine FCall.pure (cX) ⟨Ln.sameB _ rfl, Ln.sameB _ rfl, Ln.sameB _ rfl, True.intro⟩ rfl ?_) | (refine FCall.pure (cY) ⟨Ln.sameB _ rfl, Ln.sameB _ rfl, Ln.sameB _ rfl, True.intro⟩ rfl ?_) | (refine FCall.pure (cM) ⟨Ln.sameB _ rfl, Ln.sameB _ rfl, Ln.sameB _ rfl, Ln.sameB _ rfl, True.intro⟩ rfl ?_) | (refine FCall.pure works_ok True.intro rfl ?_) | (with_reducible refine FOr.pub ?_)))
            all_goals (try (conv => whnf))
            all_goals ((refine ⟨⟨_, [], [], Cut.nil _, Ln.sameB _ rfl, ?_, rfl⟩⟩); rfl)
        · have hEs : E = s := by rw [hE]; exact easeS_out hin
          by_cases h0 : sg < 0
          · (repeat' ((try (conv => whnf)); first | (with_reducible first | refine FCond.tA ?_ | refine FCond.fA ?_) | ((with_reducible refine FCond.i (fun hq => ?_) (fun hq => ?_)) <;> (try simp only [zA, zE, zD, zJ, zB, zI, Int.not_le, Int.not_lt] at hq)) | (with_reducible first | refine Fits.in64 (by omega) ?_ | refine FIdx.nat (by omega) ?_ | refine FIdx.int (by omega) ?_ | refine FTo.nat (by omega) ?_ | refine FTo.int (by omega) ?_) | ((with_reducible refine Need.mk ?_ ?_); focus exact needA) | (with_reducible refine FApp.grow ?_) | (refine FCall.pure (cV) ⟨Ln.sameB _ rfl, True.intro⟩ rfl ?_) | (refine FCall.pure (c1) ⟨Ln.sameB _ rfl, Ln.sameB _ rfl, True.intro⟩ rfl ?_) | ((refine FCall.give [] [] (copyG_ok f s hn n1) rfl rfl True.intro ⟨Ln.A, True.intro⟩ ?_); rintro _ _ ⟨rfl, rfl⟩; (refine ⟨by first | exact Nat.le_of_ble_eq_true rfl | omega, .inl rfl, ?_⟩)) | (with_reducible refine FOr.pub ?_)))
            all_goals (try (conv => whnf))
            refine FWk.of [(3, .ptr 0 0), (5, .ptr 1 0), (7, .ptr 2 0)] [.box 3 (cStd f s), .box 2 (ofL [AI t, .bool u]), .box 3 (cStd ⟨false, false, false, decide (s.rg.length = 0)⟩ (addG E m))] [0, 2, 4] (Cut.of (Nat.le_of_ble_eq_true rfl) rfl rfl (CutL.turned rfl LnB.A (CutL.turned rfl LnB.A (CutL.turned rfl (LnB.boxN ⟨⟨⟨True.intro, Ln.int hEt.symm⟩, Ln.pubE (goneB rfl) rfl (Nat.le_refl _) (by show _ = (E.sg ++ [m]).length; rw [List.length_append, List.length_singleton, hEl]) (addG_row hEl.symm (fun k hk o ho => by rw [hEs]))⟩, by show Ln _ _ _ (aRngs _ _ s.rg) (aRngs _ _ E.rg); rw [hEr]; exact Ln.sameB _ rfl⟩) CutL.done)))) allA ?_
            have cK := refCheck_ok ⟨false, false, false, decide (s.rg.length = 0)⟩ (addG E m) hnA
            by_cases hok : (addG E m).ok = true
            · rw [check_ok' hok] at cK
              (repeat' ((try (conv => whnf)); first | (with_reducible first | refine FCond.tA ?_ | refine FCond.fA ?_) | ((with_reducible refine FCond.i (fun hq => ?_) (fun hq => ?_)) <;> (try simp only [zA, zE, zD, zJ, zB, zI, Int.not_le, Int.not_lt] at hq)) | (with_reducible first | refine Fits.in64 (by omega) ?_ | refine FIdx.nat (by omega) ?_ | refine FIdx.int (by omega) ?_ | refine FTo.nat (by omega) ?_ | refine FTo.int (by omega) ?_) | ((with_reducible refine Need.mk ?_ ?_); focus exact needA) | (with_reducible refine FApp.grow ?_) | (refine FCall.pure (cK) ⟨Ln.sameB _ rfl, True.intro⟩ rfl ?_) | (with_reducible refine FOr.pub ?_)))
              all_goals (try (conv => whnf))
              refine FWk.of [(3, .ptr 0 0), (5, .ptr 1 0), (7, .ptr 2 0)] [.box 3 (cStd f s), .box 2 (ofL [AI t, .bool u]), .box 3 (cStd ⟨false, false, false, decide (s.rg.length = 0)⟩ (addG E m))] [0, 1, 2] Cut.A allA ?_
              have he2 := easier_trans he (addG_easier E m)
              have cP := plan_yes f s hn hk
              have cQ := plan_yes ⟨false, false, false, decide (s.rg.length = 0)⟩ (addG E m) hnA hok
              have hT2 : t < Std.T (addG E m) := by
                have : Std.T (addG E m) = s.T := by unfold Std.T; rw [Easier.times he2]
                omega
              have cX := most_yes f s hn hk t (by omega) u
              have cY := most_yes ⟨false, false, false, decide (s.rg.length = 0)⟩ (addG E m) hnA hok t hT2 u
              have cM := isMore_ok (bestW (addG E m)).u (bestW (addG E m)).o (bestW s).u (bestW s).o
              rw [show (Wt.mk (bestW s).u (bestW s).o).lt ⟨(bestW (addG E m)).u, (bestW (addG E m)).o⟩ = false from easier_best he2] at cM
              have hmost := easier_most he2 t u
              (repeat' ((try (conv => whnf)); first | (with_reducible first | refine FCond.tA ?_ | refine FCond.fA ?_) | ((with_reducible refine FCond.i (fun hq => ?_) (fun hq => ?_)) <;> (try simp only [zA, zE, zD, zJ, zB, zI, Int.not_le, Int.not_lt] at hq)) | (with_reducible first | refine Fits.in64 (by omega) ?_ | refine FIdx.nat (by omega) ?_ | refine FIdx.int (by omega) ?_ | refine FTo.nat (by omega) ?_ | refine FTo.int (by omega) ?_) | ((with_reducible refine Need.mk ?_ ?_); focus exact needA) | (with_reducible refine FApp.grow ?_) | (refine FCall.pure (cP) ⟨Ln.sameB _ rfl, True.intro⟩ rfl ?_) | (refine FCall.pure (cQ) ⟨Ln.sameB _ rfl, True.intro⟩ rfl ?_) | (refine FCall.pure (cX) ⟨Ln.sameB _ rfl, Ln.sameB _ rfl, Ln.sameB _ rfl, True.intro⟩ rfl ?_) | (refine FCall.pure (cY) ⟨Ln.sameB _ rfl, Ln.sameB _ rfl, Ln.sameB _ rfl, True.intro⟩ rfl ?_) | (refine FCall.pure (cM) ⟨Ln.sameB _ rfl, Ln.sameB _ rfl, Ln.sameB _ rfl, Ln.sameB _ rfl, True.intro⟩ rfl ?_) | (refine FCall.pure works_ok True.intro rfl ?_) | (with_reducible refine FOr.pub ?_)))
              all_goals (try (conv => whnf))
              all_goals ((refine ⟨⟨_, [], [], Cut.nil _, Ln.sameB _ rfl, ?_, rfl⟩⟩); rfl)

            · rw [check_60 (by simpa using hok)] at cK
              have hl : (addG E m).sg.length = E.sg.length + 1 := (by show (E.sg ++ [m]).length = _; simp)
              (repeat' ((try (conv => whnf)); first | (with_reducible first | refine FCond.tA ?_ | refine FCond.fA ?_) | ((with_reducible refine FCond.i (fun hq => ?_) (fun hq => ?_)) <;> (try simp only [zA, zE, zD, zJ, zB, zI, Int.not_le, Int.not_lt] at hq)) | (with_reducible first | refine Fits.in64 (by omega) ?_ | refine FIdx.nat (by omega) ?_ | refine FIdx.int (by omega) ?_ | refine FTo.nat (by omega) ?_ | refine FTo.int (by omega) ?_) | ((with_reducible refine Need.mk ?_ ?_); focus exact needA) | (with_reducible refine FApp.grow ?_) | (refine FCall.pure (cK) ⟨Ln.sameB _ rfl, True.intro⟩ rfl ?_) | (with_reducible refine FOr.pub ?_)))
              all_goals (try (conv => whnf))
              refine FWk.of [(3, .ptr 0 0), (5, .ptr 1 0), (7, .ptr 2 0)] [.box 3 (cStd f s), .box 2 (ofL [AI t, .bool u]), .box 3 (cStd ⟨false, false, false, decide (s.rg.length = 0)⟩ E)] [0, 1, 2] (Cut.of (Nat.le_of_ble_eq_true rfl) rfl rfl (CutL.turned rfl LnB.A (CutL.turned rfl LnB.A (CutL.turned rfl (LnB.boxN ⟨⟨⟨True.intro, Ln.A⟩, Ln.slE (by show _ = E.sg.length; omega) (fun k hk o ho => by
                  have hkE : k < E.sg.length := by omega
                  show cSgn (E.sg.getD k sg0) o = cSgn ((E.sg ++ [m]).getD k sg0) o
                  rw [sg_snoc (by omega), if_pos hkE])⟩, Ln.A⟩) CutL.done)))) allA ?_
              have cP := plan_yes f s hn hk
              have cQ := plan_yes ⟨false, false, false, decide (s.rg.length = 0)⟩ E hnE hke
              have hT2 : t < Std.T E := by
                have : Std.T E = s.T := by unfold Std.T; rw [Easier.times he]
                omega
              have cX := most_yes f s hn hk t (by omega) u
              have cY := most_yes ⟨false, false, false, decide (s.rg.length = 0)⟩ E hnE hke t hT2 u
              have cM := isMore_ok (bestW E).u (bestW E).o (bestW s).u (bestW s).o
              rw [show (Wt.mk (bestW s).u (bestW s).o).lt ⟨(bestW E).u, (bestW E).o⟩ = false from easier_best he] at cM
              have hmost := easier_most he t u
              (repeat' ((try (conv => whnf)); first | (with_reducible first | refine FCond.tA ?_ | refine FCond.fA ?_) | ((with_reducible refine FCond.i (fun hq => ?_) (fun hq => ?_)) <;> (try simp only [zA, zE, zD, zJ, zB, zI, Int.not_le, Int.not_lt] at hq)) | (with_reducible first | refine Fits.in64 (by omega) ?_ | refine FIdx.nat (by omega) ?_ | refine FIdx.int (by omega) ?_ | refine FTo.nat (by omega) ?_ | refine FTo.int (by omega) ?_) | ((with_reducible refine Need.mk ?_ ?_); focus exact needA) | (with_reducible refine FApp.grow ?_) | (refine FCall.pure (cP) ⟨Ln.sameB _ rfl, True.intro⟩ rfl ?_) | (refine FCall.pure (cQ) ⟨Ln.sameB _ rfl, True.intro⟩ rfl ?_) | (refine FCall.pure (cX) ⟨Ln.sameB _ rfl, Ln.sameB _ rfl, Ln.sameB _ rfl, True.intro⟩ rfl ?_) | (refine FCall.pure (cY) ⟨Ln.sameB _ rfl, Ln.sameB _ rfl, Ln.sameB _ rfl, True.intro⟩ rfl ?_) | (refine FCall.pure (cM) ⟨Ln.sameB _ rfl, Ln.sameB _ rfl, Ln.sameB _ rfl, Ln.sameB _ rfl, True.intro⟩ rfl ?_) | (refine FCall.pure works_ok True.intro rfl ?_) | (with_reducible refine FOr.pub ?_)))
              all_goals (try (conv => whnf))
              all_goals ((refine ⟨⟨_, [], [], Cut.nil _, Ln.sameB _ rfl, ?_, rfl⟩⟩); rfl)
          · (repeat' ((try (conv => whnf)); first | (with_reducible first | refine FCond.tA ?_ | refine FCond.fA ?_) | ((with_reducible refine FCond.i (fun hq => ?_) (fun hq => ?_)) <;> (try simp only [zA, zE, zD, zJ, zB, zI, Int.not_le, Int.not_lt] at hq)) | (with_reducible first | refine Fits.in64 (by omega) ?_ | refine FIdx.nat (by omega) ?_ | refine FIdx.int (by omega) ?_ | refine FTo.nat (by omega) ?_ | refine FTo.int (by omega) ?_) | ((with_reducible refine Need.mk ?_ ?_); focus exact needA) | (with_reducible refine FApp.grow ?_) | (refine FCall.pure (cV) ⟨Ln.sameB _ rfl, True.intro⟩ rfl ?_) | (refine FCall.pure (c1) ⟨Ln.sameB _ rfl, Ln.sameB _ rfl, True.intro⟩ rfl ?_) | ((refine FCall.give [] [] (copyG_ok f s hn n1) rfl rfl True.intro ⟨Ln.A, True.intro⟩ ?_); rintro _ _ ⟨rfl, rfl⟩; (refine ⟨by first | exact Nat.le_of_ble_eq_true rfl | omega, .inl rfl, ?_⟩)) | (with_reducible refine FOr.pub ?_)))
            all_goals (try (conv => whnf))
            refine FWk.of [(3, .ptr 0 0), (5, .ptr 1 0), (7, .ptr 2 0)] [.box 3 (cStd f s), .box 2 (ofL [AI t, .bool u]), .box 3 (cStd ⟨false, false, false, decide (s.rg.length = 0)⟩ (addG E m))] [0, 2, 4] (Cut.of (Nat.le_of_ble_eq_true rfl) rfl rfl (CutL.turned rfl LnB.A (CutL.turned rfl LnB.A (CutL.turned rfl (LnB.boxN ⟨⟨⟨True.intro, Ln.int hEt.symm⟩, Ln.pubE (goneB rfl) rfl (Nat.le_refl _) (by show _ = (E.sg ++ [m]).length; rw [List.length_append, List.length_singleton, hEl]) (addG_row hEl.symm (fun k hk o ho => by rw [hEs]))⟩, by show Ln _ _ _ (aRngs _ _ s.rg) (aRngs _ _ E.rg); rw [hEr]; exact Ln.sameB _ rfl⟩) CutL.done)))) allA ?_
            have cK := refCheck_ok ⟨false, false, false, decide (s.rg.length = 0)⟩ (addG E m) hnA
            by_cases hok : (addG E m).ok = true
            · rw [check_ok' hok] at cK
              (repeat' ((try (conv => whnf)); first | (with_reducible first | refine FCond.tA ?_ | refine FCond.fA ?_) | ((with_reducible refine FCond.i (fun hq => ?_) (fun hq => ?_)) <;> (try simp only [zA, zE, zD, zJ, zB, zI, Int.not_le, Int.not_lt] at hq)) | (with_reducible first | refine Fits.in64 (by omega) ?_ | refine FIdx.nat (by omega) ?_ | refine FIdx.int (by omega) ?_ | refine FTo.nat (by omega) ?_ | refine FTo.int (by omega) ?_) | ((with_reducible refine Need.mk ?_ ?_); focus exact needA) | (with_reducible refine FApp.grow ?_) | (refine FCall.pure (cK) ⟨Ln.sameB _ rfl, True.intro⟩ rfl ?_) | (with_reducible refine FOr.pub ?_)))
              all_goals (try (conv => whnf))
              refine FWk.of [(3, .ptr 0 0), (5, .ptr 1 0), (7, .ptr 2 0)] [.box 3 (cStd f s), .box 2 (ofL [AI t, .bool u]), .box 3 (cStd ⟨false, false, false, decide (s.rg.length = 0)⟩ (addG E m))] [0, 1, 2] Cut.A allA ?_
              have he2 := easier_trans he (addG_easier E m)
              have cP := plan_yes f s hn hk
              have cQ := plan_yes ⟨false, false, false, decide (s.rg.length = 0)⟩ (addG E m) hnA hok
              have hT2 : t < Std.T (addG E m) := by
                have : Std.T (addG E m) = s.T := by unfold Std.T; rw [Easier.times he2]
                omega
              have cX := most_yes f s hn hk t (by omega) u
              have cY := most_yes ⟨false, false, false, decide (s.rg.length = 0)⟩ (addG E m) hnA hok t hT2 u
              have cM := isMore_ok (bestW (addG E m)).u (bestW (addG E m)).o (bestW s).u (bestW s).o
              rw [show (Wt.mk (bestW s).u (bestW s).o).lt ⟨(bestW (addG E m)).u, (bestW (addG E m)).o⟩ = false from easier_best he2] at cM
              have hmost := easier_most he2 t u
              (repeat' ((try (conv => whnf)); first | (with_reducible first | refine FCond.tA ?_ | refine FCond.fA ?_) | ((with_reducible refine FCond.i (fun hq => ?_) (fun hq => ?_)) <;> (try simp only [zA, zE, zD, zJ, zB, zI, Int.not_le, Int.not_lt] at hq)) | (with_reducible first | refine Fits.in64 (by omega) ?_ | refine FIdx.nat (by omega) ?_ | refine FIdx.int (by omega) ?_ | refine FTo.nat (by omega) ?_ | refine FTo.int (by omega) ?_) | ((with_reducible refine Need.mk ?_ ?_); focus exact needA) | (with_reducible refine FApp.grow ?_) | (refine FCall.pure (cP) ⟨Ln.sameB _ rfl, True.intro⟩ rfl ?_) | (refine FCall.pure (cQ) ⟨Ln.sameB _ rfl, True.intro⟩ rfl ?_) | (refine FCall.pure (cX) ⟨Ln.sameB _ rfl, Ln.sameB _ rfl, Ln.sameB _ rfl, True.intro⟩ rfl ?_) | (refine FCall.pure (cY) ⟨Ln.sameB _ rfl, Ln.sameB _ rfl, Ln.sameB _ rfl, True.intro⟩ rfl ?_) | (refine FCall.pure (cM) ⟨Ln.sameB _ rfl, Ln.sameB _ rfl, Ln.sameB _ rfl, Ln.sameB _ rfl, True.intro⟩ rfl ?_) | (refine FCall.pure works_ok True.intro rfl ?_) | (with_reducible refine FOr.pub ?_)))
              all_goals (try (conv => whnf))
              all_goals ((refine ⟨⟨_, [], [], Cut.nil _, Ln.sameB _ rfl, ?_, rfl⟩⟩); rfl)

            · rw [check_60 (by simpa using hok)] at cK
              have hl : (addG E m).sg.length = E.sg.length + 1 := (by show (E.sg ++ [m]).length = _; simp)
              (repeat' ((try (conv => whnf)); first | (with_reducible first | refine FCond.tA ?_ | refine FCond.fA ?_) | ((with_reducible refine FCond.i (fun hq => ?_) (fun hq => ?_)) <;> (try simp only [zA, zE, zD, zJ, zB, zI, Int.not_le, Int.not_lt] at hq)) | (with_reducible first | refine Fits.in64 (by omega) ?_ | refine FIdx.nat (by omega) ?_ | refine FIdx.int (by omega) ?_ | refine FTo.nat (by omega) ?_ | refine FTo.int (by omega) ?_) | ((with_reducible refine Need.mk ?_ ?_); focus exact needA) | (with_reducible refine FApp.grow ?_) | (refine FCall.pure (cK) ⟨Ln.sameB _ rfl, True.intro⟩ rfl ?_) | (with_reducible refine FOr.pub ?_)))
              all_goals (try (conv => whnf))
              refine FWk.of [(3, .ptr 0 0), (5, .ptr 1 0), (7, .ptr 2 0)] [.box 3 (cStd f s), .box 2 (ofL [AI t, .bool u]), .box 3 (cStd ⟨false, false, false, decide (s.rg.length = 0)⟩ E)] [0, 1, 2] (Cut.of (Nat.le_of_ble_eq_true rfl) rfl rfl (CutL.turned rfl LnB.A (CutL.turned rfl LnB.A (CutL.turned rfl (LnB.boxN ⟨⟨⟨True.intro, Ln.A⟩, Ln.slE (by show _ = E.sg.length; omega) (fun k hk o ho => by
                  have hkE : k < E.sg.length := by omega
                  show cSgn (E.sg.getD k sg0) o = cSgn ((E.sg ++ [m]).getD k sg0) o
                  rw [sg_snoc (by omega), if_pos hkE])⟩, Ln.A⟩) CutL.done)))) allA ?_
              have cP := plan_yes f s hn hk
              have cQ := plan_yes ⟨false, false, false, decide (s.rg.length = 0)⟩ E hnE hke
              have hT2 : t < Std.T E := by
                have : Std.T E = s.T := by unfold Std.T; rw [Easier.times he]
                omega
              have cX := most_yes f s hn hk t (by omega) u
              have cY := most_yes ⟨false, false, false, decide (s.rg.length = 0)⟩ E hnE hke t hT2 u
              have cM := isMore_ok (bestW E).u (bestW E).o (bestW s).u (bestW s).o
              rw [show (Wt.mk (bestW s).u (bestW s).o).lt ⟨(bestW E).u, (bestW E).o⟩ = false from easier_best he] at cM
              have hmost := easier_most he t u
              (repeat' ((try (conv => whnf)); first | (with_reducible first | refine FCond.tA ?_ | refine FCond.fA ?_) | ((with_reducible refine FCond.i (fun hq => ?_) (fun hq => ?_)) <;> (try simp only [zA, zE, zD, zJ, zB, zI, Int.not_le, Int.not_lt] at hq)) | (with_reducible first | refine Fits.in64 (by omega) ?_ | refine FIdx.nat (by omega) ?_ | refine FIdx.int (by omega) ?_ | refine FTo.nat (by omega) ?_ | refine FTo.int (by omega) ?_) | ((with_reducible refine Need.mk ?_ ?_); focus exact needA) | (with_reducible refine FApp.grow ?_) | (refine FCall.pure (cP) ⟨Ln.sameB _ rfl, True.intro⟩ rfl ?_) | (refine FCall.pure (cQ) ⟨Ln.sameB _ rfl, True.intro⟩ rfl ?_) | (refine FCall.pure (cX) ⟨Ln.sameB _ rfl, Ln.sameB _ rfl, Ln.sameB _ rfl, True.intro⟩ rfl ?_) | (refine FCall.pure (cY) ⟨Ln.sameB _ rfl, Ln.sameB _ rfl, Ln.sameB _ rfl, True.intro⟩ rfl ?_) | (refine FCall.pure (cM) ⟨Ln.sameB _ rfl, Ln.sameB _ rfl, Ln.sameB _ rfl, Ln.sameB _ rfl, True.intro⟩ rfl ?_) | (refine FCall.pure works_ok True.intro rfl ?_) | (with_reducible refine FOr.pub ?_)))
              all_goals (try (conv => whnf))
              all_goals ((refine ⟨⟨_, [], [], Cut.nil _, Ln.sameB _ rfl, ?_, rfl⟩⟩); rfl)
      · (repeat' ((try (conv => whnf)); first | (with_reducible first | refine FCond.tA ?_ | refine FCond.fA ?_) | ((with_reducible refine FCond.i (fun hq => ?_) (fun hq => ?_)) <;> (try simp only [zA, zE, zD, zJ, zB, zI, Int.not_le, Int.not_lt] at hq)) | (with_reducible first | refine Fits.in64 (by omega) ?_ | refine FIdx.nat (by omega) ?_ | refine FIdx.int (by omega) ?_ | refine FTo.nat (by omega) ?_ | refine FTo.int (by omega) ?_) | ((with_reducible refine Need.mk ?_ ?_); focus exact needA) | (with_reducible refine FApp.grow ?_) | (refine FCall.pure (cV) ⟨Ln.sameB _ rfl, True.intro⟩ rfl ?_) | (refine FCall.pure (c1) ⟨Ln.sameB _ rfl, Ln.sameB _ rfl, True.intro⟩ rfl ?_) | (refine FCall.pure works_ok True.intro rfl ?_) | (with_reducible refine FOr.pub ?_)))
        all_goals (try (conv => whnf))
        all_goals first | (exfalso; omega) | ((refine ⟨⟨_, [], [], Cut.nil _, Ln.sameB _ rfl, ?_, rfl⟩⟩); rfl)
    · rw [if_neg ht] at c1
      (repeat' ((try (conv => whnf)); first | (with_reducible first | refine FCond.tA ?_ | refine FCond.fA ?_) | ((with_reducible refine FCond.i (fun hq => ?_) (fun hq => ?_)) <;> (try simp only [zA, zE, zD, zJ, zB, zI, Int.not_le, Int.not_lt] at hq)) | (with_reducible first | refine Fits.in64 (by omega) ?_ | refine FIdx.nat (by omega) ?_ | refine FIdx.int (by omega) ?_ | refine FTo.nat (by omega) ?_ | refine FTo.int (by omega) ?_) | ((with_reducible refine Need.mk ?_ ?_); focus exact needA) | (with_reducible refine FApp.grow ?_) | (refine FCall.pure (cV) ⟨Ln.sameB _ rfl, True.intro⟩ rfl ?_) | (refine FCall.pure (c1) ⟨Ln.sameB _ rfl, Ln.sameB _ rfl, True.intro⟩ rfl ?_) | (refine FCall.pure works_ok True.intro rfl ?_) | (with_reducible refine FOr.pub ?_)))
      all_goals (try (conv => whnf))
      all_goals ((refine ⟨⟨_, [], [], Cut.nil _, Ln.sameB _ rfl, ?_, rfl⟩⟩); rfl)
end Go.Proofs.Ytnghcfmloljagaa

namespace Go.Proofs.Ytnghcfmloljagaa
open Go.RowKit

theorem wr_C (s : Std) (g t : Int) : (wr s g t).C = s.C + 1 := List.length_append
theorem wr_R {s : Std} {g t : Int} {c : Nat} (hc : c < s.C) : (wr s g t).R c = s.R c := by
  unfold Std.R wr
  simp only
  rw [rng_snoc (by have : c < s.rg.length := hc; omega), if_pos (show c < s.rg.length from hc)]
theorem wr_Rn (s : Std) (g t : Int) : (wr s g t).R s.C = ⟨g, t, true⟩ := by
  unfold Std.R wr Std.C
  simp only
  rw [rng_snoc (by omega), if_neg (by omega)]
theorem wr_can {s : Std} {g t : Int} {i c : Nat} {u : Int} (hc : c < s.C) : canA (wr s g t) i u c = canA s i u c := by
  unfold canA
  rw [wr_R hc]
  rfl
/-- The time of an answer, or the end. -/
def atT (s : Std) (x : Option (Nat × Nat)) : Int := match x with | some p => (p.2 : Int) | none => s.times
theorem wr_total {s : Std} {g t : Int} (a : Asg) : total (wr s g t) a = (total s (a.put s.C none)).add ⟨atT s (a s.C) - t, 0⟩ := by
  unfold total
  rw [wr_C]
  simp only [sumW]
  have e1 : sumW (fun c => match a c with | some p => ((wr s g t).R c).w p.2 | none => ((wr s g t).R c).w (wr s g t).times) s.C = sumW (fun c => match a.put s.C none c with | some p => (s.R c).w p.2 | none => (s.R c).w s.times) s.C := by
    refine sumW_congr fun c hc => ?_
    have : a.put s.C none c = a c := by unfold Asg.put; rw [if_neg (by omega)]
    rw [this, wr_R hc]
    rfl
  have e2 : (match a s.C with | some p => ((wr s g t).R s.C).w p.2 | none => ((wr s g t).R s.C).w (wr s g t).times) = ⟨atT s (a s.C) - t, 0⟩ := by
    rw [wr_Rn]
    cases a s.C <;> rfl
  exact congr (congrArg Wt.add e1) e2
theorem wr_isM {s : Std} {g t : Int} {S : Nat} {a : Asg} (h : IsM (wr s g t) (AllD (wr s g t)) S a) : IsM s (AllD s) S (a.put s.C none) := by
  refine ⟨fun c => ?_, fun c p hp => ?_, fun c c' p h1 h2 => ?_⟩
  · unfold Asg.put
    by_cases e : c = s.C
    · rw [if_pos e]; simp [e]
    · rw [if_neg e, h.dom c, wr_C]
      constructor
      · rintro h1 ⟨h2, h3⟩; exact h1 ⟨by omega, h3⟩
      · rintro h1 ⟨h2, h3⟩; exact h1 ⟨by omega, h3⟩
  · unfold Asg.put at hp
    by_cases e : c = s.C
    · rw [if_pos e] at hp; cases hp
    · rw [if_neg e] at hp
      obtain ⟨h1, h2⟩ := h.can c p hp
      have := (isM_some h hp).1
      rw [wr_C] at this
      exact ⟨h1, by rw [← wr_can (g := g) (t := t) (by omega)]; exact h2⟩
  · unfold Asg.put at h1 h2
    by_cases e : c = s.C
    · rw [if_pos e] at h1; cases h1
    · rw [if_neg e] at h1
      by_cases e' : c' = s.C
      · rw [if_pos e'] at h2; cases h2
      · rw [if_neg e'] at h2
        exact h.inj c c' p h1 h2
theorem wr_parts {s : Std} {g t : Int} (ht : t ≤ s.times) : ∃ w : Wt, (bestW s).u ≤ w.u ∧ (bestW (wr s g t)).u = w.u + (atT s (bestA (wr s g t) s.C) - t) ∧ t ≤ atT s (bestA (wr s g t) s.C) := by
  obtain ⟨⟨S, h1⟩, h2, _⟩ := best_ok (wr s g t)
  have h3 := (best_ok s).2.2 _ _ (wr_isM h1)
  refine ⟨total s ((bestA (wr s g t)).put s.C none), ?_, ?_, ?_⟩
  · rw [nlt_iff] at h3; omega
  · rw [← h2, wr_total]; rfl
  · cases e : bestA (wr s g t) s.C with
    | none => exact ht
    | some p =>
      have := (h1.can _ _ e).2
      have := (canA_d this).2.2
      rw [wr_Rn] at this
      exact this
/-- The emergencies wait no less with one more. -/
theorem wr_le {s : Std} {g t : Int} (ht : t ≤ s.times) : (bestW s).u ≤ (bestW (wr s g t)).u := by
  obtain ⟨w, h1, h2, h3⟩ := wr_parts (g := g) ht
  omega
/-- If they wait no longer altogether, the new one is answered at once. -/
theorem wr_at {s : Std} {g t : Int} (ht : t < s.times) (h : (bestW (wr s g t)).u ≤ (bestW s).u) : ((bestL (wr s g t)).getD s.C na).t = t := by
  obtain ⟨w, h1, h2, h3⟩ := wr_parts (g := g) (t := t) (s := s) (by omega)
  unfold bestL
  rw [encL_get (by rw [wr_C]; omega)]
  have e : atT s (bestA (wr s g t) s.C) = t := by omega
  cases hb : bestA (wr s g t) s.C with
  | none => rw [hb] at e; simp only [atT] at e; omega
  | some p => rw [hb] at e; exact e
theorem freeK_mem {s : Std} {g : Int} {t k : Nat} : (t : Int) ∈ freeK s g k ↔ t < k ∧ (bestW (wr s g t)).u ≤ (bestW s).u := by
  unfold freeK
  simp only [List.mem_map, List.mem_filter, List.mem_range, decide_eq_true_eq]
  constructor
  · rintro ⟨a, ⟨h1, h2⟩, h3⟩
    obtain rfl : a = t := by omega
    exact ⟨h1, h2⟩
  · rintro ⟨h1, h2⟩
    exact ⟨t, ⟨h1, h2⟩, rfl⟩
theorem freeK_sorted (s : Std) (g : Int) (k : Nat) : (freeK s g k).Pairwise (· < ·) := by
  unfold freeK
  rw [List.pairwise_map]
  refine (List.Pairwise.filter _ (List.pairwise_lt_range (n := k))).imp ?_
  intro a b h
  omega
theorem freeK_get {s : Std} {g : Int} {k i : Nat} (hi : i < (freeK s g k).length) : 0 ≤ (freeK s g k).getD i 0 ∧ (freeK s g k).getD i 0 < k := by
  have hm : (freeK s g k).getD i 0 ∈ freeK s g k := by simp [List.getD, List.getElem?_eq_getElem hi]
  generalize (freeK s g k).getD i 0 = x at hm
  unfold freeK at hm
  simp only [List.mem_map, List.mem_filter, List.mem_range] at hm
  obtain ⟨a, ⟨h1, _⟩, rfl⟩ := hm
  omega
theorem freeK_lt {s : Std} {g : Int} {k i j : Nat} (hij : i < j) (hj : j < (freeK s g k).length) : (freeK s g k).getD i 0 < (freeK s g k).getD j 0 := by
  have h := List.pairwise_iff_getElem.1 (freeK_sorted s g k) i j (by omega) hj hij
  simp only [List.getD, List.getElem?_eq_getElem hj, List.getElem?_eq_getElem (show i < (freeK s g k).length by omega), Option.getD_some]
  exact h
set_option maxHeartbeats 4000000
set_option maxRecDepth 100000
abbrev f000 : StF := ⟨false, false, false, false⟩
/-- With: one more emergency. -/
theorem with_ok (f : StF) (s : Std) (hn : NearS s) (ha : 0 < s.sg.length) (g t : Int) : ACall Try.prog 22 [aStd f s, AI g, AI t] [] (fun v h => v = aStd f000 (wr s g t) ∧ h = []) := by
  have h1 := hn.n
  have h2 := hn.c
  have hlw : (wr s g t).rg.length = s.rg.length + 1 := List.length_append
  (refine fcall_of mixed Try.func22 rfl (by decide) (hs := {}) ?k (ac := ?ac) ?c (rs := ?rs) ?r ?l ?H; (case k => kernel_rfl); (case c => (conv => (lhs; cbv))); (case r => (conv => (lhs; cbv))); (case l => exact Nat.le_of_ble_eq_true rfl))
  rcases Nat.eq_zero_or_pos s.rg.length with hb | hb
  · have cK := copy_a0 f s ⟨ha, h1⟩ hb
    have e : s.rg = [] := List.eq_nil_of_length_eq_zero hb
    (repeat' ((try (conv => whnf)); first | (with_reducible first | refine FCond.tA ?_ | refine FCond.fA ?_) | ((with_reducible refine FCond.i (fun hq => ?_) (fun hq => ?_)) <;> (try simp only [zA, zE, zD, zJ, zB, zI, Int.not_le, Int.not_lt] at hq)) | (with_reducible first | refine Fits.in64 (by omega) ?_ | refine FIdx.nat (by omega) ?_ | refine FIdx.int (by omega) ?_ | refine FTo.nat (by omega) ?_ | refine FTo.int (by omega) ?_) | ((with_reducible refine Need.mk ?_ ?_); focus exact needA) | (with_reducible refine FApp.grow ?_) | ((refine FCall.give [] [] (cK) rfl rfl True.intro ⟨Ln.A, True.intro⟩ ?_); rintro _ _ ⟨rfl, rfl⟩; (refine ⟨by first | exact Nat.le_of_ble_eq_true rfl | omega, .inl rfl, ?_⟩)) | (refine Need.mk ⟨Or.inr rfl, by unfold maxLen; simp, by simp⟩ ?_) | (with_reducible refine FOr.pub ?_)))
    all_goals (try (conv => whnf))
    exact ⟨⟨aStd f000 (wr s g t), [], [], Cut.nil _, Ln.aggN ⟨⟨⟨True.intro, Ln.A⟩, Ln.pubE (goneB rfl) rfl (Nat.le_refl _) rfl (fun _ _ _ _ => rfl)⟩, Ln.pubE (goneB rfl) rfl (Nat.le_refl _) (show _ = (s.rg ++ [(⟨g, t, true⟩ : Rng)]).length by rw [e]; rfl) (by
      show ∀ k, k < _ → ∀ o, o < 3 → cRng ((s.rg ++ [(⟨g, t, true⟩ : Rng)]).getD k rg0) o = _
      rw [e]
      exact wr_row (l := []) fun _ _ _ _ => rfl)⟩, rfl, rfl⟩⟩
  · have cK := copy_ab f s ⟨ha, h1⟩ ⟨hb, h2⟩
    (repeat' ((try (conv => whnf)); first | (with_reducible first | refine FCond.tA ?_ | refine FCond.fA ?_) | ((with_reducible refine FCond.i (fun hq => ?_) (fun hq => ?_)) <;> (try simp only [zA, zE, zD, zJ, zB, zI, Int.not_le, Int.not_lt] at hq)) | (with_reducible first | refine Fits.in64 (by omega) ?_ | refine FIdx.nat (by omega) ?_ | refine FIdx.int (by omega) ?_ | refine FTo.nat (by omega) ?_ | refine FTo.int (by omega) ?_) | ((with_reducible refine Need.mk ?_ ?_); focus exact needA) | (with_reducible refine FApp.grow ?_) | ((refine FCall.give [] [] (cK) rfl rfl True.intro ⟨Ln.A, True.intro⟩ ?_); rintro _ _ ⟨rfl, rfl⟩; (refine ⟨by first | exact Nat.le_of_ble_eq_true rfl | omega, .inl rfl, ?_⟩)) | (with_reducible refine FOr.pub ?_)))
    all_goals (try (conv => whnf))
    exact ⟨⟨aStd f000 (wr s g t), [], [], Cut.nil _, Ln.aggN ⟨⟨⟨True.intro, Ln.A⟩, Ln.pubE (goneB rfl) rfl (Nat.le_refl _) rfl (fun _ _ _ _ => rfl)⟩, Ln.pubE (goneB rfl) rfl (Nat.le_refl _) hlw.symm (wr_row fun _ _ _ _ => rfl)⟩, rfl, rfl⟩⟩
end Go.Proofs.Ytnghcfmloljagaa

namespace Go.Proofs.Ytnghcfmloljagaa
open Go.RowKit

theorem take_mem {l : List Int} {t : Int} {i : Nat} (hi : i < l.length) : (t ∈ l.take (i + 1)) ↔ (t ∈ l.take i ∨ l.getD i 0 = t) := by
  rw [List.take_succ_eq_append_getElem hi, List.mem_append, List.mem_singleton]
  simp only [List.getD, List.getElem?_eq_getElem hi, Option.getD_some]
  rw [eq_comm]
set_option maxHeartbeats 8000000
set_option maxRecDepth 100000
theorem free_sl (f : StF) (s : Std) (hn : NearS s) (hc : s.C ≤ 11) (hk : s.ok = true) (g : Int) (hg : 0 ≤ g ∧ g ≤ 4) : ACall Try.prog 21 [aStd f s, AI g] [] (fun r h => r = .tup 2 (ofL [aInts (freeK s g s.T).isEmpty (freeK s g s.T).isEmpty (freeK s g s.T), AI 0]) ∧ h = []) := by
  have h := free_ok f s hn (fun _ => hc) g
  have e : freeE s g = (freeK s g s.T, 0) := by unfold freeE; rw [if_pos hk, if_pos hg]
  rw [e] at h
  refine ACall.wk (ACall.mono' _ ?_ h)
  rintro _ _ ⟨rfl, rfl⟩
  exact ⟨_, [], [], Cut.nil _, Ln.tupN ⟨⟨True.intro, Ln.out _⟩, Ln.A⟩, rfl, rfl⟩
theorem atonce_any (f : StF) (s : Std) (hM : Mach s) (g t : Int) : ACall Try.prog 5 [aStd f s, AI g, AI t] [] (fun v h => v = .bool true ∧ h = []) := by
  have cV := valid_ok f s hM.n hM.c
  (refine fcall_of mixed Try.func5 rfl (by decide) (hs := {}) ?k (ac := ?ac) ?c (rs := ?rs) ?r ?l ?H; (case k => kernel_rfl); (case c => (conv => (lhs; cbv))); (case r => (conv => (lhs; cbv))); (case l => exact Nat.le_of_ble_eq_true rfl))
  cases hv : validS s
  · rw [hv] at cV
    (repeat' ((try (conv => whnf)); first | (with_reducible first | refine FCond.tA ?_ | refine FCond.fA ?_) | ((with_reducible refine FCond.i (fun hq => ?_) (fun hq => ?_)) <;> (try simp only [zA, zE, zD, zJ, zB, zI, Int.not_le, Int.not_lt] at hq)) | (with_reducible first | refine Fits.in64 (by omega) ?_ | refine FIdx.nat (by omega) ?_ | refine FIdx.int (by omega) ?_ | refine FTo.nat (by omega) ?_ | refine FTo.int (by omega) ?_) | ((with_reducible refine Need.mk ?_ ?_); focus exact needA) | (with_reducible refine FApp.grow ?_) | (refine FCall.pure (cV) ⟨Ln.sameB _ rfl, True.intro⟩ rfl ?_) | (refine FCall.pure works_ok True.intro rfl ?_) | (with_reducible refine FOr.pub ?_)))
    all_goals (try (conv => whnf))
    all_goals ((refine ⟨⟨_, [], [], Cut.nil _, Ln.sameB _ rfl, ?_, rfl⟩⟩); rfl)
  · rw [hv] at cV
    obtain ⟨hf, hk⟩ := valid_d hv
    have hn := near_of hf
    have hs := std_d hk
    have cT := checkTime_ok f s hn t
    have tt := hs.t
    have t8 := hs.t8
    by_cases h5 : 5 < s.rg.length
    · (repeat' ((try (conv => whnf)); first | (with_reducible first | refine FCond.tA ?_ | refine FCond.fA ?_) | ((with_reducible refine FCond.i (fun hq => ?_) (fun hq => ?_)) <;> (try simp only [zA, zE, zD, zJ, zB, zI, Int.not_le, Int.not_lt] at hq)) | (with_reducible first | refine Fits.in64 (by omega) ?_ | refine FIdx.nat (by omega) ?_ | refine FIdx.int (by omega) ?_ | refine FTo.nat (by omega) ?_ | refine FTo.int (by omega) ?_) | ((with_reducible refine Need.mk ?_ ?_); focus exact needA) | (with_reducible refine FApp.grow ?_) | (refine FCall.pure (cV) ⟨Ln.sameB _ rfl, True.intro⟩ rfl ?_) | (refine FCall.pure works_ok True.intro rfl ?_) | (with_reducible refine FOr.pub ?_)))
      all_goals (try (conv => whnf))
      all_goals ((refine ⟨⟨_, [], [], Cut.nil _, Ln.sameB _ rfl, ?_, rfl⟩⟩); rfl)
    by_cases hg0 : g < 0
    · (repeat' ((try (conv => whnf)); first | (with_reducible first | refine FCond.tA ?_ | refine FCond.fA ?_) | ((with_reducible refine FCond.i (fun hq => ?_) (fun hq => ?_)) <;> (try simp only [zA, zE, zD, zJ, zB, zI, Int.not_le, Int.not_lt] at hq)) | (with_reducible first | refine Fits.in64 (by omega) ?_ | refine FIdx.nat (by omega) ?_ | refine FIdx.int (by omega) ?_ | refine FTo.nat (by omega) ?_ | refine FTo.int (by omega) ?_) | ((with_reducible refine Need.mk ?_ ?_); focus exact needA) | (with_reducible refine FApp.grow ?_) | (refine FCall.pure (cV) ⟨Ln.sameB _ rfl, True.intro⟩ rfl ?_) | (refine FCall.pure works_ok True.intro rfl ?_) | (with_reducible refine FOr.pub ?_)))
      all_goals (try (conv => whnf))
      all_goals ((refine ⟨⟨_, [], [], Cut.nil _, Ln.sameB _ rfl, ?_, rfl⟩⟩); rfl)
    by_cases hg4 : 5 ≤ g
    · (repeat' ((try (conv => whnf)); first | (with_reducible first | refine FCond.tA ?_ | refine FCond.fA ?_) | ((with_reducible refine FCond.i (fun hq => ?_) (fun hq => ?_)) <;> (try simp only [zA, zE, zD, zJ, zB, zI, Int.not_le, Int.not_lt] at hq)) | (with_reducible first | refine Fits.in64 (by omega) ?_ | refine FIdx.nat (by omega) ?_ | refine FIdx.int (by omega) ?_ | refine FTo.nat (by omega) ?_ | refine FTo.int (by omega) ?_) | ((with_reducible refine Need.mk ?_ ?_); focus exact needA) | (with_reducible refine FApp.grow ?_) | (refine FCall.pure (cV) ⟨Ln.sameB _ rfl, True.intro⟩ rfl ?_) | (refine FCall.pure works_ok True.intro rfl ?_) | (with_reducible refine FOr.pub ?_)))
      all_goals (try (conv => whnf))
      all_goals ((refine ⟨⟨_, [], [], Cut.nil _, Ln.sameB _ rfl, ?_, rfl⟩⟩); rfl)
    by_cases ht : 0 ≤ t ∧ t < s.times
    · rw [show checkT s t = 0 from by unfold checkT; rw [if_pos hk, if_pos ht]] at cT
      have c11 : s.C ≤ 11 := by show s.rg.length ≤ 11; omega
      have hw := wr_ok hk c11 (show 0 ≤ g ∧ g ≤ 4 by omega) (show 0 ≤ t ∧ t ≤ s.times - 1 by omega)
      have hsw := std_d hw
      have hCl : (wr s g t).rg.length = s.rg.length + 1 := List.length_append
      have hnw : NearS (wr s g t) := ⟨hn.n, by omega⟩
      have n1 : 0 < s.sg.length := hs.n1
      have cF := free_sl f s hn c11 hk g (by omega)
      have cW := with_ok f s hn n1 g t
      have cP := plan_yes f s hn hk
      have cQ := plan_yes f000 (wr s g t) hnw hw
      have cA := areRight_ok f000 (wr s g t) hsw false false (bestL (wr s g t)) (bestL_len hsw)
      rw [right_d.2 (bestL_right (wr s g t))] at cA
      have hbl : (bestL (wr s g t)).length = s.rg.length + 1 := by rw [(bestL_right (wr s g t)).len]; exact hCl
      have hle := wr_le (s := s) (g := g) (t := t) (by omega)
      have hfl := freeK_len s g s.T
      obtain ⟨l, hl⟩ : ∃ l, freeK s g s.T = l := ⟨_, rfl⟩
      have hget : ∀ i, i < l.length → 0 ≤ l.getD i 0 ∧ l.getD i 0 < s.times := fun i hi => by
        rw [← hl] at hi ⊢
        have := freeK_get hi
        omega
      have hinc : ∀ i, i + 1 < l.length → l.getD i 0 < l.getD (i + 1) 0 := fun i hi => by
        rw [← hl] at hi ⊢
        exact freeK_lt (Nat.lt_succ_self i) hi
      have hmem : t ∈ l ↔ (bestW (wr s g t)).u ≤ (bestW s).u := by
        have := freeK_mem (s := s) (g := g) (t := t.toNat) (k := s.T)
        rw [show ((t.toNat : Nat) : Int) = t by omega, hl] at this
        rw [this]
        constructor
        · exact fun h => h.2
        · exact fun h => ⟨by omega, h⟩
      rw [hl] at cF hfl
      (repeat' ((try (conv => whnf)); first | (with_reducible first | refine FCond.tA ?_ | refine FCond.fA ?_) | ((with_reducible refine FCond.i (fun hq => ?_) (fun hq => ?_)) <;> (try simp only [zA, zE, zD, zJ, zB, zI, Int.not_le, Int.not_lt] at hq)) | (with_reducible first | refine Fits.in64 (by omega) ?_ | refine FIdx.nat (by omega) ?_ | refine FIdx.int (by omega) ?_ | refine FTo.nat (by omega) ?_ | refine FTo.int (by omega) ?_) | ((with_reducible refine Need.mk ?_ ?_); focus exact needA) | (with_reducible refine FApp.grow ?_) | (refine FCall.pure (cV) ⟨Ln.sameB _ rfl, True.intro⟩ rfl ?_) | (refine FCall.pure (cT) ⟨Ln.sameB _ rfl, Ln.sameB _ rfl, True.intro⟩ rfl ?_) | (refine FCall.pure (cF) ⟨Ln.sameB _ rfl, Ln.sameB _ rfl, True.intro⟩ rfl ?_) | (refine FCall.pure (cW) ⟨Ln.sameB _ rfl, Ln.sameB _ rfl, Ln.sameB _ rfl, True.intro⟩ rfl ?_) | (refine FCall.pure (cP) ⟨Ln.sameB _ rfl, True.intro⟩ rfl ?_) | (refine FCall.pure (cQ) ⟨Ln.sameB _ rfl, True.intro⟩ rfl ?_) | (refine FCall.pure (cA) ⟨Ln.sameB _ rfl, Ln.sameB _ rfl, True.intro⟩ rfl ?_) | (with_reducible refine FOr.pub ?_)))
      all_goals (try (conv => whnf))
      refine FLoop.of (ACalls.mono _) (X := Nat) (fun i => [(2, AI t), (3, .ptr 0 0), (7, aInts l.isEmpty l.isEmpty l), (11, AI (bestW s).u), (14, aAns false false (bestL (wr s g t))), (15, AI (bestW (wr s g t)).u), (18, .bool (decide (t ∈ l.take i))), (19, AI i)]) (fun i => [.box 3 (cStd f s)]) (fun i => i ≤ l.length) (fun i => l.length - i) 0 ⟨Nat.zero_le _, [0], Cut.A, allA⟩ ?_
      intro i hi
      by_cases hlt : i < l.length
      · have hgi := hget i hlt
        have hst := take_mem (t := t) hlt
        rcases i with _ | i
        · cases hm : decide (t ∈ l.take 0)
          · have hs' : decide (t ∈ l.take (0 + 1)) = decide (l.getD 0 0 = t) := decide_eq_decide.2 (by rw [hst]; simp)
            (repeat' ((try (conv => whnf)); first | (with_reducible first | refine FCond.tA ?_ | refine FCond.fA ?_) | ((with_reducible refine FCond.i (fun hq => ?_) (fun hq => ?_)) <;> (try simp only [zA, zE, zD, zJ, zB, zI, Int.not_le, Int.not_lt] at hq)) | (with_reducible first | refine Fits.in64 (by omega) ?_ | refine FIdx.nat (by omega) ?_ | refine FIdx.int (by omega) ?_ | refine FTo.nat (by omega) ?_ | refine FTo.int (by omega) ?_) | ((with_reducible refine Need.mk ?_ ?_); focus exact needA) | (with_reducible refine FApp.grow ?_) | (with_reducible refine FOr.pub ?_)))
            all_goals (try (conv => whnf))
            all_goals exact ⟨⟨0 + 1, hlt, by omega, [0], Cut.A, ⟨Ln.A, Ln.A, Ln.A, Ln.A, Ln.A, Ln.A, Ln.bool (by first | (rw [hs']; done) | (rw [hs']; rfl)), Ln.A, True.intro⟩⟩⟩
          · simp at hm
        · have hii : l.getD (((i + 1 : Nat) : Int) - 1).toNat 0 < l.getD (i + 1) 0 := by
            rw [show (((i + 1 : Nat) : Int) - 1).toNat = i by omega]
            exact hinc i hlt
          cases hm : decide (t ∈ l.take (i + 1))
          · have hs' : decide (t ∈ l.take (i + 1 + 1)) = decide (l.getD (i + 1) 0 = t) := decide_eq_decide.2 (by rw [hst]; simp at hm; simp [hm])
            (repeat' ((try (conv => whnf)); first | (with_reducible first | refine FCond.tA ?_ | refine FCond.fA ?_) | ((with_reducible refine FCond.i (fun hq => ?_) (fun hq => ?_)) <;> (try simp only [zA, zE, zD, zJ, zB, zI, Int.not_le, Int.not_lt] at hq)) | (with_reducible first | refine Fits.in64 (by omega) ?_ | refine FIdx.nat (by omega) ?_ | refine FIdx.int (by omega) ?_ | refine FTo.nat (by omega) ?_ | refine FTo.int (by omega) ?_) | ((with_reducible refine Need.mk ?_ ?_); focus exact needA) | (with_reducible refine FApp.grow ?_) | (with_reducible refine FOr.pub ?_)))
            all_goals (try (conv => whnf))
            all_goals exact ⟨⟨(i + 1) + 1, hlt, by omega, [0], Cut.A, ⟨Ln.A, Ln.A, Ln.A, Ln.A, Ln.A, Ln.A, Ln.bool (by first | (rw [hs']; done) | (rw [hs']; rfl)), Ln.A, True.intro⟩⟩⟩
          · have hs' : decide (t ∈ l.take (i + 1 + 1)) = true := decide_eq_true (by rw [hst]; simp at hm; exact .inl hm)
            (repeat' ((try (conv => whnf)); first | (with_reducible first | refine FCond.tA ?_ | refine FCond.fA ?_) | ((with_reducible refine FCond.i (fun hq => ?_) (fun hq => ?_)) <;> (try simp only [zA, zE, zD, zJ, zB, zI, Int.not_le, Int.not_lt] at hq)) | (with_reducible first | refine Fits.in64 (by omega) ?_ | refine FIdx.nat (by omega) ?_ | refine FIdx.int (by omega) ?_ | refine FTo.nat (by omega) ?_ | refine FTo.int (by omega) ?_) | ((with_reducible refine Need.mk ?_ ?_); focus exact needA) | (with_reducible refine FApp.grow ?_) | (with_reducible refine FOr.pub ?_)))
            all_goals (try (conv => whnf))
            all_goals exact ⟨⟨(i + 1) + 1, hlt, by omega, [0], Cut.A, ⟨Ln.A, Ln.A, Ln.A, Ln.A, Ln.A, Ln.A, Ln.bool (by first | (rw [hs']; done) | (rw [hs']; rfl)), Ln.A, True.intro⟩⟩⟩
      · obtain rfl : i = l.length := by omega
        rw [List.take_length]
        have hix : (((bestL (wr s g t)).length : Int) - 1).toNat = s.C := by show _ = s.rg.length; omega
        by_cases hm : t ∈ l
        · have hu := hmem.1 hm
          have he : (bestW (wr s g t)).u = (bestW s).u := by omega
          have hat := wr_at ht.2 hu
          rw [show decide (t ∈ l) = true from decide_eq_true hm]
          (repeat' ((try (conv => whnf)); first | (with_reducible first | refine FCond.tA ?_ | refine FCond.fA ?_) | ((with_reducible refine FCond.i (fun hq => ?_) (fun hq => ?_)) <;> (try simp only [zA, zE, zD, zJ, zB, zI, Int.not_le, Int.not_lt] at hq)) | (with_reducible first | refine Fits.in64 (by omega) ?_ | refine FIdx.nat (by omega) ?_ | refine FIdx.int (by omega) ?_ | refine FTo.nat (by omega) ?_ | refine FTo.int (by omega) ?_) | ((with_reducible refine Need.mk ?_ ?_); focus exact needA) | (with_reducible refine FApp.grow ?_) | (refine FCall.pure works_ok True.intro rfl ?_) | (with_reducible refine FOr.pub ?_)))
          all_goals (try (conv => whnf))
          all_goals first | ((refine ⟨⟨_, [], [], Cut.nil _, Ln.sameB _ rfl, ?_, rfl⟩⟩); rfl; done) | (exfalso; revert hq; rw [hix]; exact fun h => h hat) | (exfalso; revert hq; simp [he]; done)
        · have hu : ¬ (bestW (wr s g t)).u ≤ (bestW s).u := fun h => hm (hmem.2 h)
          have he : ¬ (bestW (wr s g t)).u = (bestW s).u := by omega
          rw [show decide (t ∈ l) = false from decide_eq_false hm]
          (repeat' ((try (conv => whnf)); first | (with_reducible first | refine FCond.tA ?_ | refine FCond.fA ?_) | ((with_reducible refine FCond.i (fun hq => ?_) (fun hq => ?_)) <;> (try simp only [zA, zE, zD, zJ, zB, zI, Int.not_le, Int.not_lt] at hq)) | (with_reducible first | refine Fits.in64 (by omega) ?_ | refine FIdx.nat (by omega) ?_ | refine FIdx.int (by omega) ?_ | refine FTo.nat (by omega) ?_ | refine FTo.int (by omega) ?_) | ((with_reducible refine Need.mk ?_ ?_); focus exact needA) | (with_reducible refine FApp.grow ?_) | (refine FCall.pure works_ok True.intro rfl ?_) | (with_reducible refine FOr.pub ?_)))
          all_goals (try (conv => whnf))
          all_goals first | ((refine ⟨⟨_, [], [], Cut.nil _, Ln.sameB _ rfl, ?_, rfl⟩⟩); rfl; done) | (exfalso; revert hq; simp [he]; done)
    · rw [show checkT s t = 1 from by unfold checkT; rw [if_pos hk, if_neg ht]] at cT
      (repeat' ((try (conv => whnf)); first | (with_reducible first | refine FCond.tA ?_ | refine FCond.fA ?_) | ((with_reducible refine FCond.i (fun hq => ?_) (fun hq => ?_)) <;> (try simp only [zA, zE, zD, zJ, zB, zI, Int.not_le, Int.not_lt] at hq)) | (with_reducible first | refine Fits.in64 (by omega) ?_ | refine FIdx.nat (by omega) ?_ | refine FIdx.int (by omega) ?_ | refine FTo.nat (by omega) ?_ | refine FTo.int (by omega) ?_) | ((with_reducible refine Need.mk ?_ ?_); focus exact needA) | (with_reducible refine FApp.grow ?_) | (refine FCall.pure (cV) ⟨Ln.sameB _ rfl, True.intro⟩ rfl ?_) | (refine FCall.pure (cT) ⟨Ln.sameB _ rfl, Ln.sameB _ rfl, True.intro⟩ rfl ?_) | (refine FCall.pure works_ok True.intro rfl ?_) | (with_reducible refine FOr.pub ?_)))
      all_goals (try (conv => whnf))
      all_goals ((refine ⟨⟨_, [], [], Cut.nil _, Ln.sameB _ rfl, ?_, rfl⟩⟩); rfl)
end Go.Proofs.Ytnghcfmloljagaa
