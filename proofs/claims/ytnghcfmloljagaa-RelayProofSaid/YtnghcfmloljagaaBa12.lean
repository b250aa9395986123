/- Relay: the statement RelayEasier. / Relay: With of the reference; one more emergency, in plain terms. / Relay: the statement RelayAtOnce. / Relay: the reference's search time by time / Relay: the reference's rows are least costs; its best answers / Relay: the reference's sets at one time. -/
import Derived.Test.YtnghcfmloljagaaBa11
import Derived.Test.YtnghcfmloljagaaBa10
set_option linter.unusedSimpArgs false
set_option linter.unusedVariables false
namespace Go.Proofs.Ytnghcfmloljagaa
open Go.RowKit

/-- A studio in which all that could be done can still be done. -/
structure Easier (s s' : Std) : Prop where
  times : s'.times = s.times
  rg : s'.rg = s.rg
  n : s.n ≤ s'.n
  can : ∀ i t c, i < s.n → canA s i (t : Nat) c = true → canA s' i (t : Nat) c = true
theorem easier_isM {s s' : Std} (h : Easier s s') {D D' : Nat × Nat → Prop} (hD : ∀ p, D p → p.1 < s.n ∧ D' p) {S : Nat} {a : Asg} (ha : IsM s D S a) : IsM s' D' S a := by
  have hC : s'.C = s.C := by unfold Std.C; rw [h.rg]
  refine ⟨fun c => by rw [hC]; exact ha.dom c, fun c p hp => ?_, ha.inj⟩
  obtain ⟨h1, h2⟩ := ha.can c p hp
  exact ⟨(hD p h1).2, h.can _ _ _ (hD p h1).1 h2⟩
theorem easier_best {s s' : Std} (h : Easier s s') : (bestW s).lt (bestW s') = false := by
  obtain ⟨⟨S, h1⟩, h2, _⟩ := best_ok s
  have hR : ∀ c, s'.R c = s.R c := fun c => by unfold Std.R; rw [h.rg]
  have hC : s'.C = s.C := by unfold Std.C; rw [h.rg]
  have hT : s'.T = s.T := by unfold Std.T; rw [h.times]
  have hM := easier_isM h (D := AllD s) (D' := AllD s') (fun p hp => ⟨hp.1, Nat.lt_of_lt_of_le hp.1 h.n, hT ▸ hp.2⟩) h1
  have h3 := (best_ok s').2.2 _ _ hM
  have e : total s' (bestA s) = total s (bestA s) := by
    unfold total
    rw [hC]
    refine sumW_congr fun c _ => ?_
    rw [hR, h.times]
  rw [e, h2] at h3
  exact h3
theorem easier_most {s s' : Std} (h : Easier s s') (t : Nat) (u : Bool) : mostN s t u ≤ mostN s' t u := by
  obtain ⟨S, a, h1, h2⟩ := (mostN_is s t u).is
  have hC : s'.C = s.C := by unfold Std.C; rw [h.rg]
  have hM := easier_isM h (D := upT s t) (D' := upT s' t) (fun p hp => ⟨hp.1, Nat.lt_of_lt_of_le hp.1 h.n, hp.2⟩) h1
  rw [← h2]
  refine Nat.le_trans (Nat.le_of_eq ?_) ((mostN_is s' t u).le S a hM)
  unfold cntM
  rw [hC]
  refine cntB_congr fun c _ => ?_
  unfold counts Std.R
  rw [h.rg]
theorem easier_trans {a b c : Std} (h : Easier a b) (k : Easier b c) : Easier a c :=
  ⟨k.times.trans h.times, k.rg.trans h.rg, Nat.le_trans h.n k.n, fun i t r hi hc => k.can i t r (Nat.lt_of_lt_of_le hi h.n) (h.can i t r hi hc)⟩
def addG (s : Std) (m : Sgn) : Std := { s with sg := s.sg ++ [m] }
theorem addG_S {s : Std} {m : Sgn} {i : Nat} (hi : i < s.n) : (addG s m).S i = s.S i := by
  have hi' : i < s.sg.length := hi
  unfold Std.S addG
  simp [List.getD, List.getElem?_append_left hi']
theorem addG_easier (s : Std) (m : Sgn) : Easier s (addG s m) := by
  refine ⟨rfl, rfl, ?_, fun i t c hi hc => ?_⟩
  · show s.sg.length ≤ (s.sg ++ [m]).length
    simp
  · unfold canA at hc ⊢
    rw [addG_S hi]; exact hc
def easeG (times : Int) (g : Sgn) (T B L : Int) : Sgn := ⟨((g.tongues.toNat ||| T.toNat : Nat) : Int), max 0 (g.from_ - B), min times (g.until_ + L)⟩
def easeS (s : Std) (i T B L : Int) : Std := if 0 ≤ i ∧ i < s.n then { s with sg := s.sg.set i.toNat (easeG s.times (s.S i.toNat) T B L) } else s
theorem easeS_in {s : Std} {i T B L : Int} (h : 0 ≤ i ∧ i < s.n) : easeS s i T B L = { s with sg := s.sg.set i.toNat (easeG s.times (s.S i.toNat) T B L) } := if_pos h
theorem easeS_out {s : Std} {i T B L : Int} (h : ¬ (0 ≤ i ∧ i < s.n)) : easeS s i T B L = s := if_neg h
theorem easeS_ok {s : Std} {i T B L : Int} (h : s.ok = true) (hT : 0 ≤ T ∧ T ≤ 31) (hB : 0 ≤ B) (hL : 0 ≤ L) : (easeS s i T B L).ok = true := by
  by_cases hi : 0 ≤ i ∧ i < s.n
  · rw [easeS_in hi]
    have hs := (std_d h).sg i.toNat (by omega)
    unfold Std.ok Std.head at h ⊢
    simp only [Bool.and_eq_true, decide_eq_true_eq, List.all_eq_true] at h ⊢
    obtain ⟨⟨⟨⟨a, b⟩, c⟩, d⟩, e⟩ := h
    refine ⟨⟨⟨⟨a, ?_⟩, c⟩, fun x hx => ?_⟩, e⟩
    · rw [List.length_set]; exact b
    · rcases List.mem_or_eq_of_mem_set hx with hx | hx
      · exact d x hx
      · subst hx
        have hor : (s.S i.toNat).tongues.toNat ||| T.toNat < 2 ^ 5 := Nat.or_lt_two_pow (by omega) (by omega)
        unfold Sgn.ok easeG
        simp only [inB, Bool.and_eq_true, decide_eq_true_eq]
        omega
  · rw [easeS_out hi]; exact h
theorem easeS_easier {s : Std} (hs : StdOk s) {i T B L : Int} (hB : 0 ≤ B) (hL : 0 ≤ L) : Easier s (easeS s i T B L) := by
  by_cases hi : 0 ≤ i ∧ i < s.n
  · rw [easeS_in hi]
    refine ⟨rfl, rfl, ?_, fun k t c hk hc => ?_⟩
    · show s.sg.length ≤ (s.sg.set _ _).length
      rw [List.length_set]; exact Nat.le_refl _
    · have hk' : k < s.sg.length := hk
      by_cases e : k = i.toNat
      · have eS : Std.S { s with sg := s.sg.set i.toNat (easeG s.times (s.S i.toNat) T B L) } k = easeG s.times (s.S k) T B L := by
          subst e
          unfold Std.S
          simp [List.getD, hk']
        have hd := canA_d hc
        have hg := hs.sg k hk
        unfold canA at hc ⊢
        rw [eS]
        simp only [Bool.and_eq_true, decide_eq_true_eq] at hc ⊢
        refine ⟨⟨⟨?_, ?_⟩, hc.1.2⟩, ?_⟩
        · unfold easeG; simp only; omega
        · unfold easeG; simp only; omega
        · unfold easeG
          simp only [Int.toNat_natCast, Nat.testBit_or]
          rw [Bool.or_eq_true]
          exact .inl hc.2
      · have eS : Std.S { s with sg := s.sg.set i.toNat (easeG s.times (s.S i.toNat) T B L) } k = s.S k := by
          unfold Std.S
          simp only [List.getD]
          rw [List.getElem?_set_ne (fun h => e h.symm)]
        unfold canA at hc ⊢
        rw [eS]; exact hc
  · rw [easeS_out hi]
    exact ⟨rfl, rfl, Nat.le_refl _, fun _ _ _ _ h => h⟩
theorem easeS_times (s : Std) (i T B L : Int) : (easeS s i T B L).times = s.times := by unfold easeS; split <;> rfl
theorem easeS_rg (s : Std) (i T B L : Int) : (easeS s i T B L).rg = s.rg := by unfold easeS; split <;> rfl
theorem easeS_n (s : Std) (i T B L : Int) : (easeS s i T B L).sg.length = s.sg.length := by
  unfold easeS
  split
  · exact List.length_set
  · rfl
theorem sg_snoc {l : List Sgn} {m : Sgn} {k : Nat} (hk : k < l.length + 1) : (l ++ [m]).getD k sg0 = if k < l.length then l.getD k sg0 else m := by
  by_cases h : k < l.length
  · rw [if_pos h]; simp [List.getD, List.getElem?_append_left h]
  · rw [if_neg h]
    obtain rfl : k = l.length := by omega
    simp [List.getD]
theorem addG_row {l : List Sgn} {m : Sgn} {n : Nat} {c : Nat → Nat → AV} {z : Nat → Nat → AV} (hn : n = l.length) (hc : ∀ k, k < n → ∀ o, o < 3 → c k o = cSgn (l.getD k sg0) o) : ∀ k, k < n + 1 → ∀ o, o < 3 → cSgn ((l ++ [m]).getD k sg0) o = appc n c (bslC z [(0, aSgn m)]) k o := fun k hk o ho => by
  subst hn
  simp only [appc]
  rw [sg_snoc hk]
  by_cases h : k < l.length
  · rw [if_pos h, if_pos h, hc k h o ho]
  · rw [if_neg h, if_neg h, show k - l.length = 0 by omega]; rfl
theorem ease_row {s : Std} {i T B L : Int} (hi : 0 ≤ i ∧ i < s.n) {v : AV} (hv : ∀ o, o < 3 → elemC v o = cSgn (easeG s.times (s.S i.toNat) T B L) o) : ∀ k, k < s.sg.length → ∀ o, o < 3 → updRm (fun k => cSgn (s.sg.getD k sg0)) i.toNat (elemC v) k o = cSgn ((easeS s i T B L).sg.getD k sg0) o := fun k hk o ho => by
  rw [easeS_in hi]
  simp only [updRm]
  by_cases e : k = i.toNat
  · rw [if_pos e, hv o ho]
    have : (s.sg.set i.toNat (easeG s.times (s.S i.toNat) T B L)).getD k sg0 = easeG s.times (s.S i.toNat) T B L := by
      subst e; simp [List.getD, hk]
    rw [this]
  · rw [if_neg e]
    have : (s.sg.set i.toNat (easeG s.times (s.S i.toNat) T B L)).getD k sg0 = s.sg.getD k sg0 := by
      simp only [List.getD]
      rw [List.getElem?_set_ne (fun h => e h.symm)]
    rw [this]
set_option maxHeartbeats 8000000
set_option maxRecDepth 100000
/-- A copy whose signers are the caller's own. -/
theorem copyG_ok (f : StF) (s : Std) (hn : NearS s) (ha : 0 < s.sg.length) : ACall Try.prog 15 [aStd f s] [] (fun v h => v = .agg 3 (ofL [AI s.times, .own 0 s.sg.length, aRngs false (decide (s.rg.length = 0)) s.rg]) ∧ h = [rowG s.sg.length s.sg]) := by
  have h1 := hn.n
  have h2 := hn.c
  rcases Nat.eq_zero_or_pos s.rg.length with hb | hb
  · refine ACall.wk (ACall.mono' _ ?_ (copy_a0 f s ⟨ha, h1⟩ hb))
    rintro _ _ ⟨rfl, rfl⟩
    exact ⟨_, [rowG s.sg.length s.sg], [0], Cut.A, Ln.aggN ⟨⟨⟨True.intro, Ln.A⟩, Ln.A⟩, Ln.slZ hb⟩, rfl, rfl⟩
  · refine ACall.wk (ACall.mono' _ ?_ (copy_ab f s ⟨ha, h1⟩ ⟨hb, h2⟩))
    rintro _ _ ⟨rfl, rfl⟩
    exact ⟨_, [rowG s.sg.length s.sg], [0], Cut.A, Ln.aggN ⟨⟨⟨True.intro, Ln.A⟩, Ln.A⟩, Ln.pubD hb (goneB rfl) rfl (Nat.le_refl _) rfl (fun _ _ _ _ => rfl)⟩, rfl, rfl⟩
theorem Ln.slE {σ : Nat → Nat → Prop} {Bp : Nat → Prop} {H : List AB} {z e : Bool} {n n' sz : Nat} {c c' : Nat → Nat → AV} (hn : n = n') (hc : ∀ k, k < n → ∀ o, o < sz → c' k o = c k o) : Ln σ Bp H (.sl z e n sz c) (.sl z e n' sz c') := hn ▸ Ln.sl _ _ _ _ _ _ _ (fun h => h) hc
theorem easier_any (f : StF) (s : Std) (hM : Mach s) (sg T B L : Int) (m : Sgn) (time : Int) (u : Bool) : ACall Try.prog 4 [aStd f s, .agg 7 (ofL [AI sg, AI T, AI B, AI L, AI m.tongues, AI m.from_, AI m.until_]), .agg 2 (ofL [AI time, .bool u])] [] (fun v h => v = .bool true ∧ h = []) := by
  have cV := valid_ok f s hM.n hM.c
  (refine fcall_of mixed Try.func4 rfl (by decide) (hs := { pub := [11, 13] }) ?k (ac := ?ac) ?c (rs := ?rs) ?r ?l ?H; (case k => kernel_rfl); (case c => (conv => (lhs; cbv))); (case r => (conv => (lhs; cbv))); (case l => exact Nat.le_of_ble_eq_true rfl))
  cases hv : validS s
  · rw [hv] at cV
    (repeat' ((try (conv => whnf)); first | (with_reducible first | refine FCond.tA ?_ | refine FCond.fA ?_) | ((with_reducible refine FCond.i (fun hq => ?_) (fun hq => ?_)) <;> (try simp only [zA, zE, zD, zJ, zB, zI, Int.not_le, Int.not_lt] at hq)) | (with_reducible first | refine Fits.in64 (by omega) ?_ | refine FIdx.nat (by omega) ?_ | refine FIdx.int (by omega) ?_ | refine FTo.nat (by omega) ?_ | refine FTo.int (by omega) ?_) | ((with_reducible refine Need.mk ?_ ?_); focus exact needA) | (with_reducible refine FApp.grow ?_) | (refine FCall.pure (cV) ⟨Ln.sameB _ rfl, True.intro⟩ rfl ?_) | (refine FCall.pure works_ok True.intro rfl ?_) | (with_reducible refine FOr.pub ?_)))
    all_goals (try (conv => whnf))
    all_goals ((refine ⟨⟨_, [], [], Cut.nil _, Ln.sameB _ rfl, ?_, rfl⟩⟩); rfl)
  · rw [hv] at cV
    obtain ⟨hf, hk⟩ := valid_d hv
    have hn := near_of hf
    have hs := std_d hk
    have tt := hs.t
    have t8 := hs.t8
    have n1 : 1 ≤ s.sg.length := hs.n1
    have n4 : s.sg.length ≤ 4 := hs.n4
    have hnl : s.n = s.sg.length := rfl
    have c1 := checkTime_ok f s hn time
    rw [show checkT s time = if 0 ≤ time ∧ time < s.times then 0 else 1 by unfold checkT; rw [if_pos hk]] at c1
    by_cases ht : 0 ≤ time ∧ time < s.times
    · rw [if_pos ht] at c1
      by_cases hall : (0 ≤ T ∧ T ≤ 31) ∧ (0 ≤ B ∧ B ≤ 8) ∧ 0 ≤ L ∧ L ≤ 8
      · obtain ⟨t, rfl⟩ : ∃ t : Nat, time = t := ⟨time.toNat, by omega⟩
        have hke := easeS_ok (i := sg) hk hall.1 hall.2.1.1 hall.2.2.1
        have he := easeS_easier hs (i := sg) (T := T) hall.2.1.1 hall.2.2.1
        have hEl := easeS_n s sg T B L
        have hEr := easeS_rg s sg T B L
        have hEt := easeS_times s sg T B L
        obtain ⟨E, hE⟩ : ∃ E, E = easeS s sg T B L := ⟨_, rfl⟩
        have hrow := @ease_row s sg T B L
        rw [← hE] at hke he hEl hEr hEt hrow
        have hnE : NearS E := ⟨by rw [hEl]; exact hn.n, by rw [hEr]; exact hn.c⟩
        have hnA : NearS (addG E m) := ⟨by show (E.sg ++ [m]).length ≤ 1000; rw [List.length_append, List.length_singleton, hEl]; omega, by show E.rg.length ≤ 1000; rw [hEr]; exact hn.c⟩
        by_cases hin : 0 ≤ sg ∧ sg < s.n
        · have hgi := hs.sg sg.toNat (by omega)
          unfold Std.S at hgi
          (repeat' ((try (conv => whnf)); first | (with_reducible first | refine FCond.tA ?_ | refine FCond.fA ?_) | ((with_reducible refine FCond.i (fun hq => ?_) (fun hq => ?_)) <;> (try simp only [zA, zE, zD, zJ, zB, zI, Int.not_le, Int.not_lt] at hq)) | (with_reducible first | refine Fits.in64 (by omega) ?_ | refine FIdx.nat (by omega) ?_ | refine FIdx.int (by omega) ?_ | refine FTo.nat (by omega) ?_ | refine FTo.int (by omega) ?_) | ((with_reducible refine Need.mk ?_ ?_); focus exact needA) | (with_reducible refine FApp.grow ?_) | (refine FCall.pure (cV) ⟨Ln.sameB _ rfl, True.intro⟩ rfl ?_) | (refine FCall.pure (c1) ⟨Ln.sameB _ rfl, Ln.sameB _ rfl, True.intro⟩ rfl ?_) | ((refine FCall.give [] [] (copyG_ok f s hn n1) rfl rfl True.intro ⟨Ln.A, True.intro⟩ ?_); rintro _ _ ⟨rfl, rfl⟩; (refine ⟨by first | exact Nat.le_of_ble_eq_true rfl | omega, .inl rfl, ?_⟩)) | (refine FBit.orI rfl (a := (s.sg.getD sg.toNat sg0).tongues.toNat) (b := T.toNat) (by omega) (by omega) (by omega) (by omega) ?_) | (with_reducible refine FOr.pub ?_)))
          all_goals (try (conv => whnf))
          refine FWk.of [(3, .ptr 0 0), (5, .ptr 1 0), (7, .ptr 2 0)] [.box 3 (cStd f s), .box 2 (ofL [AI t, .bool u]), .box 3 (cStd ⟨false, false, false, decide (s.rg.length = 0)⟩ (addG E m))] [0, 2, 4] (Cut.of (Nat.le_of_ble_eq_true rfl) rfl rfl (CutL.turned rfl LnB.A (CutL.turned rfl LnB.A (CutL.turned rfl (LnB.boxN ⟨⟨⟨True.intro, Ln.int hEt.symm⟩, Ln.pubE (goneB rfl) rfl (Nat.le_refl _) (by show _ = (E.sg ++ [m]).length; rw [List.length_append, List.length_singleton, hEl]) (addG_row hEl.symm (fun k hk o ho => hrow hin (fun o ho => by rcases (show o = 0 ∨ o = 1 ∨ o = 2 by omega) with rfl | rfl | rfl <;> rfl) k hk o ho))⟩, by show Ln _ _ _ (aRngs _ _ s.rg) (aRngs _ _ E.rg); rw [hEr]; exact Ln.sameB _ rfl⟩) CutL.done)))) allA ?_
          have cK := refCheck_ok ⟨false, false, false, decide (s.rg.length = 0)⟩ (addG E m) hnA
          by_cases hok : (addG E m).ok = true
          · rw [check_ok' hok] at cK
            (repeat' ((try (conv => whnf)); first | (with_reducible first | refine FCond.tA ?_ | refine FCond.fA ?_) | ((with_reducible refine FCond.i (fun hq => ?_) (fun hq => ?_)) <;> (try simp only [zA, zE, zD, zJ, zB, zI, Int.not_le, Int.not_lt] at hq)) | (with_reducible first | refine Fits.in64 (by omega) ?_ | refine FIdx.nat (by omega) ?_ | refine FIdx.int (by omega) ?_ | refine FTo.nat (by omega) ?_ | refine FTo.int (by omega) ?_) | ((with_reducible refine Need.mk ?_ ?_); focus exact needA) | (with_reducible refine FApp.grow ?_) | (refine FCall.pure (cK) ⟨Ln.sameB _ rfl, True.intro⟩ rfl ?_) | (with_reducible refine FOr.pub ?_)))
            all_goals (try (conv => whnf))
            refine FWk.of [(3, .ptr 0 0), (5, .ptr 1 0), (7, .ptr 2 0)] [.box 3 (cStd f s), .box 2 (ofL [AI t, .bool u]), .box 3 (cStd ⟨false, false, false, decide (s.rg.length = 0)⟩ (addG E m))] [0, 1, 2] Cut.A allA ?_
            have he2 := easier_trans he (addG_easier E m)
            have cP := plan_yes f s hn hk
            have cQ := plan_yes ⟨false, false, false, decide (s.rg.length = 0)⟩ (addG E m) hnA hok
            have hT2 : t < Std.T (addG E m) := by
              have : Std.T (addG E m) = s.T := by unfold Std.T; rw [Easier.times he2]
              omega
            have cX := most_yes f s hn hk t (by omega) u
            have cY := most_yes ⟨false, false, false, decide (s.rg.length = 0)⟩ (addG E m) hnA hok t hT2 u
            have cM := isMore_ok (bestW (addG E m)).u (bestW (addG E m)).o (bestW s).u (bestW s).o
            rw [show (Wt.mk (bestW s).u (bestW s).o).lt ⟨(bestW (addG E m)).u, (bestW (addG E m)).o⟩ = false from easier_best he2] at cM
            have hmost := easier_most he2 t u
            (repeat' ((try (conv => whnf)); first | (with_reducible first | refine FCond.tA ?_ | refine FCond.fA ?_) | ((with_reducible refine FCond.i (fun hq => ?_) (fun hq => ?_)) <;> (try simp only [zA, zE, zD, zJ, zB, zI, Int.not_le, Int.not_lt] at hq)) | (with_reducible first | refine Fits.in64 (by omega) ?_ | refine FIdx.nat (by omega) ?_ | refine FIdx.int (by omega) ?_ | refine FTo.nat (by omega) ?_ | refine FTo.int (by omega) ?_) | ((with_reducible refine Need.mk ?_ ?_); focus exact needA) | (with_reducible refine FApp.grow ?_) | (refine FCall.pure (cP) ⟨Ln.sameB _ rfl, True.intro⟩ rfl ?_) | (refine FCall.pure (cQ) ⟨Ln.sameB _ rfl, True.intro⟩ rfl ?_) | (refine FCall.pure (cX) ⟨Ln.sameB _ rfl, Ln.sameB _ rfl, Ln.sameB _ rfl, True.intro⟩ rfl ?_) | (refine FCall.pure (cY) ⟨Ln.sameB _ rfl, Ln.sameB _ rfl, Ln.sameB _ rfl, True.intro⟩ rfl ?_) | (refine FCall.pure (cM) ⟨Ln.sameB _ rfl, Ln.sameB _ rfl, Ln.sameB _ rfl, Ln.sameB _ rfl, True.intro⟩ rfl ?_) | (refine FCall.pure works_ok True.intro rfl ?_) | (with_reducible refine FOr.pub ?_)))
            all_goals (try (conv => whnf))
            all_goals ((refine ⟨⟨_, [], [], Cut.nil _, Ln.sameB _ rfl, ?_, rfl⟩⟩); rfl)

          · rw [check_60 (by simpa using hok)] at cK
            have hl : (addG E m).sg.length = E.sg.length + 1 := (by show (E.sg ++ [m]).length = _; simp)
            (repeat' ((try (conv => whnf)); first | (with_reducible first | refine FCond.tA ?_ | refine FCond.fA ?_) | ((with_reducible refine FCond.i (fun hq => ?_) (fun hq => ?_)) <;> (try simp only [zA, zE, zD, zJ, zB, zI, Int.not_le, Int.not_lt] at hq)) | (with_reducible first | refine Fits.in64 (by omega) ?_ | refine FIdx.nat (by omega) ?_ | refine FIdx.int (by omega) ?_ | refine FTo.nat (by omega) ?_ | refine FTo.int (by omega) ?_) | ((with_reducible refine Need.mk ?_ ?_); focus exact needA) | (with_reducible refine FApp.grow ?_) | (refine FCall.pure (cK) ⟨Ln.sameB _ rfl, True.intro⟩ rfl ?_) | (with_reducible refine FOr.pub ?_)))
            all_goals (try (conv => whnf))
            refine FWk.of [(3, .ptr 0 0), (5, .ptr 1 0), (7, .ptr 2 0)] [.box 3 (cStd f s), .box 2 (ofL [AI t, .bool u]), .box 3 (cStd ⟨false, false, false, decide (s.rg.length = 0)⟩ E)] [0, 1, 2] (Cut.of (Nat.le_of_ble_eq_true rfl) rfl rfl (CutL.turned rfl LnB.A (CutL.turned rfl LnB.A (CutL.turned rfl (LnB.boxN ⟨⟨⟨True.intro, Ln.A⟩, Ln.slE (by show _ = E.sg.length; omega) (fun k hk o ho => by
                have hkE : k < E.sg.length := by omega
                show cSgn (E.sg.getD k sg0) o = cSgn ((E.sg ++ [m]).getD k sg0) o
                rw [sg_snoc (by omega), if_pos hkE])⟩, Ln.A⟩) CutL.done)))) allA ?_
            have cP := plan_yes f s hn hk
            have cQ := plan_yes ⟨false, false, false, decide (s.rg.length = 0)⟩ E hnE hke
            have hT2 : t < Std.T E := by
              have : Std.T E = s.T := by unfold Std.T; rw [Easier.times he]
              omega
            have cX := most_yes f s hn hk t (by omega) u
            have cY := most_yes ⟨false, false, false, decide (s.rg.length = 0)⟩ E hnE hke t hT2 u
            have cM := isMore_ok (bestW E).u (bestW E).o (bestW s).u (bestW s).o
            rw [show (Wt.mk (bestW s).u (bestW s).o).lt ⟨(bestW E).u, (bestW E).o⟩ = false from easier_best he] at cM
            have hmost := easier_most he t u
            (repeat' ((try (conv => whnf)); first | (with_reducible first | refine FCond.tA ?_ | refine FCond.fA ?_) | ((with_reducible refine FCond.i (fun hq => ?_) (fun hq => ?_)) <;> (try simp only [zA, zE, zD, zJ, zB, zI, Int.not_le, Int.not_lt] at hq)) | (with_reducible first | refine Fits.in64 (by omega) ?_ | refine FIdx.nat (by omega) ?_ | refine FIdx.int (by omega) ?_ | refine FTo.nat (by omega) ?_ | refine FTo.int (by omega) ?_) | ((with_reducible refine Need.mk ?_ ?_); focus exact needA) | (with_reducible refine FApp.grow ?_) | (refine FCall.pure (cP) ⟨Ln.sameB _ rfl, True.intro⟩ rfl ?_) | (refine FCall.pure (cQ) ⟨Ln.sameB _ rfl, True.intro⟩ rfl ?_) | (refine FCall.pure (cX) ⟨Ln.sameB _ rfl, Ln.sameB _ rfl, Ln.sameB _ rfl, True.intro⟩ rfl ?_) | (refine FCall.pure (cY) ⟨Ln.sameB _ rfl, Ln.sameB _ rfl, Ln.sameB _ rfl, True.intro⟩ rfl ?_) | (refine FCall.pure (cM) ⟨Ln.sameB _ rfl, Ln.sameB _ rfl, Ln.sameB _ rfl, Ln.sameB _ rfl, True.intro⟩ rfl ?_) | (refine FCall.pure works_ok True.intro rfl ?_) | (with_reducible refine FOr.pub ?_)))
            all_goals (try (conv => whnf))
            all_goals ((refine ⟨⟨_, [], [], Cut.nil _, Ln.sameB _ rfl, ?_, rfl⟩⟩); rfl)
        · have hEs : E = s := by rw [hE]; exact easeS_out hin
          by_cases h0 : sg < 0
          · (repeat' ((try (conv => whnf)); first | (with_reducible first | refine FCond.tA ?_ | refine FCond.fA ?_) | ((with_reducible refine FCond.i (fun hq => ?_) (fun hq => ?_)) <;> (try simp only [zA, zE, zD, zJ, zB, zI, Int.not_le, Int.not_lt] at hq)) | (with_reducible first | refine Fits.in64 (by omega) ?_ | refine FIdx.nat (by omega) ?_ | refine FIdx.int (by omega) ?_ | refine FTo.nat (by omega) ?_ | refine FTo.int (by omega) ?_) | ((with_reducible refine Need.mk ?_ ?_); focus exact needA) | (with_reducible refine FApp.grow ?_) | (refine FCall.pure (cV) ⟨Ln.sameB _ rfl, True.intro⟩ rfl ?_) | (refine FCall.pure (c1) ⟨Ln.sameB _ rfl, Ln.sameB _ rfl, True.intro⟩ rfl ?_) | ((refine FCall.give [] [] (copyG_ok f s hn n1) rfl rfl True.intro ⟨Ln.A, True.intro⟩ ?_); rintro _ _ ⟨rfl, rfl⟩; (refine ⟨by first | exact Nat.le_of_ble_eq_true rfl | omega, .inl rfl, ?_⟩)) | (with_reducible refine FOr.pub ?_)))
            all_goals (try (conv => whnf))
            refine FWk.of [(3, .ptr 0 0), (5, .ptr 1 0), (7, .ptr 2 0)] [.box 3 (cStd f s), .box 2 (ofL [AI t, .bool u]), .box 3 (cStd ⟨false, false, false, decide (s.rg.length = 0)⟩ (addG E m))] [0, 2, 4] (Cut.of (Nat.le_of_ble_eq_true rfl) rfl rfl (CutL.turned rfl LnB.A (CutL.turned rfl LnB.A (CutL.turned rfl (LnB.boxN ⟨⟨⟨True.intro, Ln.int hEt.symm⟩, Ln.pubE (goneB rfl) rfl (Nat.le_refl _) (by show _ = (E.sg ++ [m]).length; rw [List.length_append, List.length_singleton, hEl]) (addG_row hEl.symm (fun k hk o ho => by rw [hEs]))⟩, by show Ln _ _ _ (aRngs _ _ s.rg) (aRngs _ _ E.rg); rw [hEr]; exact Ln.sameB _ rfl⟩) CutL.done)))) allA ?_
            have cK := refCheck_ok ⟨false, false, false, decide (s.rg.length = 0)⟩ (addG E m) hnA
            by_cases hok : (addG E m).ok = true
            · rw [check_ok' hok] at cK
              (repeat' ((try (conv => whnf)); first | (with_reducible first | refine FCond.tA ?_ | refine FCond.fA ?_) | ((with_reducible refine FCond.i (fun hq => ?_) (fun hq => ?_)) <;> (try simp only [zA, zE, zD, zJ, zB, zI, Int.not_le, Int.not_lt] at hq)) | (with_reducible first | refine Fits.in64 (by omega) ?_ | refine FIdx.nat (by omega) ?_ | refine FIdx.int (by omega) ?_ | refine FTo.nat (by omega) ?_ | refine FTo.int (by omega) ?_) | ((with_reducible refine Need.mk ?_ ?_); focus exact needA) | (with_reducible refine FApp.grow ?_) | (refine FCall.pure (cK) ⟨Ln.sameB _ rfl, True.intro⟩ rfl ?_) | (with_reducible refine FOr.pub ?_)))
              all_goals (try (conv => whnf))
              refine FWk.of [(3, .ptr 0 0), (5, .ptr 1 0), (7, .ptr 2 0)] [.box 3 (cStd f s), .box 2 (ofL [AI t, .bool u]), .box 3 (cStd ⟨false, false, false, decide (s.rg.length = 0)⟩ (addG E m))] [0, 1, 2] Cut.A allA ?_
              have he2 := easier_trans he (addG_easier E m)
              have cP := plan_yes f s hn hk
              have cQ := plan_yes ⟨false, false, false, decide (s.rg.length = 0)⟩ (addG E m) hnA hok
              have hT2 : t < Std.T (addG E m) := by
                have : Std.T (addG E m) = s.T := by unfold Std.T; rw [Easier.times he2]
                omega
              have cX := most_yes f s hn hk t (by omega) u
              have cY := most_yes ⟨false, false, false, decide (s.rg.length = 0)⟩ (addG E m) hnA hok t hT2 u
              have cM := isMore_ok (bestW (addG E m)).u (bestW (addG E m)).o (bestW s).u (bestW s).o
              rw [show (Wt.mk (bestW s).u (bestW s).o).lt ⟨(bestW (addG E m)).u, (bestW (addG E m)).o⟩ = false from easier_best he2] at cM
              have hmost := easier_most he2 t u
              (repeat' ((try (conv => whnf)); first | (with_reducible first | refine FCond.tA ?_ | refine FCond.fA ?_) | ((with_reducible refine FCond.i (fun hq => ?_) (fun hq => ?_)) <;> (try simp only [zA, zE, zD, zJ, zB, zI, Int.not_le, Int.not_lt] at hq)) | (with_reducible first | refine Fits.in64 (by omega) ?_ | refine FIdx.nat (by omega) ?_ | refine FIdx.int (by omega) ?_ | refine FTo.nat (by omega) ?_ | refine FTo.int (by omega) ?_) | ((with_reducible refine Need.mk ?_ ?_); focus exact needA) | (with_reducible refine FApp.grow ?_) | (refine FCall.pure (cP) ⟨Ln.sameB _ rfl, True.intro⟩ rfl ?_) | (refine FCall.pure (cQ) ⟨Ln.sameB _ rfl, True.intro⟩ rfl ?_) | (refine FCall.pure (cX) ⟨Ln.sameB _ rfl, Ln.sameB _ rfl, Ln.sameB _ rfl, True.intro⟩ rfl ?_) | (refine FCall.pure (cY) ⟨Ln.sameB _ rfl, Ln.sameB _ rfl, Ln.sameB _ rfl, True.intro⟩ rfl ?_) | (refine FCall.pure (cM) ⟨Ln.sameB _ rfl, Ln.sameB _ rfl, Ln.sameB _ rfl, Ln.sameB _ rfl, True.intro⟩ rfl ?_) | (refine FCall.pure works_ok True.intro rfl ?_) | (with_reducible refine FOr.pub ?_)))
              all_goals (try (conv => whnf))
              all_goals ((refine ⟨⟨_, [], [], Cut.nil _, Ln.sameB _ rfl, ?_, rfl⟩⟩); rfl)

            · rw [check_60 (by simpa using hok)] at cK
              have hl : (addG E m).sg.length = E.sg.length + 1 := (by show (E.sg ++ [m]).length = _; simp)
              (repeat' ((try (conv => whnf)); first | (with_reducible first | refine FCond.tA ?_ | refine FCond.fA ?_) | ((with_reducible refine FCond.i (fun hq => ?_) (fun hq => ?_)) <;> (try simp only [zA, zE, zD, zJ, zB, zI, Int.not_le, Int.not_lt] at hq)) | (with_reducible first | refine Fits.in64 (by omega) ?_ | refine FIdx.nat (by omega) ?_ | refine FIdx.int (by omega) ?_ | refine FTo.nat (by omega) ?_ | refine FTo.int (by omega) ?_) | ((with_reducible refine Need.mk ?_ ?_); focus exact needA) | (with_reducible refine FApp.grow ?_) | (refine FCall.pure (cK) ⟨Ln.sameB _ rfl, True.intro⟩ rfl ?_) | (with_reducible refine FOr.pub ?_)))
              all_goals (try (conv => whnf))
              refine FWk.of [(3, .ptr 0 0), (5, .ptr 1 0), (7, .ptr 2 0)] [.box 3 (cStd f s), .box 2 (ofL [AI t, .bool u]), .box 3 (cStd ⟨false, false, false, decide (s.rg.length = 0)⟩ E)] [0, 1, 2] (Cut.of (Nat.le_of_ble_eq_true rfl) rfl rfl (CutL.turned rfl LnB.A (CutL.turned rfl LnB.A (CutL.turned rfl (LnB.boxN ⟨⟨⟨True.intro, Ln.A⟩, Ln.slE (by show _ = E.sg.length; omega) (fun k hk o ho => by
                  have hkE : k < E.sg.length := by omega
                  show cSgn (E.sg.getD k sg0) o = cSgn ((E.sg ++ [m]).getD k sg0) o
                  rw [sg_snoc (by omega), if_pos hkE])⟩, Ln.A⟩) CutL.done)))) allA ?_
              have cP := plan_yes f s hn hk
              have cQ := plan_yes ⟨false, false, false, decide (s.rg.length = 0)⟩ E hnE hke
              have hT2 : t < Std.T E := by
                have : Std.T E = s.T := by unfold Std.T; rw [Easier.times he]
                omega
              have cX := most_yes f s hn hk t (by omega) u
              have cY := most_yes ⟨false, false, false, decide (s.rg.length = 0)⟩ E hnE hke t hT2 u
              have cM := isMore_ok (bestW E).u (bestW E).o (bestW s).u (bestW s).o
              rw [show (Wt.mk (bestW s).u (bestW s).o).lt ⟨(bestW E).u, (bestW E).o⟩ = false from easier_best he] at cM
              have hmost := easier_most he t u
              (repeat' ((try (conv => whnf)); first | (with_reducible first | refine FCond.tA ?_ | refine FCond.fA ?_) | ((with_reducible refine FCond.i (fun hq => ?_) (fun hq => ?_)) <;> (try simp only [zA, zE, zD, zJ, zB, zI, Int.not_le, Int.not_lt] at hq)) | (with_reducible first | refine Fits.in64 (by omega) ?_ | refine FIdx.nat (by omega) ?_ | refine FIdx.int (by omega) ?_ | refine FTo.nat (by omega) ?_ | refine FTo.int (by omega) ?_) | ((with_reducible refine Need.mk ?_ ?_); focus exact needA) | (with_reducible refine FApp.grow ?_) | (refine FCall.pure (cP) ⟨Ln.sameB _ rfl, True.intro⟩ rfl ?_) | (refine FCall.pure (cQ) ⟨Ln.sameB _ rfl, True.intro⟩ rfl ?_) | (refine FCall.pure (cX) ⟨Ln.sameB _ rfl, Ln.sameB _ rfl, Ln.sameB _ rfl, True.intro⟩ rfl ?_) | (refine FCall.pure (cY) ⟨Ln.sameB _ rfl, Ln.sameB _ rfl, Ln.sameB _ rfl, True.intro⟩ rfl ?_) | (refine FCall.pure (cM) ⟨Ln.sameB _ rfl, Ln.sameB _ rfl, Ln.sameB _ rfl, Ln.sameB _ rfl, True.intro⟩ rfl ?_) | (refine FCall.pure works_ok True.intro rfl ?_) | (with_reducible refine FOr.pub ?_)))
              all_goals (try (conv => whnf))
              all_goals ((refine ⟨⟨_, [], [], Cut.nil _, Ln.sameB _ rfl, ?_, rfl⟩⟩); rfl)
          · (repeat' ((try (conv => whnf)); first | (with_reducible first | refine FCond.tA ?_ | refine FCond.fA ?_) | ((with_reducible refine FCond.i (fun hq => ?_) (fun hq => ?_)) <;> (try simp only [zA, zE, zD, zJ, zB, zI, Int.not_le, Int.not_lt] at hq)) | (with_reducible first | refine Fits.in64 (by omega) ?_ | refine FIdx.nat (by omega) ?_ | refine FIdx.int (by omega) ?_ | refine FTo.nat (by omega) ?_ | refine FTo.int (by omega) ?_) | ((with_reducible refine Need.mk ?_ ?_); focus exact needA) | (with_reducible refine FApp.grow ?_) | (refine FCall.pure (cV) ⟨Ln.sameB _ rfl, True.intro⟩ rfl ?_) | (refine FCall.pure (c1) ⟨Ln.sameB _ rfl, Ln.sameB _ rfl, True.intro⟩ rfl ?_) | ((refine FCall.give [] [] (copyG_ok f s hn n1) rfl rfl True.intro ⟨Ln.A, True.intro⟩ ?_); rintro _ _ ⟨rfl, rfl⟩; (refine ⟨by first | exact Nat.le_of_ble_eq_true rfl | omega, .inl rfl, ?_⟩)) | (with_reducible refine FOr.pub ?_)))
            all_goals (try (conv => whnf))
            refine FWk.of [(3, .ptr 0 0), (5, .ptr 1 0), (7, .ptr 2 0)] [.box 3 (cStd f s), .box 2 (ofL [AI t, .bool u]), .box 3 (cStd ⟨false, false, false, decide (s.rg.length = 0)⟩ (addG E m))] [0, 2, 4] (Cut.of (Nat.le_of_ble_eq_true rfl) rfl rfl (CutL.turned rfl LnB.A (CutL.turned rfl LnB.A (CutL.turned rfl (LnB.boxN ⟨⟨⟨True.intro, Ln.int hEt.symm⟩, Ln.pubE (goneB rfl) rfl (Nat.le_refl _) (by show _ = (E.sg ++ [m]).length; rw [List.length_append, List.length_singleton, hEl]) (addG_row hEl.symm (fun k hk o ho => by rw [hEs]))⟩, by show Ln _ _ _ (aRngs _ _ s.rg) (aRngs _ _ E.rg); rw [hEr]; exact Ln.sameB _ rfl⟩) CutL.done)))) allA ?_
            have cK := refCheck_ok ⟨false, false, false, decide (s.rg.length = 0)⟩ (addG E m) hnA
            by_cases hok : (addG E m).ok = true
            · rw [check_ok' hok] at cK
              (repeat' ((try (conv => whnf)); first | (with_reducible first | refine FCond.tA ?_ | refine FCond.fA ?_) | ((with_reducible refine FCond.i (fun hq => ?_) (fun hq => ?_)) <;> (try simp only [zA, zE, zD, zJ, zB, zI, Int.not_le, Int.not_lt] at hq)) | (with_reducible first | refine Fits.in64 (by omega) ?_ | refine FIdx.nat (by omega) ?_ | refine FIdx.int (by omega) ?_ | refine FTo.nat (by omega) ?_ | refine FTo.int (by omega) ?_) | ((with_reducible refine Need.mk ?_ ?_); focus exact needA) | (with_reducible refine FApp.grow ?_) | (refine FCall.pure (cK) ⟨Ln.sameB _ rfl, True.intro⟩ rfl ?_) | (with_reducible refine FOr.pub ?_)))
              all_goals (try (conv => whnf))
              refine FWk.of [(3, .ptr 0 0), (5, .ptr 1 0), (7, .ptr 2 0)] [.box 3 (cStd f s), .box 2 (ofL [AI t, .bool u]), .box 3 (cStd ⟨false, false, false, decide (s.rg.length = 0)⟩ (addG E m))] [0, 1, 2] Cut.A allA ?_
              have he2 := easier_trans he (addG_easier E m)
              have cP := plan_yes f s hn hk
              have cQ := plan_yes ⟨false, false, false, decide (s.rg.length = 0)⟩ (addG E m) hnA hok
              have hT2 : t < Std.T (addG E m) := by
                have : Std.T (addG E m) = s.T := by unfold Std.T; rw [Easier.times he2]
                omega
              have cX := most_yes f s hn hk t (by omega) u
              have cY := most_yes ⟨false, false, false, decide (s.rg.length = 0)⟩ (addG E m) hnA hok t hT2 u
              have cM := isMore_ok (bestW (addG E m)).u (bestW (addG E m)).o (bestW s).u (bestW s).o
              rw [show (Wt.mk (bestW s).u (bestW s).o).lt ⟨(bestW (addG E m)).u, (bestW (addG E m)).o⟩ = false from easier_best he2] at cM
              have hmost := easier_most he2 t u
              (repeat' ((try (conv => whnf)); first | (with_reducible first | refine FCond.tA ?_ | refine FCond.fA ?_) | ((with_reducible refine FCond.i (fun hq => ?_) (fun hq => ?_)) <;> (try simp only [zA, zE, zD, zJ, zB, zI, Int.not_le, Int.not_lt] at hq)) | (with_reducible first | refine Fits.in64 (by omega) ?_ | refine FIdx.nat (by omega) ?_ | refine FIdx.int (by omega) ?_ | refine FTo.nat (by omega) ?_ | refine FTo.int (by omega) ?_) | ((with_reducible refine Need.mk ?_ ?_); focus exact needA) | (with_reducible refine FApp.grow ?_) | (refine FCall.pure (cP) ⟨Ln.sameB _ rfl, True.intro⟩ rfl ?_) | (refine FCall.pure (cQ) ⟨Ln.sameB _ rfl, True.intro⟩ rfl ?_) | (refine FCall.pure (cX) ⟨Ln.sameB _ rfl, Ln.sameB _ rfl, Ln.sameB _ rfl, True.intro⟩ rfl ?_) | (refine FCall.pure (cY) ⟨Ln.sameB _ rfl, Ln.sameB _ rfl, Ln.sameB _ rfl, True.intro⟩ rfl ?_) | (refine FCall.pure (cM) ⟨Ln.sameB _ rfl, Ln.sameB _ rfl, Ln.sameB _ rfl, Ln.sameB _ rfl, True.intro⟩ rfl ?_) | (refine FCall.pure works_ok True.intro rfl ?_) | (with_reducible refine FOr.pub ?_)))
              all_goals (try (conv => whnf))
              all_goals ((refine ⟨⟨_, [], [], Cut.nil _, Ln.sameB _ rfl, ?_, rfl⟩⟩); rfl)

            · rw [check_60 (by simpa using hok)] at cK
              have hl : (addG E m).sg.length = E.sg.length + 1 := (by show (E.sg ++ [m]).length = _; simp)
              (repeat' ((try (conv => whnf)); first | (with_reducible first | refine FCond.tA ?_ | refine FCond.fA ?_) | ((with_reducible refine FCond.i (fun hq => ?_) (fun hq => ?_)) <;> (try simp only [zA, zE, zD, zJ, zB, zI, Int.not_le, Int.not_lt] at hq)) | (with_reducible first | refine Fits.in64 (by omega) ?_ | refine FIdx.nat (by omega) ?_ | refine FIdx.int (by omega) ?_ | refine FTo.nat (by omega) ?_ | refine FTo.int (by omega) ?_) | ((with_reducible refine Need.mk ?_ ?_); focus exact needA) | (with_reducible refine FApp.grow ?_) | (refine FCall.pure (cK) ⟨Ln.sameB _ rfl, True.intro⟩ rfl ?_) | (with_reducible refine FOr.pub ?_)))
              all_goals (try (conv => whnf))
              refine FWk.of [(3, .ptr 0 0), (5, .ptr 1 0), (7, .ptr 2 0)] [.box 3 (cStd f s), .box 2 (ofL [AI t, .bool u]), .box 3 (cStd ⟨false, false, false, decide (s.rg.length = 0)⟩ E)] [0, 1, 2] (Cut.of (Nat.le_of_ble_eq_true rfl) rfl rfl (CutL.turned rfl LnB.A (CutL.turned rfl LnB.A (CutL.turned rfl (LnB.boxN ⟨⟨⟨True.intro, Ln.A⟩, Ln.slE (by show _ = E.sg.length; omega) (fun k hk o ho => by
                  have hkE : k < E.sg.length := by omega
                  show cSgn (E.sg.getD k sg0) o = cSgn ((E.sg ++ [m]).getD k sg0) o
                  rw [sg_snoc (by omega), if_pos hkE])⟩, Ln.A⟩) CutL.done)))) allA ?_
              have cP := plan_yes f s hn hk
              have cQ := plan_yes ⟨false, false, false, decide (s.rg.length = 0)⟩ E hnE hke
              have hT2 : t < Std.T E := by
                have : Std.T E = s.T := by unfold Std.T; rw [Easier.times he]
                omega
              have cX := most_yes f s hn hk t (by omega) u
              have cY := most_yes ⟨false, false, false, decide (s.rg.length = 0)⟩ E hnE hke t hT2 u
              have cM := isMore_ok (bestW E).u (bestW E).o (bestW s).u (bestW s).o
              rw [show (Wt.mk (bestW s).u (bestW s).o).lt ⟨(bestW E).u, (bestW E).o⟩ = false from easier_best he] at cM
              have hmost := easier_most he t u
              (repeat' ((try (conv => whnf)); first | (with_reducible first | refine FCond.tA ?_ | refine FCond.fA ?_) | ((with_reducible refine FCond.i (fun hq => ?_) (fun hq => ?_)) <;> (try simp only [zA, zE, zD, zJ, zB, zI, Int.not_le, Int.not_lt] at hq)) | (with_reducible first | refine Fits.in64 (by omega) ?_ | refine FIdx.nat (by omega) ?_ | refine FIdx.int (by omega) ?_ | refine FTo.nat (by omega) ?_ | refine FTo.int (by omega) ?_) | ((with_reducible refine Need.mk ?_ ?_); focus exact needA) | (with_reducible refine FApp.grow ?_) | (refine FCall.pure (cP) ⟨Ln.sameB _ rfl, True.intro⟩ rfl ?_) | (refine FCall.pure (cQ) ⟨Ln.sameB _ rfl, True.intro⟩ rfl ?_) | (refine FCall.pure (cX) ⟨Ln.sameB _ rfl, Ln.sameB _ rfl, Ln.sameB _ rfl, True.intro⟩ rfl ?_) | (refine FCall.pure (cY) ⟨Ln.sameB _ rfl, Ln.sameB _ rfl, Ln.sameB _ rfl, True.intro⟩ rfl ?_) | (refine FCall.pure (cM) ⟨Ln.sameB _ rfl, Ln.sameB _ rfl, Ln.sameB _ rfl, Ln.sameB _ rfl, True.intro⟩ rfl ?_) | (refine FCall.pure works_ok True.intro rfl ?_) | (with_reducible refine FOr.pub ?_)))
              all_goals (try (conv => whnf))
              all_goals ((refine ⟨⟨_, [], [], Cut.nil _, Ln.sameB _ rfl, ?_, rfl⟩⟩); rfl)
      · (repeat' ((try (conv => whnf)); first | (with_reducible first | refine FCond.tA ?_ | refine FCond.fA ?_) | ((with_reducible refine FCond.i (fun hq => ?_) (fun hq => ?_)) <;> (try simp only [zA, zE, zD, zJ, zB, zI, Int.not_le, Int.not_lt] at hq)) | (with_reducible first | refine Fits.in64 (by omega) ?_ | refine FIdx.nat (by omega) ?_ | refine FIdx.int (by omega) ?_ | refine FTo.nat (by omega) ?_ | refine FTo.int (by omega) ?_) | ((with_reducible refine Need.mk ?_ ?_); focus exact needA) | (with_reducible refine FApp.grow ?_) | (refine FCall.pure (cV) ⟨Ln.sameB _ rfl, True.intro⟩ rfl ?_) | (refine FCall.pure (c1) ⟨Ln.sameB _ rfl, Ln.sameB _ rfl, True.intro⟩ rfl ?_) | (refine FCall.pure works_ok True.intro rfl ?_) | (with_reducible refine FOr.pub ?_)))
        all_goals (try (conv => whnf))
        all_goals first | (exfalso; omega) | ((refine ⟨⟨_, [], [], Cut.nil _, Ln.sameB _ rfl, ?_, rfl⟩⟩); rfl)
    · rw [if_neg ht] at c1
      (repeat' ((try (conv => whnf)); first | (with_reducible first | refine FCond.tA ?_ | refine FCond.fA ?_) | ((with_reducible refine FCond.i (fun hq => ?_) (fun hq => ?_)) <;> (try simp only [zA, zE, zD, zJ, zB, zI, Int.not_le, Int.not_lt] at hq)) | (with_reducible first | refine Fits.in64 (by omega) ?_ | refine FIdx.nat (by omega) ?_ | refine FIdx.int (by omega) ?_ | refine FTo.nat (by omega) ?_ | refine FTo.int (by omega) ?_) | ((with_reducible refine Need.mk ?_ ?_); focus exact needA) | (with_reducible refine FApp.grow ?_) | (refine FCall.pure (cV) ⟨Ln.sameB _ rfl, True.intro⟩ rfl ?_) | (refine FCall.pure (c1) ⟨Ln.sameB _ rfl, Ln.sameB _ rfl, True.intro⟩ rfl ?_) | (refine FCall.pure works_ok True.intro rfl ?_) | (with_reducible refine FOr.pub ?_)))
      all_goals (try (conv => whnf))
      all_goals ((refine ⟨⟨_, [], [], Cut.nil _, Ln.sameB _ rfl, ?_, rfl⟩⟩); rfl)
end Go.Proofs.Ytnghcfmloljagaa

namespace Go.Proofs.Ytnghcfmloljagaa
open Go.RowKit

theorem wr_C (s : Std) (g t : Int) : (wr s g t).C = s.C + 1 := List.length_append
theorem wr_R {s : Std} {g t : Int} {c : Nat} (hc : c < s.C) : (wr s g t).R c = s.R c := by
  unfold Std.R wr
  simp only
  rw [rng_snoc (by have : c < s.rg.length := hc; omega), if_pos (show c < s.rg.length from hc)]
theorem wr_Rn (s : Std) (g t : Int) : (wr s g t).R s.C = ⟨g, t, true⟩ := by
  unfold Std.R wr Std.C
  simp only
  rw [rng_snoc (by omega), if_neg (by omega)]
theorem wr_can {s : Std} {g t : Int} {i c : Nat} {u : Int} (hc : c < s.C) : canA (wr s g t) i u c = canA s i u c := by
  unfold canA
  rw [wr_R hc]
  rfl
/-- The time of an answer, or the end. -/
def atT (s : Std) (x : Option (Nat × Nat)) : Int := match x with | some p => (p.2 : Int) | none => s.times
theorem wr_total {s : Std} {g t : Int} (a : Asg) : total (wr s g t) a = (total s (a.put s.C none)).add ⟨atT s (a s.C) - t, 0⟩ := by
  unfold total
  rw [wr_C]
  simp only [sumW]
  have e1 : sumW (fun c => match a c with | some p => ((wr s g t).R c).w p.2 | none => ((wr s g t).R c).w (wr s g t).times) s.C = sumW (fun c => match a.put s.C none c with | some p => (s.R c).w p.2 | none => (s.R c).w s.times) s.C := by
    refine sumW_congr fun c hc => ?_
    have : a.put s.C none c = a c := by unfold Asg.put; rw [if_neg (by omega)]
    rw [this, wr_R hc]
    rfl
  have e2 : (match a s.C with | some p => ((wr s g t).R s.C).w p.2 | none => ((wr s g t).R s.C).w (wr s g t).times) = ⟨atT s (a s.C) - t, 0⟩ := by
    rw [wr_Rn]
    cases a s.C <;> rfl
  exact congr (congrArg Wt.add e1) e2
theorem wr_isM {s : Std} {g t : Int} {S : Nat} {a : Asg} (h : IsM (wr s g t) (AllD (wr s g t)) S a) : IsM s (AllD s) S (a.put s.C none) := by
  refine ⟨fun c => ?_, fun c p hp => ?_, fun c c' p h1 h2 => ?_⟩
  · unfold Asg.put
    by_cases e : c = s.C
    · rw [if_pos e]; simp [e]
    · rw [if_neg e, h.dom c, wr_C]
      constructor
      · rintro h1 ⟨h2, h3⟩; exact h1 ⟨by omega, h3⟩
      · rintro h1 ⟨h2, h3⟩; exact h1 ⟨by omega, h3⟩
  · unfold Asg.put at hp
    by_cases e : c = s.C
    · rw [if_pos e] at hp; cases hp
    · rw [if_neg e] at hp
      obtain ⟨h1, h2⟩ := h.can c p hp
      have := (isM_some h hp).1
      rw [wr_C] at this
      exact ⟨h1, by rw [← wr_can (g := g) (t := t) (by omega)]; exact h2⟩
  · unfold Asg.put at h1 h2
    by_cases e : c = s.C
    · rw [if_pos e] at h1; cases h1
    · rw [if_neg e] at h1
      by_cases e' : c' = s.C
      · rw [if_pos e'] at h2; cases h2
      · rw [if_neg e'] at h2
        exact h.inj c c' p h1 h2
theorem wr_parts {s : Std} {g t : Int} (ht : t ≤ s.times) : ∃ w : Wt, (bestW s).u ≤ w.u ∧ (bestW (wr s g t)).u = w.u + (atT s (bestA (wr s g t) s.C) - t) ∧ t ≤ atT s (bestA (wr s g t) s.C) := by
  obtain ⟨⟨S, h1⟩, h2, _⟩ := best_ok (wr s g t)
  have h3 := (best_ok s).2.2 _ _ (wr_isM h1)
  refine ⟨total s ((bestA (wr s g t)).put s.C none), ?_, ?_, ?_⟩
  · rw [nlt_iff] at h3; omega
  · rw [← h2, wr_total]; rfl
  · cases e : bestA (wr s g t) s.C with
    | none => exact ht
    | some p =>
      have := (h1.can _ _ e).2
      have := (canA_d this).2.2
      rw [wr_Rn] at this
      exact this
/-- The emergencies wait no less with one more. -/
theorem wr_le {s : Std} {g t : Int} (ht : t ≤ s.times) : (bestW s).u ≤ (bestW (wr s g t)).u := by
  obtain ⟨w, h1, h2, h3⟩ := wr_parts (g := g) ht
  omega
/-- If they wait no longer altogether, the new one is answered at once. -/
theorem wr_at {s : Std} {g t : Int} (ht : t < s.times) (h : (bestW (wr s g t)).u ≤ (bestW s).u) : ((bestL (wr s g t)).getD s.C na).t = t := by
  obtain ⟨w, h1, h2, h3⟩ := wr_parts (g := g) (t := t) (s := s) (by omega)
  unfold bestL
  rw [encL_get (by rw [wr_C]; omega)]
  have e : atT s (bestA (wr s g t) s.C) = t := by omega
  cases hb : bestA (wr s g t) s.C with
  | none => rw [hb] at e; simp only [atT] at e; omega
  | some p => rw [hb] at e; exact e
theorem freeK_mem {s : Std} {g : Int} {t k : Nat} : (t : Int) ∈ freeK s g k ↔ t < k ∧ (bestW (wr s g t)).u ≤ (bestW s).u := by
  unfold freeK
  simp only [List.mem_map, List.mem_filter, List.mem_range, decide_eq_true_eq]
  constructor
  · rintro ⟨a, ⟨h1, h2⟩, h3⟩
    obtain rfl : a = t := by omega
    exact ⟨h1, h2⟩
  · rintro ⟨h1, h2⟩
    exact ⟨t, ⟨h1, h2⟩, rfl⟩
theorem freeK_sorted (s : Std) (g : Int) (k : Nat) : (freeK s g k).Pairwise (· < ·) := by
  unfold freeK
  rw [List.pairwise_map]
  refine (List.Pairwise.filter _ (List.pairwise_lt_range (n := k))).imp ?_
  intro a b h
  omega
theorem freeK_get {s : Std} {g : Int} {k i : Nat} (hi : i < (freeK s g k).length) : 0 ≤ (freeK s g k).getD i 0 ∧ (freeK s g k).getD i 0 < k := by
  have hm : (freeK s g k).getD i 0 ∈ freeK s g k := by simp [List.getD, List.getElem?_eq_getElem hi]
  generalize (freeK s g k).getD i 0 = x at hm
  unfold freeK at hm
  simp only [List.mem_map, List.mem_filter, List.mem_range] at hm
  obtain ⟨a, ⟨h1, _⟩, rfl⟩ := hm
  omega
theorem freeK_lt {s : Std} {g : Int} {k i j : Nat} (hij : i < j) (hj : j < (freeK s g k).length) : (freeK s g k).getD i 0 < (freeK s g k).getD j 0 := by
  have h := List.pairwise_iff_getElem.1 (freeK_sorted s g k) i j (by omega) hj hij
  simp only [List.getD, List.getElem?_eq_getElem hj, List.getElem?_eq_getElem (show i < (freeK s g k).length by omega), Option.getD_some]
  exact h
set_option maxHeartbeats 4000000
set_option maxRecDepth 100000
abbrev f000 : StF := ⟨false, false, false, false⟩
/-- With: one more emergency. -/
theorem with_ok (f : StF) (s : Std) (hn : NearS s) (ha : 0 < s.sg.length) (g t : Int) : ACall Try.prog 22 [aStd f s, AI g, AI t] [] (fun v h => v = aStd f000 (wr s g t) ∧ h = []) := by
  have h1 := hn.n
  have h2 := hn.c
  have hlw : (wr s g t).rg.length = s.rg.length + 1 := List.length_append
  (refine fcall_of mixed Try.func22 rfl (by decide) (hs := {}) ?k (ac := ?ac) ?c (rs := ?rs) ?r ?l ?H; (case k => kernel_rfl); (case c => (conv => (lhs; cbv))); (case r => (conv => (lhs; cbv))); (case l => exact Nat.le_of_ble_eq_true rfl))
  rcases Nat.eq_zero_or_pos s.rg.length with hb | hb
  · have cK := copy_a0 f s ⟨ha, h1⟩ hb
    have e : s.rg = [] := List.eq_nil_of_length_eq_zero hb
    (repeat' ((try (conv => whnf)); first | (with_reducible first | refine FCond.tA ?_ | refine FCond.fA ?_) | ((with_reducible refine FCond.i (fun hq => ?_) (fun hq => ?_)) <;> (try simp only [zA, zE, zD, zJ, zB, zI, Int.not_le, Int.not_lt] at hq)) | (with_reducible first | refine Fits.in64 (by omega) ?_ | refine FIdx.nat (by omega) ?_ | refine FIdx.int (by omega) ?_ | refine FTo.nat (by omega) ?_ | refine FTo.int (by omega) ?_) | ((with_reducible refine Need.mk ?_ ?_); focus exact needA) | (with_reducible refine FApp.grow ?_) | ((refine FCall.give [] [] (cK) rfl rfl True.intro ⟨Ln.A, True.intro⟩ ?_); rintro _ _ ⟨rfl, rfl⟩; (refine ⟨by first | exact Nat.le_of_ble_eq_true rfl | omega, .inl rfl, ?_⟩)) | (refine Need.mk ⟨Or.inr rfl, by unfold maxLen; simp, by simp⟩ ?_) | (with_reducible refine FOr.pub ?_)))
    all_goals (try (conv => whnf))
    exact ⟨⟨aStd f000 (wr s g t), [], [], Cut.nil _, Ln.aggN ⟨⟨⟨True.intro, Ln.A⟩, Ln.pubE (goneB rfl) rfl (Nat.le_refl _) rfl (fun _ _ _ _ => rfl)⟩, Ln.pubE (goneB rfl) rfl (Nat.le_refl _) (show _ = (s.rg ++ [(⟨g, t, true⟩ : Rng)]).length by rw [e]; rfl) (by
      show ∀ k, k < _ → ∀ o, o < 3 → cRng ((s.rg ++ [(⟨g, t, true⟩ : Rng)]).getD k rg0) o = _
      rw [e]
      exact wr_row (l := []) fun _ _ _ _ => rfl)⟩, rfl, rfl⟩⟩
  · have cK := copy_ab f s ⟨ha, h1⟩ ⟨hb, h2⟩
    (repeat' ((try (conv => whnf)); first | (with_reducible first | refine FCond.tA ?_ | refine FCond.fA ?_) | ((with_reducible refine FCond.i (fun hq => ?_) (fun hq => ?_)) <;> (try simp only [zA, zE, zD, zJ, zB, zI, Int.not_le, Int.not_lt] at hq)) | (with_reducible first | refine Fits.in64 (by omega) ?_ | refine FIdx.nat (by omega) ?_ | refine FIdx.int (by omega) ?_ | refine FTo.nat (by omega) ?_ | refine FTo.int (by omega) ?_) | ((with_reducible refine Need.mk ?_ ?_); focus exact needA) | (with_reducible refine FApp.grow ?_) | ((refine FCall.give [] [] (cK) rfl rfl True.intro ⟨Ln.A, True.intro⟩ ?_); rintro _ _ ⟨rfl, rfl⟩; (refine ⟨by first | exact Nat.le_of_ble_eq_true rfl | omega, .inl rfl, ?_⟩)) | (with_reducible refine FOr.pub ?_)))
    all_goals (try (conv => whnf))
    exact ⟨⟨aStd f000 (wr s g t), [], [], Cut.nil _, Ln.aggN ⟨⟨⟨True.intro, Ln.A⟩, Ln.pubE (goneB rfl) rfl (Nat.le_refl _) rfl (fun _ _ _ _ => rfl)⟩, Ln.pubE (goneB rfl) rfl (Nat.le_refl _) hlw.symm (wr_row fun _ _ _ _ => rfl)⟩, rfl, rfl⟩⟩
end Go.Proofs.Ytnghcfmloljagaa

namespace Go.Proofs.Ytnghcfmloljagaa
open Go.RowKit

theorem take_mem {l : List Int} {t : Int} {i : Nat} (hi : i < l.length) : (t ∈ l.take (i + 1)) ↔ (t ∈ l.take i ∨ l.getD i 0 = t) := by
  rw [List.take_succ_eq_append_getElem hi, List.mem_append, List.mem_singleton]
  simp only [List.getD, List.getElem?_eq_getElem hi, Option.getD_some]
  rw [eq_comm]
set_option maxHeartbeats 8000000
set_option maxRecDepth 100000
theorem free_sl (f : StF) (s : Std) (hn : NearS s) (hc : s.C ≤ 11) (hk : s.ok = true) (g : Int) (hg : 0 ≤ g ∧ g ≤ 4) : ACall Try.prog 21 [aStd f s, AI g] [] (fun r h => r = .tup 2 (ofL [aInts (freeK s g s.T).isEmpty (freeK s g s.T).isEmpty (freeK s g s.T), AI 0]) ∧ h = []) := by
  have h := free_ok f s hn (fun _ => hc) g
  have e : freeE s g = (freeK s g s.T, 0) := by unfold freeE; rw [if_pos hk, if_pos hg]
  rw [e] at h
  refine ACall.wk (ACall.mono' _ ?_ h)
  rintro _ _ ⟨rfl, rfl⟩
  exact ⟨_, [], [], Cut.nil _, Ln.tupN ⟨⟨True.intro, Ln.out _⟩, Ln.A⟩, rfl, rfl⟩
theorem atonce_any (f : StF) (s : Std) (hM : Mach s) (g t : Int) : ACall Try.prog 5 [aStd f s, AI g, AI t] [] (fun v h => v = .bool true ∧ h = []) := by
  have cV := valid_ok f s hM.n hM.c
  (refine fcall_of mixed Try.func5 rfl (by decide) (hs := {}) ?k (ac := ?ac) ?c (rs := ?rs) ?r ?l ?H; (case k => kernel_rfl); (case c => (conv => (lhs; cbv))); (case r => (conv => (lhs; cbv))); (case l => exact Nat.le_of_ble_eq_true rfl))
  cases hv : validS s
  · rw [hv] at cV
    (repeat' ((try (conv => whnf)); first | (with_reducible first | refine FCond.tA ?_ | refine FCond.fA ?_) | ((with_reducible refine FCond.i (fun hq => ?_) (fun hq => ?_)) <;> (try simp only [zA, zE, zD, zJ, zB, zI, Int.not_le, Int.not_lt] at hq)) | (with_reducible first | refine Fits.in64 (by omega) ?_ | refine FIdx.nat (by omega) ?_ | refine FIdx.int (by omega) ?_ | refine FTo.nat (by omega) ?_ | refine FTo.int (by omega) ?_) | ((with_reducible refine Need.mk ?_ ?_); focus exact needA) | (with_reducible refine FApp.grow ?_) | (refine FCall.pure (cV) ⟨Ln.sameB _ rfl, True.intro⟩ rfl ?_) | (refine FCall.pure works_ok True.intro rfl ?_) | (with_reducible refine FOr.pub ?_)))
    all_goals (try (conv => whnf))
    all_goals ((refine ⟨⟨_, [], [], Cut.nil _, Ln.sameB _ rfl, ?_, rfl⟩⟩); rfl)
  · rw [hv] at cV
    obtain ⟨hf, hk⟩ := valid_d hv
    have hn := near_of hf
    have hs := std_d hk
    have cT := checkTime_ok f s hn t
    have tt := hs.t
    have t8 := hs.t8
    by_cases h5 : 5 < s.rg.length
    · (repeat' ((try (conv => whnf)); first | (with_reducible first | refine FCond.tA ?_ | refine FCond.fA ?_) | ((with_reducible refine FCond.i (fun hq => ?_) (fun hq => ?_)) <;> (try simp only [zA, zE, zD, zJ, zB, zI, Int.not_le, Int.not_lt] at hq)) | (with_reducible first | refine Fits.in64 (by omega) ?_ | refine FIdx.nat (by omega) ?_ | refine FIdx.int (by omega) ?_ | refine FTo.nat (by omega) ?_ | refine FTo.int (by omega) ?_) | ((with_reducible refine Need.mk ?_ ?_); focus exact needA) | (with_reducible refine FApp.grow ?_) | (refine FCall.pure (cV) ⟨Ln.sameB _ rfl, True.intro⟩ rfl ?_) | (refine FCall.pure works_ok True.intro rfl ?_) | (with_reducible refine FOr.pub ?_)))
      all_goals (try (conv => whnf))
      all_goals ((refine ⟨⟨_, [], [], Cut.nil _, Ln.sameB _ rfl, ?_, rfl⟩⟩); rfl)
    by_cases hg0 : g < 0
    · (repeat' ((try (conv => whnf)); first | (with_reducible first | refine FCond.tA ?_ | refine FCond.fA ?_) | ((with_reducible refine FCond.i (fun hq => ?_) (fun hq => ?_)) <;> (try simp only [zA, zE, zD, zJ, zB, zI, Int.not_le, Int.not_lt] at hq)) | (with_reducible first | refine Fits.in64 (by omega) ?_ | refine FIdx.nat (by omega) ?_ | refine FIdx.int (by omega) ?_ | refine FTo.nat (by omega) ?_ | refine FTo.int (by omega) ?_) | ((with_reducible refine Need.mk ?_ ?_); focus exact needA) | (with_reducible refine FApp.grow ?_) | (refine FCall.pure (cV) ⟨Ln.sameB _ rfl, True.intro⟩ rfl ?_) | (refine FCall.pure works_ok True.intro rfl ?_) | (with_reducible refine FOr.pub ?_)))
      all_goals (try (conv => whnf))
      all_goals ((refine ⟨⟨_, [], [], Cut.nil _, Ln.sameB _ rfl, ?_, rfl⟩⟩); rfl)
    by_cases hg4 : 5 ≤ g
    · (repeat' ((try (conv => whnf)); first | (with_reducible first | refine FCond.tA ?_ | refine FCond.fA ?_) | ((with_reducible refine FCond.i (fun hq => ?_) (fun hq => ?_)) <;> (try simp only [zA, zE, zD, zJ, zB, zI, Int.not_le, Int.not_lt] at hq)) | (with_reducible first | refine Fits.in64 (by omega) ?_ | refine FIdx.nat (by omega) ?_ | refine FIdx.int (by omega) ?_ | refine FTo.nat (by omega) ?_ | refine FTo.int (by omega) ?_) | ((with_reducible refine Need.mk ?_ ?_); focus exact needA) | (with_reducible refine FApp.grow ?_) | (refine FCall.pure (cV) ⟨Ln.sameB _ rfl, True.intro⟩ rfl ?_) | (refine FCall.pure works_ok True.intro rfl ?_) | (with_reducible refine FOr.pub ?_)))
      all_goals (try (conv => whnf))
      all_goals ((refine ⟨⟨_, [], [], Cut.nil _, Ln.sameB _ rfl, ?_, rfl⟩⟩); rfl)
    by_cases ht : 0 ≤ t ∧ t < s.times
    · rw [show checkT s t = 0 from by unfold checkT; rw [if_pos hk, if_pos ht]] at cT
      have c11 : s.C ≤ 11 := by show s.rg.length ≤ 11; omega
      have hw := wr_ok hk c11 (show 0 ≤ g ∧ g ≤ 4 by omega) (show 0 ≤ t ∧ t ≤ s.times - 1 by omega)
      have hsw := std_d hw
      have hCl : (wr s g t).rg.length = s.rg.length + 1 := List.length_append
      have hnw : NearS (wr s g t) := ⟨hn.n, by omega⟩
      have n1 : 0 < s.sg.length := hs.n1
      have cF := free_sl f s hn c11 hk g (by omega)
      have cW := with_ok f s hn n1 g t
      have cP := plan_yes f s hn hk
      have cQ := plan_yes f000 (wr s g t) hnw hw
      have cA := areRight_ok f000 (wr s g t) hsw false false (bestL (wr s g t)) (bestL_len hsw)
      rw [right_d.2 (bestL_right (wr s g t))] at cA
      have hbl : (bestL (wr s g t)).length = s.rg.length + 1 := by rw [(bestL_right (wr s g t)).len]; exact hCl
      have hle := wr_le (s := s) (g := g) (t := t) (by omega)
      have hfl := freeK_len s g s.T
      obtain ⟨l, hl⟩ : ∃ l, freeK s g s.T = l := ⟨_, rfl⟩
      have hget : ∀ i, i < l.length → 0 ≤ l.getD i 0 ∧ l.getD i 0 < s.times := fun i hi => by
        rw [← hl] at hi ⊢
        have := freeK_get hi
        omega
      have hinc : ∀ i, i + 1 < l.length → l.getD i 0 < l.getD (i + 1) 0 := fun i hi => by
        rw [← hl] at hi ⊢
        exact freeK_lt (Nat.lt_succ_self i) hi
      have hmem : t ∈ l ↔ (bestW (wr s g t)).u ≤ (bestW s).u := by
        have := freeK_mem (s := s) (g := g) (t := t.toNat) (k := s.T)
        rw [show ((t.toNat : Nat) : Int) = t by omega, hl] at this
        rw [this]
        constructor
        · exact fun h => h.2
        · exact fun h => ⟨by omega, h⟩
      rw [hl] at cF hfl
      (repeat' ((try (conv => whnf)); first | (with_reducible first | refine FCond.tA ?_ | refine FCond.fA ?_) | ((with_reducible refine FCond.i (fun hq => ?_) (fun hq => ?_)) <;> (try simp only [zA, zE, zD, zJ, zB, zI, Int.not_le, Int.not_lt] at hq)) | (with_reducible first | refine Fits.in64 (by omega) ?_ | refine FIdx.nat (by omega) ?_ | refine FIdx.int (by omega) ?_ | refine FTo.nat (by omega) ?_ | refine FTo.int (by omega) ?_) | ((with_reducible refine Need.mk ?_ ?_); focus exact needA) | (with_reducible refine FApp.grow ?_) | (refine FCall.pure (cV) ⟨Ln.sameB _ rfl, True.intro⟩ rfl ?_) | (refine FCall.pure (cT) ⟨Ln.sameB _ rfl, Ln.sameB _ rfl, True.intro⟩ rfl ?_) | (refine FCall.pure (cF) ⟨Ln.sameB _ rfl, Ln.sameB _ rfl, True.intro⟩ rfl ?_) | (refine FCall.pure (cW) ⟨Ln.sameB _ rfl, Ln.sameB _ rfl, Ln.sameB _ rfl, True.intro⟩ rfl ?_) | (refine FCall.pure (cP) ⟨Ln.sameB _ rfl, True.intro⟩ rfl ?_) | (refine FCall.pure (cQ) ⟨Ln.sameB _ rfl, True.intro⟩ rfl ?_) | (refine FCall.pure (cA) ⟨Ln.sameB _ rfl, Ln.sameB _ rfl, True.intro⟩ rfl ?_) | (with_reducible refine FOr.pub ?_)))
      all_goals (try (conv => whnf))
      refine FLoop.of (ACalls.mono _) (X := Nat) (fun i => [(2, AI t), (3, .ptr 0 0), (7, aInts l.isEmpty l.isEmpty l), (11, AI (bestW s).u), (14, aAns false false (bestL (wr s g t))), (15, AI (bestW (wr s g t)).u), (18, .bool (decide (t ∈ l.take i))), (19, AI i)]) (fun i => [.box 3 (cStd f s)]) (fun i => i ≤ l.length) (fun i => l.length - i) 0 ⟨Nat.zero_le _, [0], Cut.A, allA⟩ ?_
      intro i hi
      by_cases hlt : i < l.length
      · have hgi := hget i hlt
        have hst := take_mem (t := t) hlt
        rcases i with _ | i
        · cases hm : decide (t ∈ l.take 0)
          · have hs' : decide (t ∈ l.take (0 + 1)) = decide (l.getD 0 0 = t) := decide_eq_decide.2 (by rw [hst]; simp)
            (repeat' ((try (conv => whnf)); first | (with_reducible first | refine FCond.tA ?_ | refine FCond.fA ?_) | ((with_reducible refine FCond.i (fun hq => ?_) (fun hq => ?_)) <;> (try simp only [zA, zE, zD, zJ, zB, zI, Int.not_le, Int.not_lt] at hq)) | (with_reducible first | refine Fits.in64 (by omega) ?_ | refine FIdx.nat (by omega) ?_ | refine FIdx.int (by omega) ?_ | refine FTo.nat (by omega) ?_ | refine FTo.int (by omega) ?_) | ((with_reducible refine Need.mk ?_ ?_); focus exact needA) | (with_reducible refine FApp.grow ?_) | (with_reducible refine FOr.pub ?_)))
            all_goals (try (conv => whnf))
            all_goals exact ⟨⟨0 + 1, hlt, by omega, [0], Cut.A, ⟨Ln.A, Ln.A, Ln.A, Ln.A, Ln.A, Ln.A, Ln.bool (by first | (rw [hs']; done) | (rw [hs']; rfl)), Ln.A, True.intro⟩⟩⟩
          · simp at hm
        · have hii : l.getD (((i + 1 : Nat) : Int) - 1).toNat 0 < l.getD (i + 1) 0 := by
            rw [show (((i + 1 : Nat) : Int) - 1).toNat = i by omega]
            exact hinc i hlt
          cases hm : decide (t ∈ l.take (i + 1))
          · have hs' : decide (t ∈ l.take (i + 1 + 1)) = decide (l.getD (i + 1) 0 = t) := decide_eq_decide.2 (by rw [hst]; simp at hm; simp [hm])
            (repeat' ((try (conv => whnf)); first | (with_reducible first | refine FCond.tA ?_ | refine FCond.fA ?_) | ((with_reducible refine FCond.i (fun hq => ?_) (fun hq => ?_)) <;> (try simp only [zA, zE, zD, zJ, zB, zI, Int.not_le, Int.not_lt] at hq)) | (with_reducible first | refine Fits.in64 (by omega) ?_ | refine FIdx.nat (by omega) ?_ | refine FIdx.int (by omega) ?_ | refine FTo.nat (by omega) ?_ | refine FTo.int (by omega) ?_) | ((with_reducible refine Need.mk ?_ ?_); focus exact needA) | (with_reducible refine FApp.grow ?_) | (with_reducible refine FOr.pub ?_)))
            all_goals (try (conv => whnf))
            all_goals exact ⟨⟨(i + 1) + 1, hlt, by omega, [0], Cut.A, ⟨Ln.A, Ln.A, Ln.A, Ln.A, Ln.A, Ln.A, Ln.bool (by first | (rw [hs']; done) | (rw [hs']; rfl)), Ln.A, True.intro⟩⟩⟩
          · have hs' : decide (t ∈ l.take (i + 1 + 1)) = true := decide_eq_true (by rw [hst]; simp at hm; exact .inl hm)
            (repeat' ((try (conv => whnf)); first | (with_reducible first | refine FCond.tA ?_ | refine FCond.fA ?_) | ((with_reducible refine FCond.i (fun hq => ?_) (fun hq => ?_)) <;> (try simp only [zA, zE, zD, zJ, zB, zI, Int.not_le, Int.not_lt] at hq)) | (with_reducible first | refine Fits.in64 (by omega) ?_ | refine FIdx.nat (by omega) ?_ | refine FIdx.int (by omega) ?_ | refine FTo.nat (by omega) ?_ | refine FTo.int (by omega) ?_) | ((with_reducible refine Need.mk ?_ ?_); focus exact needA) | (with_reducible refine FApp.grow ?_) | (with_reducible refine FOr.pub ?_)))
            all_goals (try (conv => whnf))
            all_goals exact ⟨⟨(i + 1) + 1, hlt, by omega, [0], Cut.A, ⟨Ln.A, Ln.A, Ln.A, Ln.A, Ln.A, Ln.A, Ln.bool (by first | (rw [hs']; done) | (rw [hs']; rfl)), Ln.A, True.intro⟩⟩⟩
      · obtain rfl : i = l.length := by omega
        rw [List.take_length]
        have hix : (((bestL (wr s g t)).length : Int) - 1).toNat = s.C := by show _ = s.rg.length; omega
        by_cases hm : t ∈ l
        · have hu := hmem.1 hm
          have he : (bestW (wr s g t)).u = (bestW s).u := by omega
          have hat := wr_at ht.2 hu
          rw [show decide (t ∈ l) = true from decide_eq_true hm]
          (repeat' ((try (conv => whnf)); first | (with_reducible first | refine FCond.tA ?_ | refine FCond.fA ?_) | ((with_reducible refine FCond.i (fun hq => ?_) (fun hq => ?_)) <;> (try simp only [zA, zE, zD, zJ, zB, zI, Int.not_le, Int.not_lt] at hq)) | (with_reducible first | refine Fits.in64 (by omega) ?_ | refine FIdx.nat (by omega) ?_ | refine FIdx.int (by omega) ?_ | refine FTo.nat (by omega) ?_ | refine FTo.int (by omega) ?_) | ((with_reducible refine Need.mk ?_ ?_); focus exact needA) | (with_reducible refine FApp.grow ?_) | (refine FCall.pure works_ok True.intro rfl ?_) | (with_reducible refine FOr.pub ?_)))
          all_goals (try (conv => whnf))
          all_goals first | ((refine ⟨⟨_, [], [], Cut.nil _, Ln.sameB _ rfl, ?_, rfl⟩⟩); rfl; done) | (exfalso; revert hq; rw [hix]; exact fun h => h hat) | (exfalso; revert hq; simp [he]; done)
        · have hu : ¬ (bestW (wr s g t)).u ≤ (bestW s).u := fun h => hm (hmem.2 h)
          have he : ¬ (bestW (wr s g t)).u = (bestW s).u := by omega
          rw [show decide (t ∈ l) = false from decide_eq_false hm]
          (repeat' ((try (conv => whnf)); first | (with_reducible first | refine FCond.tA ?_ | refine FCond.fA ?_) | ((with_reducible refine FCond.i (fun hq => ?_) (fun hq => ?_)) <;> (try simp only [zA, zE, zD, zJ, zB, zI, Int.not_le, Int.not_lt] at hq)) | (with_reducible first | refine Fits.in64 (by omega) ?_ | refine FIdx.nat (by omega) ?_ | refine FIdx.int (by omega) ?_ | refine FTo.nat (by omega) ?_ | refine FTo.int (by omega) ?_) | ((with_reducible refine Need.mk ?_ ?_); focus exact needA) | (with_reducible refine FApp.grow ?_) | (refine FCall.pure works_ok True.intro rfl ?_) | (with_reducible refine FOr.pub ?_)))
          all_goals (try (conv => whnf))
          all_goals first | ((refine ⟨⟨_, [], [], Cut.nil _, Ln.sameB _ rfl, ?_, rfl⟩⟩); rfl; done) | (exfalso; revert hq; simp [he]; done)
    · rw [show checkT s t = 1 from by unfold checkT; rw [if_pos hk, if_neg ht]] at cT
      (repeat' ((try (conv => whnf)); first | (with_reducible first | refine FCond.tA ?_ | refine FCond.fA ?_) | ((with_reducible refine FCond.i (fun hq => ?_) (fun hq => ?_)) <;> (try simp only [zA, zE, zD, zJ, zB, zI, Int.not_le, Int.not_lt] at hq)) | (with_reducible first | refine Fits.in64 (by omega) ?_ | refine FIdx.nat (by omega) ?_ | refine FIdx.int (by omega) ?_ | refine FTo.nat (by omega) ?_ | refine FTo.int (by omega) ?_) | ((with_reducible refine Need.mk ?_ ?_); focus exact needA) | (with_reducible refine FApp.grow ?_) | (refine FCall.pure (cV) ⟨Ln.sameB _ rfl, True.intro⟩ rfl ?_) | (refine FCall.pure (cT) ⟨Ln.sameB _ rfl, Ln.sameB _ rfl, True.intro⟩ rfl ?_) | (refine FCall.pure works_ok True.intro rfl ?_) | (with_reducible refine FOr.pub ?_)))
      all_goals (try (conv => whnf))
      all_goals ((refine ⟨⟨_, [], [], Cut.nil _, Ln.sameB _ rfl, ?_, rfl⟩⟩); rfl)
end Go.Proofs.Ytnghcfmloljagaa

namespace Go.Proofs.Ytnghcfmloljagaa
open Go.RowKit

/-- All calls of a set can be answered at one time, by the last k signers. -/
def seatK (s : Std) (t : Nat) : Nat → Nat → Bool
  | 0, S => decide (S = 0)
  | k + 1, S => decide (S = 0) || ((List.range s.C).any fun c => S.testBit c && canA s (s.n - (k + 1)) t c && seatK s t k (rem S c)) || seatK s t k S
def atD (s : Std) (t k : Nat) (p : Nat × Nat) : Prop := s.n - k ≤ p.1 ∧ p.1 < s.n ∧ p.2 = t
theorem zero_bits {S n : Nat} (h : S < 2 ^ n) (hb : ∀ c, c < n → S.testBit c = false) : S = 0 := by
  apply Nat.eq_of_testBit_eq
  intro i
  rw [Nat.zero_testBit]
  rcases Nat.lt_or_ge i n with hi | hi
  · exact hb i hi
  · exact Nat.testBit_lt_two_pow (Nat.lt_of_lt_of_le h (Nat.pow_le_pow_right (by omega) hi))
theorem seatK_iff (s : Std) (t : Nat) : ∀ k, k ≤ s.n → ∀ S, S < 2 ^ s.C → (seatK s t k S = true ↔ ∃ a, IsM s (atD s t k) S a)
  | 0, _, S, hS => by
    simp only [seatK, decide_eq_true_eq]
    constructor
    · rintro rfl
      exact ⟨_, isM_empty s _⟩
    · rintro ⟨a, ha⟩
      refine zero_bits hS fun c hc => ?_
      by_cases hb : S.testBit c = true
      · obtain ⟨p, hp⟩ := isM_get ha hc hb
        have := (ha.can c p hp).1
        unfold atD at this
        omega
      · simpa using hb
  | k + 1, hk, S, hS => by
    have hD : ∀ p, atD s t (k + 1) p ↔ atD s t k p ∨ p = (s.n - (k + 1), t) := fun p => by
      obtain ⟨i, u⟩ := p
      unfold atD
      simp only [Prod.mk.injEq]
      omega
    have hN : ¬ atD s t k (s.n - (k + 1), t) := by unfold atD; simp only; omega
    simp only [seatK, Bool.or_eq_true, decide_eq_true_eq, List.any_eq_true, List.mem_range, Bool.and_eq_true]
    constructor
    · rintro ((rfl | ⟨c, hc, ⟨h1, h2⟩, h3⟩) | h)
      · exact ⟨_, isM_empty s _⟩
      · obtain ⟨a, ha⟩ := (seatK_iff s t k (by omega) _ (rem_lt hS)).1 h3
        exact ⟨_, isM_mono (isM_give (p := (s.n - (k + 1), t)) ha hc h1 h2 hN) fun p hp => (hD p).2 hp⟩
      · obtain ⟨a, ha⟩ := (seatK_iff s t k (by omega) _ hS).1 h
        exact ⟨a, isM_mono ha fun p hp => (hD p).2 (.inl hp)⟩
    · rintro ⟨a, ha⟩
      have ha' := isM_mono ha fun p hp => (hD p).1 hp
      by_cases hc : ∃ c, a c = some (s.n - (k + 1), t)
      · obtain ⟨c, hc⟩ := hc
        have hb := isM_some ha hc
        exact .inl (.inr ⟨c, hb.1, ⟨hb.2, (ha.can c _ hc).2⟩, (seatK_iff s t k (by omega) _ (rem_lt hS)).2 ⟨_, isM_take ha' hc⟩⟩)
      · exact .inr ((seatK_iff s t k (by omega) _ hS).2 ⟨a, isM_skip ha' fun c h => hc ⟨c, h⟩⟩)
/-- The sets that can be answered at a time, below a bound. -/
def togK (s : Std) (t m : Nat) : List Nat := (List.range m).filter (seatK s t s.n)
abbrev togL (s : Std) (t : Nat) : List Nat := togK s t (2 ^ s.C)
theorem togL_mem {s : Std} {t B : Nat} : B ∈ togL s t ↔ B < 2 ^ s.C ∧ ∃ a, IsM s (atD s t s.n) B a := by
  unfold togL togK
  rw [List.mem_filter, List.mem_range]
  constructor
  · rintro ⟨h1, h2⟩; exact ⟨h1, (seatK_iff s t s.n (Nat.le_refl _) B h1).1 h2⟩
  · rintro ⟨h1, h2⟩; exact ⟨h1, (seatK_iff s t s.n (Nat.le_refl _) B h1).2 h2⟩
theorem togK_succ (s : Std) (t m : Nat) : togK s t (m + 1) = if seatK s t s.n m then togK s t m ++ [m] else togK s t m := by
  unfold togK
  rw [List.range_succ, List.filter_append]
  cases h : seatK s t s.n m <;> simp [h]
theorem togK_len (s : Std) (t m : Nat) : (togK s t m).length ≤ m := by
  unfold togK
  exact Nat.le_trans (List.length_filter_le _ _) (by simp)
theorem togK_lt {s : Std} {t m k : Nat} (h : k < (togK s t m).length) : (togK s t m).getD k 0 < m := by
  have : (togK s t m).getD k 0 ∈ togK s t m := by simp [List.getD, List.getElem?_eq_getElem h]
  unfold togK at this
  exact List.mem_range.1 (List.mem_filter.1 this).1
/-- How much waiting counts. -/
def cst (w : Wt) : Int := w.u * 1000 + w.o
theorem cst_add (a b : Wt) : cst (a.add b) = cst a + cst b := by unfold cst; simp only [add_u, add_o]; omega
def costI (s : Std) (c : Nat) (w : Int) : Int := if (s.R c).urg then w * 1000 else w
theorem costI_cst (s : Std) (c : Nat) (t : Int) : costI s c (t - (s.R c).at_) = cst ((s.R c).w t) := by
  unfold costI cst Rng.w
  cases (s.R c).urg <;> simp
/-- What the first calls of a set cost that is answered at a time. -/
def setC (s : Std) (t B : Nat) : Nat → Int
  | 0 => 0
  | c + 1 => setC s t B c + if B.testBit c then costI s c ((t : Int) - (s.R c).at_) else 0
/-- What the first calls cost that are not in a set. -/
def offC (s : Std) (S : Nat) : Nat → Int
  | 0 => 0
  | c + 1 => offC s S c + if S.testBit c then 0 else costI s c (s.times - (s.R c).at_)
theorem offC_left (s : Std) (S : Nat) : offC s S s.C = cst (left s S) := by
  unfold left
  generalize s.C = k
  induction k with
  | zero => rfl
  | succ k ih =>
    simp only [offC, sumW, cst_add, ih]
    cases S.testBit k
    · rw [if_neg (by simp), if_neg (by simp), costI_cst]
    · rw [if_pos rfl, if_pos rfl]; rfl
/-- What ways to answer a set at one time cost. -/
theorem setC_part {s : Std} {t k B : Nat} {a : Asg} (h : IsM s (atD s t k) B a) : setC s t B s.C = cst (part s a) := by
  unfold part
  have : ∀ m, m ≤ s.C → setC s t B m = cst (sumW (fun c => match a c with | some p => (s.R c).w p.2 | none => w0) m) := by
    intro m
    induction m with
    | zero => intro _; rfl
    | succ m ih =>
      intro hm
      simp only [setC, sumW, cst_add]
      rw [ih (by omega)]
      congr 1
      cases e : a m with
      | none =>
        have := (h.dom m).1 e
        rw [if_neg (fun hb => this ⟨by omega, hb⟩)]
        rfl
      | some p =>
        rw [if_pos (isM_some h e).2, costI_cst, ← (h.can m p e).1.2.2]
  exact this s.C (Nat.le_refl _)
theorem part_bd {s : Std} (hs : StdOk s) {D : Nat × Nat → Prop} {S : Nat} {a : Asg} (h : IsM s D S a) (hD : ∀ p, D p → p.1 < s.n) : (0 ≤ (part s a).u ∧ (part s a).u ≤ 96) ∧ 0 ≤ (part s a).o ∧ (part s a).o ≤ 96 := by
  have key : ∀ m, m ≤ s.C → (0 ≤ (sumW (fun c => match a c with | some p => (s.R c).w p.2 | none => w0) m).u ∧ (sumW (fun c => match a c with | some p => (s.R c).w p.2 | none => w0) m).u ≤ 8 * m) ∧ 0 ≤ (sumW (fun c => match a c with | some p => (s.R c).w p.2 | none => w0) m).o ∧ (sumW (fun c => match a c with | some p => (s.R c).w p.2 | none => w0) m).o ≤ 8 * m := by
    intro m
    induction m with
    | zero => intro _; simp only [sumW, w0_u, w0_o]; omega
    | succ m ih =>
      intro hm
      have ih := ih (by omega)
      simp only [sumW, add_u, add_o]
      cases e : a m with
      | none => simp only [w0_u, w0_o]; omega
      | some p =>
        have h2 := (h.can m p e)
        have h3 := canA_d h2.2
        have h4 := can_time hs (hD p h2.1) h2.2
        have h5 := hs.rg m (by omega)
        have t8 := hs.t8
        have tt := hs.t
        simp only
        have hw : (0 ≤ ((s.R m).w (p.2 : Int)).u ∧ ((s.R m).w (p.2 : Int)).u ≤ 8) ∧ 0 ≤ ((s.R m).w (p.2 : Int)).o ∧ ((s.R m).w (p.2 : Int)).o ≤ 8 := by
          unfold Rng.w
          split <;> simp only <;> omega
        omega
  have h1 : (0 ≤ (part s a).u ∧ (part s a).u ≤ 8 * (s.C : Int)) ∧ 0 ≤ (part s a).o ∧ (part s a).o ≤ 8 * (s.C : Int) := key s.C (Nat.le_refl _)
  have h2 := hs.c12
  omega
theorem cst_bd {w : Wt} (h : (0 ≤ w.u ∧ w.u ≤ 96) ∧ 0 ≤ w.o ∧ w.o ≤ 96) : 0 ≤ cst w ∧ cst w ≤ 96096 := by unfold cst; omega
/-- The least cost of ways to answer a set at spots of some kind (10 ^ 6: there are none). -/
structure Lst (s : Std) (D : Nat × Nat → Prop) (S : Nat) (x : Int) : Prop where
  le : ∀ a, IsM s D S a → x ≤ cst (part s a)
  is : x = 1000000 ∨ ∃ a, IsM s D S a ∧ x = cst (part s a)
/-- The spots before a time. -/
def befD (s : Std) (t : Nat) (p : Nat × Nat) : Prop := p.1 < s.n ∧ p.2 < t
theorem bef_part {s : Std} (hs : StdOk s) {t S : Nat} {a : Asg} (h : IsM s (befD s t) S a) : 0 ≤ cst (part s a) ∧ cst (part s a) ≤ 96096 := cst_bd (part_bd hs h fun _ hp => hp.1)
theorem Lst.small {s : Std} (hs : StdOk s) {t S : Nat} {x : Int} (h : Lst s (befD s t) S x) : (x < 1000000 ↔ ∃ a, IsM s (befD s t) S a) := by
  constructor
  · intro hx
    rcases h.is with e | ⟨a, h1, _⟩
    · omega
    · exact ⟨a, h1⟩
  · rintro ⟨a, ha⟩
    have := h.le a ha
    have := bef_part hs ha
    omega
/-- Two ways at spots of two kinds. -/
def joinA (a b : Asg) : Asg := fun c => match a c with | some p => some p | none => b c
theorem join_isM {s : Std} {D E F : Nat × Nat → Prop} {A B : Nat} {a b : Asg} (ha : IsM s D A a) (hb : IsM s E B b) (hDE : ∀ p, D p → E p → False) (hD : ∀ p, D p → F p) (hE : ∀ p, E p → F p) : IsM s F (A ||| B) (joinA a b) := by
  refine ⟨fun c => ?_, fun c p hp => ?_, fun c c' p h1 h2 => ?_⟩
  · unfold joinA
    rw [Nat.testBit_or]
    cases e : a c with
    | none =>
      have := (ha.dom c).1 e
      simp only [hb.dom c, Bool.or_eq_true]
      constructor
      · rintro h ⟨h1, h2 | h2⟩
        · exact this ⟨h1, h2⟩
        · exact h ⟨h1, h2⟩
      · rintro h ⟨h1, h2⟩
        exact h ⟨h1, .inr h2⟩
    | some p =>
      have := isM_some ha e
      simp [this]
  · unfold joinA at hp
    cases e : a c with
    | none => rw [e] at hp; obtain ⟨h1, h2⟩ := hb.can c p hp; exact ⟨hE p h1, h2⟩
    | some q => rw [e] at hp; obtain rfl := (Option.some.inj hp).symm; obtain ⟨h1, h2⟩ := ha.can c p e; exact ⟨hD p h1, h2⟩
  · unfold joinA at h1 h2
    cases e : a c with
    | none =>
      rw [e] at h1
      cases e' : a c' with
      | none => rw [e'] at h2; exact hb.inj c c' p h1 h2
      | some q => rw [e'] at h2; obtain rfl := (Option.some.inj h2).symm; exact (hDE p (ha.can c' p e').1 (hb.can c p h1).1).elim
    | some q =>
      rw [e] at h1; obtain rfl := (Option.some.inj h1).symm
      cases e' : a c' with
      | none => rw [e'] at h2; exact (hDE p (ha.can c p e).1 (hb.can c' p h2).1).elim
      | some r => rw [e'] at h2; obtain rfl := (Option.some.inj h2).symm; exact ha.inj c c' p e e'
theorem and_zero {A B c : Nat} (h : A &&& B = 0) (ha : A.testBit c = true) : B.testBit c = false := by
  have := congrArg (fun x => x.testBit c) h
  simp only [Nat.testBit_and, ha, Nat.zero_testBit, Bool.true_and] at this
  exact this
theorem join_part {s : Std} {D E : Nat × Nat → Prop} {A B : Nat} {a b : Asg} (ha : IsM s D A a) (hb : IsM s E B b) (h0 : A &&& B = 0) : part s (joinA a b) = (part s a).add (part s b) := by
  unfold part
  rw [← sumW_add]
  refine sumW_congr fun c _ => ?_
  unfold joinA
  cases e : a c with
  | none => simp only; rw [w0_add]
  | some p =>
    have h1 := and_zero h0 (isM_some ha e).2
    have : b c = none := (hb.dom c).2 (fun h => by rw [h1] at h; exact absurd h.2 (by decide))
    simp only [this]
    rw [add_w0]
/-- The ways before a time, and those at it. -/
def befA (t : Nat) (a : Asg) : Asg := fun c => match a c with | some p => if p.2 < t then some p else none | none => none
def nowA (t : Nat) (a : Asg) : Asg := fun c => match a c with | some p => if p.2 < t then none else some p | none => none
def befB (t : Nat) (a : Asg) (c : Nat) : Bool := match a c with | some p => decide (p.2 < t) | none => false
def nowB (t : Nat) (a : Asg) (c : Nat) : Bool := match a c with | some p => !decide (p.2 < t) | none => false
theorem split_isM {s : Std} {t S : Nat} {a : Asg} (h : IsM s (befD s (t + 1)) S a) (hS : S < 2 ^ s.C) : ∃ A B b c, A < 2 ^ s.C ∧ B < 2 ^ s.C ∧ IsM s (befD s t) A b ∧ IsM s (atD s t s.n) B c ∧ A &&& B = 0 ∧ A ||| B = S ∧ part s a = (part s b).add (part s c) := by
  have hA : IsM s (befD s t) (maskOf (befB t a) s.C) (befA t a) := by
    refine ⟨fun c => ?_, fun c p hp => ?_, fun c c' p h1 h2 => ?_⟩
    · rw [test_maskOf]
      unfold befA befB
      cases e : a c with
      | none => simp
      | some p =>
        have hc := (isM_some h e).1
        by_cases hp : p.2 < t <;> simp [hp, hc]
    · unfold befA at hp
      cases e : a c with
      | none => rw [e] at hp; cases hp
      | some q =>
        rw [e] at hp
        simp only at hp
        split at hp
        · rename_i hlt
          obtain rfl := (Option.some.inj hp).symm
          obtain ⟨h1, h2⟩ := h.can c p e
          exact ⟨⟨h1.1, hlt⟩, h2⟩
        · cases hp
    · have key : ∀ x p, befA t a x = some p → a x = some p := fun x p hx => by
        unfold befA at hx
        cases e : a x with
        | none => rw [e] at hx; cases hx
        | some q => rw [e] at hx; simp only at hx; split at hx <;> simp_all
      exact h.inj c c' p (key c p h1) (key c' p h2)
  have hB : IsM s (atD s t s.n) (maskOf (nowB t a) s.C) (nowA t a) := by
    refine ⟨fun c => ?_, fun c p hp => ?_, fun c c' p h1 h2 => ?_⟩
    · rw [test_maskOf]
      unfold nowA nowB
      cases e : a c with
      | none => simp
      | some p =>
        have hc := (isM_some h e).1
        by_cases hp : p.2 < t <;> simp [hp, hc]
    · unfold nowA at hp
      cases e : a c with
      | none => rw [e] at hp; cases hp
      | some q =>
        rw [e] at hp
        simp only at hp
        split at hp
        · cases hp
        · rename_i hlt
          obtain rfl := (Option.some.inj hp).symm
          obtain ⟨h1, h2⟩ := h.can c p e
          have := h1.2
          exact ⟨⟨by omega, h1.1, by omega⟩, h2⟩
    · have key : ∀ x p, nowA t a x = some p → a x = some p := fun x p hx => by
        unfold nowA at hx
        cases e : a x with
        | none => rw [e] at hx; cases hx
        | some q => rw [e] at hx; simp only at hx; split at hx <;> simp_all
      exact h.inj c c' p (key c p h1) (key c' p h2)
  refine ⟨_, _, _, _, maskOf_lt _ _, maskOf_lt _ _, hA, hB, ?_, ?_, ?_⟩
  · apply Nat.eq_of_testBit_eq
    intro c
    rw [Nat.testBit_and, test_maskOf, test_maskOf, Nat.zero_testBit]
    unfold befB nowB
    cases a c with
    | none => simp
    | some p => by_cases hp : p.2 < t <;> simp [hp]
  · apply Nat.eq_of_testBit_eq
    intro c
    rw [Nat.testBit_or, test_maskOf, test_maskOf]
    have hd := h.dom c
    unfold befB nowB
    cases e : a c with
    | none =>
      have := hd.1 e
      rcases Nat.lt_or_ge c s.C with hc | hc
      · have : S.testBit c = false := by
          cases hb : S.testBit c
          · rfl
          · exact (this ⟨hc, hb⟩).elim
        simp [this]
      · simp [Nat.testBit_lt_two_pow (Nat.lt_of_lt_of_le hS (Nat.pow_le_pow_right (by omega) hc))]
    | some p =>
      have := isM_some h e
      by_cases hp : p.2 < t <;> simp [hp, this]
  · unfold part
    rw [← sumW_add]
    refine sumW_congr fun c _ => ?_
    unfold befA nowA
    cases e : a c with
    | none => simp only; rw [w0_add]
    | some p =>
      by_cases hp : p.2 < t
      · simp only [hp, if_true]; rw [add_w0]
      · simp only [hp, if_false]; rw [w0_add]
end Go.Proofs.Ytnghcfmloljagaa

namespace Go.Proofs.Ytnghcfmloljagaa
open Go.RowKit

/-- A row in which a set may cost less. -/
def lowR (f : Nat → Int) (j : Nat) (v : Int) : Nat → Int := fun i => if i = j then min (f i) v else f i
/-- One set of before, with the first sets at a time. -/
def fK (s : Std) (b : Nat → Int) (t m : Nat) (f : Nat → Int) : Nat → Nat → Int
  | 0 => f
  | k + 1 => if 1000000 ≤ b m ∨ m &&& (togL s t).getD k 0 ≠ 0 then fK s b t m f k else lowR (fK s b t m f k) (m ||| (togL s t).getD k 0) (b m + setC s t ((togL s t).getD k 0) s.C)
/-- The first sets of before. -/
def gM (s : Std) (b : Nat → Int) (t : Nat) : Nat → Nat → Int
  | 0 => b
  | m + 1 => fK s b t m (gM s b t m) (togL s t).length
/-- The reference's rows. -/
def lst (s : Std) : Nat → Nat → Int
  | 0, S => if S = 0 then 0 else 1000000
  | t + 1, S => gM s (lst s t) t (2 ^ s.C) S
theorem lowR_le (f : Nat → Int) (j : Nat) (v : Int) (i : Nat) : lowR f j v i ≤ f i := by
  unfold lowR; split <;> omega
theorem lowR_at (f : Nat → Int) (j : Nat) (v : Int) : lowR f j v j ≤ v := by
  unfold lowR; rw [if_pos rfl]; omega
theorem lowR_is (f : Nat → Int) (j : Nat) (v : Int) (i : Nat) : lowR f j v i = f i ∨ i = j ∧ lowR f j v i = v := by
  unfold lowR
  split
  · rename_i h
    rcases Int.le_total (f i) v with h' | h'
    · exact .inl (by omega)
    · exact .inr ⟨h, by omega⟩
  · exact .inl rfl
section
variable {s : Std} {b : Nat → Int} {t : Nat}
/-- A pair of sets counts. -/
def Fits' (s : Std) (b : Nat → Int) (t m k : Nat) : Prop := b m < 1000000 ∧ m &&& (togL s t).getD k 0 = 0
theorem fK_le {m : Nat} {f : Nat → Int} (i : Nat) : ∀ k, fK s b t m f k i ≤ f i
  | 0 => Int.le_refl _
  | k + 1 => by
    simp only [fK]
    split
    · exact fK_le i k
    · exact Int.le_trans (lowR_le _ _ _ _) (fK_le i k)
theorem fK_mono {m : Nat} {f : Nat → Int} (i : Nat) {k k' : Nat} (h : k ≤ k') : fK s b t m f k' i ≤ fK s b t m f k i := by
  induction k' with
  | zero => obtain rfl : k = 0 := by omega
            exact Int.le_refl _
  | succ n ih =>
    rcases Nat.lt_or_ge n k with h' | h'
    · obtain rfl : k = n + 1 := by omega
      exact Int.le_refl _
    · refine Int.le_trans ?_ (ih h')
      simp only [fK]
      split
      · exact Int.le_refl _
      · exact lowR_le _ _ _ _
theorem fK_at {m : Nat} {f : Nat → Int} {k K : Nat} (hk : k < K) (h : Fits' s b t m k) : fK s b t m f K (m ||| (togL s t).getD k 0) ≤ b m + setC s t ((togL s t).getD k 0) s.C := by
  refine Int.le_trans (fK_mono _ hk) ?_
  simp only [fK]
  rw [if_neg (fun h' => h'.elim (fun h' => absurd h.1 (by omega)) (fun h' => h' h.2))]
  exact lowR_at _ _ _
theorem fK_is {m : Nat} {f : Nat → Int} (i : Nat) : ∀ K, fK s b t m f K i = f i ∨ ∃ k, k < K ∧ Fits' s b t m k ∧ i = m ||| (togL s t).getD k 0 ∧ fK s b t m f K i = b m + setC s t ((togL s t).getD k 0) s.C
  | 0 => .inl rfl
  | K + 1 => by
    simp only [fK]
    split
    · rcases fK_is i K with h | ⟨k, h1, h2⟩
      · exact .inl h
      · exact .inr ⟨k, by omega, h2⟩
    · rename_i hn
      rcases lowR_is (fK s b t m f K) (m ||| (togL s t).getD K 0) (b m + setC s t ((togL s t).getD K 0) s.C) i with h | ⟨h1, h2⟩
      · rw [h]
        rcases fK_is i K with h | ⟨k, h1, h2⟩
        · exact .inl h
        · exact .inr ⟨k, by omega, h2⟩
      · refine .inr ⟨K, by omega, ⟨?_, ?_⟩, h1, h2⟩
        · rcases Int.lt_or_le (b m) 1000000 with h | h
          · exact h
          · exact (hn (.inl h)).elim
        · exact Classical.byContradiction fun h => hn (.inr h)
theorem gM_le (i : Nat) : ∀ M, gM s b t M i ≤ b i
  | 0 => Int.le_refl _
  | M + 1 => Int.le_trans (fK_le i _) (gM_le i M)
theorem gM_mono (i : Nat) {m m' : Nat} (h : m ≤ m') : gM s b t m' i ≤ gM s b t m i := by
  induction m' with
  | zero => obtain rfl : m = 0 := by omega
            exact Int.le_refl _
  | succ n ih =>
    rcases Nat.lt_or_ge n m with h' | h'
    · obtain rfl : m = n + 1 := by omega
      exact Int.le_refl _
    · exact Int.le_trans (fK_le i _) (ih h')
theorem gM_at {m M k : Nat} (hm : m < M) (hk : k < (togL s t).length) (h : Fits' s b t m k) : gM s b t M (m ||| (togL s t).getD k 0) ≤ b m + setC s t ((togL s t).getD k 0) s.C :=
  Int.le_trans (gM_mono _ hm) (fK_at hk h)
theorem gM_is (i : Nat) : ∀ M, gM s b t M i = b i ∨ ∃ m k, m < M ∧ k < (togL s t).length ∧ Fits' s b t m k ∧ i = m ||| (togL s t).getD k 0 ∧ gM s b t M i = b m + setC s t ((togL s t).getD k 0) s.C
  | 0 => .inl rfl
  | M + 1 => by
    simp only [gM]
    rcases fK_is (s := s) (b := b) (t := t) (m := M) (f := gM s b t M) i (togL s t).length with h | ⟨k, h1, h2⟩
    · rw [h]
      rcases gM_is i M with h | ⟨m, k, h1, h2⟩
      · exact .inl h
      · exact .inr ⟨m, k, by omega, h2⟩
    · exact .inr ⟨M, k, by omega, h1, h2⟩
end
theorem atD_le {s : Std} {t : Nat} (p : Nat × Nat) (h : atD s t s.n p) : p.1 < s.n := h.2.1
theorem lst_ok {s : Std} (hs : StdOk s) : ∀ t S, S < 2 ^ s.C → Lst s (befD s t) S (lst s t S)
  | 0, S, hS => by
    simp only [lst]
    by_cases h : S = 0
    · subst h
      rw [if_pos rfl]
      refine ⟨fun a ha => (bef_part hs ha).1, .inr ⟨fun _ => none, isM_empty s _, ?_⟩⟩
      rw [part_none fun _ _ => rfl]; rfl
    · rw [if_neg h]
      refine ⟨fun a ha => ?_, .inl rfl⟩
      refine (h (zero_bits hS fun c hc => ?_)).elim
      by_cases hb : S.testBit c = true
      · obtain ⟨p, hp⟩ := isM_get ha hc hb
        exact (Nat.not_lt_zero _ (ha.can c p hp).1.2).elim
      · simpa using hb
  | t + 1, S, hS => by
    simp only [lst]
    have ih := lst_ok hs t
    refine ⟨fun a ha => ?_, ?_⟩
    · obtain ⟨A, B, b, c, hA, hB, h1, h2, h3, h4, h5⟩ := split_isM ha hS
      have hm : B ∈ togL s t := togL_mem.2 ⟨hB, c, h2⟩
      obtain ⟨k, hk, e⟩ := List.getElem_of_mem hm
      have e' : (togL s t).getD k 0 = B := by simp [List.getD, List.getElem?_eq_getElem hk, e]
      have hl := (ih A hA).le b h1
      have hb := bef_part hs h1
      have := gM_at (s := s) (b := lst s t) (t := t) hA hk ⟨by omega, by rw [e']; exact h3⟩
      rw [e', h4, setC_part h2] at this
      rw [h5, cst_add]
      omega
    · rcases gM_is (s := s) (b := lst s t) (t := t) S (2 ^ s.C) with h | ⟨m, k, hm, hk, ⟨hf1, hf2⟩, h1, h2⟩
      · rw [h]
        rcases (ih S hS).is with h | ⟨a, h1, h2⟩
        · exact .inl h
        · exact .inr ⟨a, isM_mono h1 fun p hp => ⟨hp.1, Nat.lt_succ_of_lt hp.2⟩, h2⟩
      · have hB := togL_mem.1 (show (togL s t).getD k 0 ∈ togL s t by simp [List.getD, List.getElem?_eq_getElem hk])
        obtain ⟨c, hc⟩ := hB.2
        rcases (ih m hm).is with e | ⟨a, h3, h4⟩
        · omega
        · refine .inr ⟨joinA a c, ?_, ?_⟩
          · rw [h1]
            exact join_isM h3 hc (fun p h5 h6 => by have := h5.2; have := h6.2.2; omega) (fun p hp => ⟨hp.1, Nat.lt_succ_of_lt hp.2⟩) (fun p hp => ⟨hp.2.1, by have := hp.2.2; omega⟩)
          · rw [h2, h4, setC_part hc, join_part h3 hc hf2, cst_add]
theorem lst_bd {s : Std} (hs : StdOk s) (t : Nat) {S : Nat} (hS : S < 2 ^ s.C) : 0 ≤ lst s t S ∧ lst s t S ≤ 1000000 := by
  rcases (lst_ok hs t S hS).is with h | ⟨a, h1, h2⟩
  · omega
  · have := bef_part hs h1
    omega
/-- The least cost over the first sets. -/
def minK (s : Std) : Nat → Int
  | 0 => 1000000
  | m + 1 => min (minK s m) (lst s s.T m + offC s m s.C)
theorem minK_le {s : Std} {S : Nat} : ∀ {m : Nat}, S < m → minK s m ≤ lst s s.T S + offC s S s.C
  | m + 1, h => by
    simp only [minK]
    rcases Nat.lt_or_ge S m with h' | h'
    · have := minK_le (s := s) h'
      omega
    · obtain rfl : S = m := by omega
      omega
theorem minK_is (s : Std) : ∀ m : Nat, minK s m = 1000000 ∨ ∃ S, S < m ∧ minK s m = lst s s.T S + offC s S s.C
  | 0 => .inl rfl
  | m + 1 => by
    simp only [minK]
    rcases Int.le_total (minK s m) (lst s s.T m + offC s m s.C) with h | h
    · rw [show min (minK s m) (lst s s.T m + offC s m s.C) = minK s m by omega]
      rcases minK_is s m with h' | ⟨S, h1, h2⟩
      · exact .inl h'
      · exact .inr ⟨S, by omega, h2⟩
    · exact .inr ⟨m, by omega, by omega⟩
theorem left_bd {s : Std} (hs : StdOk s) (S : Nat) : (0 ≤ (left s S).u ∧ (left s S).u ≤ 8 * s.C) ∧ 0 ≤ (left s S).o ∧ (left s S).o ≤ 8 * s.C := by
  have h := leftK_bd hs S s.C (Nat.le_refl _)
  rw [leftK_all] at h
  have h1 := h.u
  have h2 := h.o
  omega
theorem cst_lt {a b : Wt} (h : a.lt b = false) (ha : 0 ≤ a.o ∧ a.o < 1000) (hb : 0 ≤ b.o ∧ b.o < 1000) : cst b ≤ cst a := by
  rw [nlt_iff] at h
  unfold cst
  omega
/-- The reference's best answers wait as long as the program's. -/
theorem minK_best {s : Std} (hs : StdOk s) : minK s (2 ^ s.C) = cst (bestW s) := by
  obtain ⟨⟨S, h1⟩, h2, h3⟩ := best_ok s
  have c12 := hs.c12
  have key : ∀ S a, S < 2 ^ s.C → IsM s (AllD s) S a → cst (total s a) = cst (part s a) + offC s S s.C ∧ 0 ≤ (total s a).o ∧ (total s a).o < 1000 ∧ 0 ≤ (total s a).u ∧ (total s a).u < 900 := fun S a hS ha => by
    have e := total_part ha
    have b1 := part_bd hs ha fun p hp => hp.1
    have b2 := left_bd hs S
    rw [offC_left, e, cst_add]
    simp only [add_u, add_o]
    refine ⟨trivial, ?_⟩
    omega
  obtain ⟨S', hS', h1'⟩ := isM_lt h1
  have k1 := key S' _ hS' h1'
  have hl := (lst_ok hs s.T S' hS').le _ h1'
  have hm := minK_le (s := s) hS'
  rw [← h2]
  refine Int.le_antisymm (by omega) ?_
  rcases minK_is s (2 ^ s.C) with h | ⟨S2, h4, h5⟩
  · rw [h]; unfold cst; omega
  · rcases (lst_ok hs s.T S2 h4).is with e | ⟨a, h6, h7⟩
    · have hoff : 0 ≤ offC s S2 s.C := by rw [offC_left]; have := left_bd hs S2; unfold cst; omega
      have : cst (total s (bestA s)) ≤ 1000000 := by unfold cst; omega
      omega
    · have k2 := key S2 a h4 h6
      have := cst_lt (h3 S2 a h6) ⟨k2.2.1, k2.2.2.1⟩ (by rw [← h2]; exact ⟨k1.2.1, k1.2.2.1⟩)
      rw [← h2] at this
      omega
theorem best_o {s : Std} (hs : StdOk s) : (0 ≤ (bestW s).o ∧ (bestW s).o < 1000) ∧ 0 ≤ (bestW s).u ∧ (bestW s).u < 900 := by
  obtain ⟨⟨S, h1⟩, h2, h3⟩ := best_ok s
  have e := total_part h1
  have b1 := part_bd hs h1 fun p hp => hp.1
  have b2 := left_bd hs S
  have c12 := hs.c12
  rw [← h2, e]
  simp only [add_u, add_o]
  omega
theorem minK_div {s : Std} (hs : StdOk s) : minK s (2 ^ s.C) / 1000 = (bestW s).u ∧ minK s (2 ^ s.C) % 1000 = (bestW s).o := by
  rw [minK_best hs]
  have := best_o hs
  unfold cst
  omega
/-- The greatest number of calls that count, of the first sets. -/
def mostK (s : Std) (t : Nat) (u : Bool) : Nat → Nat
  | 0 => 0
  | m + 1 => if lst s (t + 1) m < 1000000 then max (mostK s t u m) (cntM s u m) else mostK s t u m
theorem mostK_le {s : Std} {t : Nat} {u : Bool} {S : Nat} : ∀ {m : Nat}, S < m → lst s (t + 1) S < 1000000 → cntM s u S ≤ mostK s t u m
  | m + 1, h, hl => by
    simp only [mostK]
    rcases Nat.lt_or_ge S m with h' | h'
    · have := mostK_le (u := u) h' hl
      split <;> omega
    · obtain rfl : S = m := by omega
      rw [if_pos hl]; omega
theorem mostK_is (s : Std) (t : Nat) (u : Bool) : ∀ m : Nat, mostK s t u m = 0 ∨ ∃ S, S < m ∧ lst s (t + 1) S < 1000000 ∧ mostK s t u m = cntM s u S
  | 0 => .inl rfl
  | m + 1 => by
    simp only [mostK]
    have ih := mostK_is s t u m
    split
    · rename_i hl
      rcases Nat.le_total (mostK s t u m) (cntM s u m) with h | h
      · exact .inr ⟨m, by omega, hl, by omega⟩
      · rw [show max (mostK s t u m) (cntM s u m) = mostK s t u m by omega]
        rcases ih with h' | ⟨S, h1, h2⟩
        · exact .inl h'
        · exact .inr ⟨S, by omega, h2⟩
    · rcases ih with h' | ⟨S, h1, h2⟩
      · exact .inl h'
      · exact .inr ⟨S, by omega, h2⟩
theorem mostK_most {s : Std} (hs : StdOk s) (t : Nat) (u : Bool) : mostK s t u (2 ^ s.C) = mostN s t u := by
  have hup : ∀ p, upT s t p ↔ befD s (t + 1) p := fun p => by unfold upT befD; omega
  obtain ⟨S, a, h1, h2⟩ := (mostN_is s t u).is
  refine Nat.le_antisymm ?_ ?_
  · rcases mostK_is s t u (2 ^ s.C) with h | ⟨S', h3, h4, h5⟩
    · omega
    · obtain ⟨b, hb⟩ := (Lst.small hs (lst_ok hs (t + 1) S' h3)).1 h4
      rw [h5]
      exact (mostN_is s t u).le S' b (isM_mono hb fun p hp => (hup p).2 hp)
  · obtain ⟨S', hS', h3⟩ := isM_lt h1
    have := mostK_le (u := u) hS' ((Lst.small hs (lst_ok hs (t + 1) S' hS')).2 ⟨a, isM_mono h3 fun p hp => (hup p).1 hp⟩)
    rw [← h2]
    refine Nat.le_trans (Nat.le_of_eq ?_) this
    refine cntB_congr fun c hc => ?_
    have e1 := h1.dom c
    have e2 := h3.dom c
    have : S.testBit c = S'.testBit c := by
      cases e : a c with
      | none =>
        have x1 := e1.1 e
        have x2 := e2.1 e
        cases y1 : S.testBit c
        · cases y2 : S'.testBit c
          · rfl
          · exact (x2 ⟨hc, y2⟩).elim
        · exact (x1 ⟨hc, y1⟩).elim
      | some p => rw [(isM_some h1 e).2, (isM_some h3 e).2]
    rw [this]
end Go.Proofs.Ytnghcfmloljagaa

namespace Go.Proofs.Ytnghcfmloljagaa
open Go.RowKit

/-- Some call of the set is answered first. -/
def firstC (s : Std) (t k S c : Nat) : Bool := S.testBit c && canA s (s.n - (k + 1)) t c && seatK s t k (rem S c)
theorem seatK_0 (s : Std) (t : Nat) : ∀ k, seatK s t k 0 = true
  | 0 => rfl
  | k + 1 => by simp [seatK]
theorem seatK_yes {s : Std} {t k S c : Nat} (hc : c < s.C) (h : firstC s t k S c = true) : seatK s t (k + 1) S = true := by
  simp only [seatK, Bool.or_eq_true, List.any_eq_true, List.mem_range]
  exact .inl (.inr ⟨c, hc, h⟩)
theorem seatK_no {s : Std} {t k S : Nat} (h0 : S ≠ 0) (h : ∀ c, c < s.C → firstC s t k S c = false) : seatK s t (k + 1) S = seatK s t k S := by
  have : ((List.range s.C).any fun c => S.testBit c && canA s (s.n - (k + 1)) t c && seatK s t k (rem S c)) = false := by
    rw [List.any_eq_false]
    intro c hc
    have := h c (List.mem_range.1 hc)
    unfold firstC at this
    rw [this]; decide
  simp only [seatK]
  rw [this, decide_eq_false h0]
  rfl
set_option maxHeartbeats 8000000
set_option maxRecDepth 100000
abbrev SeatC (f : StF) (s : Std) (t k : Nat) : Prop := ∀ i : Nat, i + k = s.n → ∀ S : Nat, S < 2 ^ s.C → ACall Try.prog 84 [aStd f s, AI S, AI i, AI t] [] (fun r h => r = .bool (seatK s t k S) ∧ h = [])
theorem seats_0 (f : StF) (s : Std) (hs : StdOk s) (t : Nat) : SeatC f s t 0 := by
  intro i hi S hS
  have c12 : s.rg.length ≤ 12 := hs.c12
  have n4 : s.sg.length ≤ 4 := hs.n4
  have hnl : s.n = s.sg.length := rfl
  have hp := Nat.pow_le_pow_right (show 0 < 2 by decide) c12
  have hcl : s.C = s.rg.length := rfl
  have hS' : S < 2 ^ s.rg.length := hS
  (refine fcall_of mixed Try.func84 rfl (by decide) (hs := {}) ?k (ac := ?ac) ?c (rs := ?rs) ?r ?l ?H; (case k => kernel_rfl); (case c => (conv => (lhs; cbv))); (case r => (conv => (lhs; cbv))); (case l => exact Nat.le_of_ble_eq_true rfl))
  by_cases h0 : S = 0
  · subst h0
    (repeat' ((try (conv => whnf)); first | (with_reducible first | refine FCond.tA ?_ | refine FCond.fA ?_) | ((with_reducible refine FCond.i (fun hq => ?_) (fun hq => ?_)) <;> (try simp only [zA, zE, zD, zJ, zB, zI, Int.not_le, Int.not_lt] at hq)) | (with_reducible first | refine Fits.in64 (by omega) ?_ | refine FIdx.nat (by omega) ?_ | refine FIdx.int (by omega) ?_ | refine FTo.nat (by omega) ?_ | refine FTo.int (by omega) ?_) | ((with_reducible refine Need.mk ?_ ?_); focus exact needA) | (with_reducible first | refine FBit.hasT rfl (by assumption) ?_ | refine FBit.hasF rfl (by assumption) ?_ | refine FBit.shrN rfl (by omega) ?_ | refine FBit.half rfl ?_ | refine FBit.shl1 rfl (by omega) ?_ | refine Fits.inU (by omega) ?_ | refine FBit.shrNI rfl (by omega) ?_ | refine FBit.shrIN rfl (by omega) (by omega) ?_ | refine FBit.shrI rfl (by omega) (by omega) ?_ | refine FBit.shl1I rfl (by omega) ?_) | (with_reducible refine FBit.has rfl (fun hq => ?_) (fun hq => ?_)) | (with_reducible first | refine FBit.and1 rfl ?_ | refine FBit.andN rfl (by omega) (by omega) ?_ | refine FBit.orN rfl (by omega) (by omega) ?_ | refine FBit.andNotN rfl (by omega) (by omega) ?_) | (with_reducible refine FApp.grow ?_) | (with_reducible refine FOr.pub ?_)))
    all_goals (try (conv => whnf))
    all_goals ((refine ⟨⟨_, [], [], Cut.nil _, Ln.sameB _ rfl, ?_, rfl⟩⟩); rfl)
  · have hv : seatK s t 0 S = false := by unfold seatK; exact decide_eq_false h0
    rw [hv]
    (repeat' ((try (conv => whnf)); first | (with_reducible first | refine FCond.tA ?_ | refine FCond.fA ?_) | ((with_reducible refine FCond.i (fun hq => ?_) (fun hq => ?_)) <;> (try simp only [zA, zE, zD, zJ, zB, zI, Int.not_le, Int.not_lt] at hq)) | (with_reducible first | refine Fits.in64 (by omega) ?_ | refine FIdx.nat (by omega) ?_ | refine FIdx.int (by omega) ?_ | refine FTo.nat (by omega) ?_ | refine FTo.int (by omega) ?_) | ((with_reducible refine Need.mk ?_ ?_); focus exact needA) | (with_reducible first | refine FBit.hasT rfl (by assumption) ?_ | refine FBit.hasF rfl (by assumption) ?_ | refine FBit.shrN rfl (by omega) ?_ | refine FBit.half rfl ?_ | refine FBit.shl1 rfl (by omega) ?_ | refine Fits.inU (by omega) ?_ | refine FBit.shrNI rfl (by omega) ?_ | refine FBit.shrIN rfl (by omega) (by omega) ?_ | refine FBit.shrI rfl (by omega) (by omega) ?_ | refine FBit.shl1I rfl (by omega) ?_) | (with_reducible refine FBit.has rfl (fun hq => ?_) (fun hq => ?_)) | (with_reducible first | refine FBit.and1 rfl ?_ | refine FBit.andN rfl (by omega) (by omega) ?_ | refine FBit.orN rfl (by omega) (by omega) ?_ | refine FBit.andNotN rfl (by omega) (by omega) ?_) | (with_reducible refine FApp.grow ?_) | (with_reducible refine FOr.pub ?_)))
    all_goals (try (conv => whnf))
    all_goals ((refine ⟨⟨_, [], [], Cut.nil _, Ln.sameB _ rfl, ?_, rfl⟩⟩); rfl)
theorem seats_step (f : StF) (s : Std) (hs : StdOk s) (t : Nat) (ht : t ≤ 1000) (k : Nat) (ih : SeatC f s t k) : SeatC f s t (k + 1) := by
  intro i hi S hS
  have c12 : s.rg.length ≤ 12 := hs.c12
  have n4 : s.sg.length ≤ 4 := hs.n4
  have hnl : s.n = s.sg.length := rfl
  have hp := Nat.pow_le_pow_right (show 0 < 2 by decide) c12
  have hcl : s.C = s.rg.length := rfl
  have hS' : S < 2 ^ s.rg.length := hS
  (refine fcall_of mixed Try.func84 rfl (by decide) (hs := {}) ?k (ac := ?ac) ?c (rs := ?rs) ?r ?l ?H; (case k => kernel_rfl); (case c => (conv => (lhs; cbv))); (case r => (conv => (lhs; cbv))); (case l => exact Nat.le_of_ble_eq_true rfl))
  have hik : s.n - (k + 1) = i := by omega
  by_cases h0 : S = 0
  · subst h0
    rw [seatK_0]
    (repeat' ((try (conv => whnf)); first | (with_reducible first | refine FCond.tA ?_ | refine FCond.fA ?_) | ((with_reducible refine FCond.i (fun hq => ?_) (fun hq => ?_)) <;> (try simp only [zA, zE, zD, zJ, zB, zI, Int.not_le, Int.not_lt] at hq)) | (with_reducible first | refine Fits.in64 (by omega) ?_ | refine FIdx.nat (by omega) ?_ | refine FIdx.int (by omega) ?_ | refine FTo.nat (by omega) ?_ | refine FTo.int (by omega) ?_) | ((with_reducible refine Need.mk ?_ ?_); focus exact needA) | (with_reducible first | refine FBit.hasT rfl (by assumption) ?_ | refine FBit.hasF rfl (by assumption) ?_ | refine FBit.shrN rfl (by omega) ?_ | refine FBit.half rfl ?_ | refine FBit.shl1 rfl (by omega) ?_ | refine Fits.inU (by omega) ?_ | refine FBit.shrNI rfl (by omega) ?_ | refine FBit.shrIN rfl (by omega) (by omega) ?_ | refine FBit.shrI rfl (by omega) (by omega) ?_ | refine FBit.shl1I rfl (by omega) ?_) | (with_reducible refine FBit.has rfl (fun hq => ?_) (fun hq => ?_)) | (with_reducible first | refine FBit.and1 rfl ?_ | refine FBit.andN rfl (by omega) (by omega) ?_ | refine FBit.orN rfl (by omega) (by omega) ?_ | refine FBit.andNotN rfl (by omega) (by omega) ?_) | (with_reducible refine FApp.grow ?_) | (with_reducible refine FOr.pub ?_)))
    all_goals (try (conv => whnf))
    all_goals ((refine ⟨⟨_, [], [], Cut.nil _, Ln.sameB _ rfl, ?_, rfl⟩⟩); rfl)
  · (repeat' ((try (conv => whnf)); first | (with_reducible first | refine FCond.tA ?_ | refine FCond.fA ?_) | ((with_reducible refine FCond.i (fun hq => ?_) (fun hq => ?_)) <;> (try simp only [zA, zE, zD, zJ, zB, zI, Int.not_le, Int.not_lt] at hq)) | (with_reducible first | refine Fits.in64 (by omega) ?_ | refine FIdx.nat (by omega) ?_ | refine FIdx.int (by omega) ?_ | refine FTo.nat (by omega) ?_ | refine FTo.int (by omega) ?_) | ((with_reducible refine Need.mk ?_ ?_); focus exact needA) | (with_reducible first | refine FBit.hasT rfl (by assumption) ?_ | refine FBit.hasF rfl (by assumption) ?_ | refine FBit.shrN rfl (by omega) ?_ | refine FBit.half rfl ?_ | refine FBit.shl1 rfl (by omega) ?_ | refine Fits.inU (by omega) ?_ | refine FBit.shrNI rfl (by omega) ?_ | refine FBit.shrIN rfl (by omega) (by omega) ?_ | refine FBit.shrI rfl (by omega) (by omega) ?_ | refine FBit.shl1I rfl (by omega) ?_) | (with_reducible refine FBit.has rfl (fun hq => ?_) (fun hq => ?_)) | (with_reducible first | refine FBit.and1 rfl ?_ | refine FBit.andN rfl (by omega) (by omega) ?_ | refine FBit.orN rfl (by omega) (by omega) ?_ | refine FBit.andNotN rfl (by omega) (by omega) ?_) | (with_reducible refine FApp.grow ?_) | (with_reducible refine FOr.pub ?_)))
    all_goals (try (conv => whnf))
    refine FLoop.of (ACalls.mono _) (X := Nat) (fun c => [(1, AI S), (2, AI i), (3, AI t), (4, .ptr 0 0), (9, AI c)]) (fun c => [.box 3 (cStd f s)]) (fun c => c ≤ s.rg.length ∧ ∀ d, d < c → firstC s t k S d = false) (fun c => s.rg.length - c) 0 ⟨⟨Nat.zero_le _, below_zero⟩, [0], Cut.A, allA⟩ ?_
    rintro c ⟨hc, hno⟩
    by_cases hlt : c < s.rg.length
    · have h2c : 2 ^ c < 2 ^ s.rg.length := Nat.pow_lt_pow_right (by decide) hlt
      have cH := has_ok S c (by omega)
      have cC := refCan_ok f s hs i c t (by omega) hlt
      have hrl := rem_lt (c := c) hS
      have ihr := ih (i + 1) (by omega) (rem S c) hrl
      have hf : firstC s t k S c = (S.testBit c && canA s i t c && seatK s t k (rem S c)) := by unfold firstC; rw [hik]
      cases hb : S.testBit c
      · rw [hb] at cH hf
        (repeat' ((try (conv => whnf)); first | (with_reducible first | refine FCond.tA ?_ | refine FCond.fA ?_) | ((with_reducible refine FCond.i (fun hq => ?_) (fun hq => ?_)) <;> (try simp only [zA, zE, zD, zJ, zB, zI, Int.not_le, Int.not_lt] at hq)) | (with_reducible first | refine Fits.in64 (by omega) ?_ | refine FIdx.nat (by omega) ?_ | refine FIdx.int (by omega) ?_ | refine FTo.nat (by omega) ?_ | refine FTo.int (by omega) ?_) | ((with_reducible refine Need.mk ?_ ?_); focus exact needA) | (with_reducible first | refine FBit.hasT rfl (by assumption) ?_ | refine FBit.hasF rfl (by assumption) ?_ | refine FBit.shrN rfl (by omega) ?_ | refine FBit.half rfl ?_ | refine FBit.shl1 rfl (by omega) ?_ | refine Fits.inU (by omega) ?_ | refine FBit.shrNI rfl (by omega) ?_ | refine FBit.shrIN rfl (by omega) (by omega) ?_ | refine FBit.shrI rfl (by omega) (by omega) ?_ | refine FBit.shl1I rfl (by omega) ?_) | (with_reducible refine FBit.has rfl (fun hq => ?_) (fun hq => ?_)) | (with_reducible first | refine FBit.and1 rfl ?_ | refine FBit.andN rfl (by omega) (by omega) ?_ | refine FBit.orN rfl (by omega) (by omega) ?_ | refine FBit.andNotN rfl (by omega) (by omega) ?_) | (with_reducible refine FApp.grow ?_) | (refine FCall.pure (cH) ⟨Ln.sameB _ rfl, Ln.sameB _ rfl, True.intro⟩ rfl ?_) | (with_reducible refine FOr.pub ?_)))
        all_goals (try (conv => whnf))
        exact ⟨⟨c + 1, ⟨hlt, below_step hno hf⟩, by omega, [0], Cut.A, allA⟩⟩
      · rw [hb] at cH hf
        cases hcn : canA s i t c
        · rw [hcn] at cC hf
          (repeat' ((try (conv => whnf)); first | (with_reducible first | refine FCond.tA ?_ | refine FCond.fA ?_) | ((with_reducible refine FCond.i (fun hq => ?_) (fun hq => ?_)) <;> (try simp only [zA, zE, zD, zJ, zB, zI, Int.not_le, Int.not_lt] at hq)) | (with_reducible first | refine Fits.in64 (by omega) ?_ | refine FIdx.nat (by omega) ?_ | refine FIdx.int (by omega) ?_ | refine FTo.nat (by omega) ?_ | refine FTo.int (by omega) ?_) | ((with_reducible refine Need.mk ?_ ?_); focus exact needA) | (with_reducible first | refine FBit.hasT rfl (by assumption) ?_ | refine FBit.hasF rfl (by assumption) ?_ | refine FBit.shrN rfl (by omega) ?_ | refine FBit.half rfl ?_ | refine FBit.shl1 rfl (by omega) ?_ | refine Fits.inU (by omega) ?_ | refine FBit.shrNI rfl (by omega) ?_ | refine FBit.shrIN rfl (by omega) (by omega) ?_ | refine FBit.shrI rfl (by omega) (by omega) ?_ | refine FBit.shl1I rfl (by omega) ?_) | (with_reducible refine FBit.has rfl (fun hq => ?_) (fun hq => ?_)) | (with_reducible first | refine FBit.and1 rfl ?_ | refine FBit.andN rfl (by omega) (by omega) ?_ | refine FBit.orN rfl (by omega) (by omega) ?_ | refine FBit.andNotN rfl (by omega) (by omega) ?_) | (with_reducible refine FApp.grow ?_) | (refine FCall.pure (cH) ⟨Ln.sameB _ rfl, Ln.sameB _ rfl, True.intro⟩ rfl ?_) | (refine FCall.pure (cC) ⟨Ln.sameB _ rfl, Ln.sameB _ rfl, Ln.sameB _ rfl, Ln.sameB _ rfl, True.intro⟩ rfl ?_) | (with_reducible refine FOr.pub ?_)))
          all_goals (try (conv => whnf))
          exact ⟨⟨c + 1, ⟨hlt, below_step hno hf⟩, by omega, [0], Cut.A, allA⟩⟩
        · rw [hcn] at cC hf
          cases hsk : seatK s t k (rem S c)
          · rw [hsk] at ihr hf
            (repeat' ((try (conv => whnf)); first | (with_reducible first | refine FCond.tA ?_ | refine FCond.fA ?_) | ((with_reducible refine FCond.i (fun hq => ?_) (fun hq => ?_)) <;> (try simp only [zA, zE, zD, zJ, zB, zI, Int.not_le, Int.not_lt] at hq)) | (with_reducible first | refine Fits.in64 (by omega) ?_ | refine FIdx.nat (by omega) ?_ | refine FIdx.int (by omega) ?_ | refine FTo.nat (by omega) ?_ | refine FTo.int (by omega) ?_) | ((with_reducible refine Need.mk ?_ ?_); focus exact needA) | (with_reducible first | refine FBit.hasT rfl (by assumption) ?_ | refine FBit.hasF rfl (by assumption) ?_ | refine FBit.shrN rfl (by omega) ?_ | refine FBit.half rfl ?_ | refine FBit.shl1 rfl (by omega) ?_ | refine Fits.inU (by omega) ?_ | refine FBit.shrNI rfl (by omega) ?_ | refine FBit.shrIN rfl (by omega) (by omega) ?_ | refine FBit.shrI rfl (by omega) (by omega) ?_ | refine FBit.shl1I rfl (by omega) ?_) | (with_reducible refine FBit.has rfl (fun hq => ?_) (fun hq => ?_)) | (with_reducible first | refine FBit.and1 rfl ?_ | refine FBit.andN rfl (by omega) (by omega) ?_ | refine FBit.orN rfl (by omega) (by omega) ?_ | refine FBit.andNotN rfl (by omega) (by omega) ?_) | (with_reducible refine FApp.grow ?_) | (refine FCall.pure (cH) ⟨Ln.sameB _ rfl, Ln.sameB _ rfl, True.intro⟩ rfl ?_) | (refine FCall.pure (cC) ⟨Ln.sameB _ rfl, Ln.sameB _ rfl, Ln.sameB _ rfl, Ln.sameB _ rfl, True.intro⟩ rfl ?_) | (refine FCall.pure (ihr) ⟨Ln.sameB _ rfl, Ln.sameB _ rfl, Ln.sameB _ rfl, Ln.sameB _ rfl, True.intro⟩ rfl ?_) | (refine FBit.andNotN rfl (by omega) (by omega) ?_) | (with_reducible refine FOr.pub ?_)))
            all_goals (try (conv => whnf))
            exact ⟨⟨c + 1, ⟨hlt, below_step hno hf⟩, by omega, [0], Cut.A, allA⟩⟩
          · rw [hsk] at ihr hf
            rw [seatK_yes hlt hf]
            (repeat' ((try (conv => whnf)); first | (with_reducible first | refine FCond.tA ?_ | refine FCond.fA ?_) | ((with_reducible refine FCond.i (fun hq => ?_) (fun hq => ?_)) <;> (try simp only [zA, zE, zD, zJ, zB, zI, Int.not_le, Int.not_lt] at hq)) | (with_reducible first | refine Fits.in64 (by omega) ?_ | refine FIdx.nat (by omega) ?_ | refine FIdx.int (by omega) ?_ | refine FTo.nat (by omega) ?_ | refine FTo.int (by omega) ?_) | ((with_reducible refine Need.mk ?_ ?_); focus exact needA) | (with_reducible first | refine FBit.hasT rfl (by assumption) ?_ | refine FBit.hasF rfl (by assumption) ?_ | refine FBit.shrN rfl (by omega) ?_ | refine FBit.half rfl ?_ | refine FBit.shl1 rfl (by omega) ?_ | refine Fits.inU (by omega) ?_ | refine FBit.shrNI rfl (by omega) ?_ | refine FBit.shrIN rfl (by omega) (by omega) ?_ | refine FBit.shrI rfl (by omega) (by omega) ?_ | refine FBit.shl1I rfl (by omega) ?_) | (with_reducible refine FBit.has rfl (fun hq => ?_) (fun hq => ?_)) | (with_reducible first | refine FBit.and1 rfl ?_ | refine FBit.andN rfl (by omega) (by omega) ?_ | refine FBit.orN rfl (by omega) (by omega) ?_ | refine FBit.andNotN rfl (by omega) (by omega) ?_) | (with_reducible refine FApp.grow ?_) | (refine FCall.pure (cH) ⟨Ln.sameB _ rfl, Ln.sameB _ rfl, True.intro⟩ rfl ?_) | (refine FCall.pure (cC) ⟨Ln.sameB _ rfl, Ln.sameB _ rfl, Ln.sameB _ rfl, Ln.sameB _ rfl, True.intro⟩ rfl ?_) | (refine FCall.pure (ihr) ⟨Ln.sameB _ rfl, Ln.sameB _ rfl, Ln.sameB _ rfl, Ln.sameB _ rfl, True.intro⟩ rfl ?_) | (refine FBit.andNotN rfl (by omega) (by omega) ?_) | (with_reducible refine FOr.pub ?_)))
            all_goals (try (conv => whnf))
            all_goals ((refine ⟨⟨_, [], [], Cut.nil _, Ln.sameB _ rfl, ?_, rfl⟩⟩); rfl)
    · obtain rfl : c = s.rg.length := by omega
      have ihS := ih (i + 1) (by omega) S hS
      rw [seatK_no h0 hno]
      (repeat' ((try (conv => whnf)); first | (with_reducible first | refine FCond.tA ?_ | refine FCond.fA ?_) | ((with_reducible refine FCond.i (fun hq => ?_) (fun hq => ?_)) <;> (try simp only [zA, zE, zD, zJ, zB, zI, Int.not_le, Int.not_lt] at hq)) | (with_reducible first | refine Fits.in64 (by omega) ?_ | refine FIdx.nat (by omega) ?_ | refine FIdx.int (by omega) ?_ | refine FTo.nat (by omega) ?_ | refine FTo.int (by omega) ?_) | ((with_reducible refine Need.mk ?_ ?_); focus exact needA) | (with_reducible first | refine FBit.hasT rfl (by assumption) ?_ | refine FBit.hasF rfl (by assumption) ?_ | refine FBit.shrN rfl (by omega) ?_ | refine FBit.half rfl ?_ | refine FBit.shl1 rfl (by omega) ?_ | refine Fits.inU (by omega) ?_ | refine FBit.shrNI rfl (by omega) ?_ | refine FBit.shrIN rfl (by omega) (by omega) ?_ | refine FBit.shrI rfl (by omega) (by omega) ?_ | refine FBit.shl1I rfl (by omega) ?_) | (with_reducible refine FBit.has rfl (fun hq => ?_) (fun hq => ?_)) | (with_reducible first | refine FBit.and1 rfl ?_ | refine FBit.andN rfl (by omega) (by omega) ?_ | refine FBit.orN rfl (by omega) (by omega) ?_ | refine FBit.andNotN rfl (by omega) (by omega) ?_) | (with_reducible refine FApp.grow ?_) | (refine FCall.pure (ihS) ⟨Ln.sameB _ rfl, Ln.sameB _ rfl, Ln.sameB _ rfl, Ln.sameB _ rfl, True.intro⟩ rfl ?_) | (with_reducible refine FOr.pub ?_)))
      all_goals (try (conv => whnf))
      all_goals ((refine ⟨⟨_, [], [], Cut.nil _, Ln.sameB _ rfl, ?_, rfl⟩⟩); rfl)
theorem seats_ok (f : StF) (s : Std) (hs : StdOk s) (t : Nat) (ht : t ≤ 1000) : ∀ k : Nat, SeatC f s t k
  | 0 => seats_0 f s hs t
  | k + 1 => seats_step f s hs t ht k (seats_ok f s hs t ht k)
end Go.Proofs.Ytnghcfmloljagaa
