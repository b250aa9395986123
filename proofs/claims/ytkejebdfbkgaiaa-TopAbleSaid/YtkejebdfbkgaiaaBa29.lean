/- Exams: the walk over end, where the truth is possible. / Exams: the walk over end, where the truth is possible. -/
import Derived.Test.YtkejebdfbkgaiaaBa28

namespace Go.Proofs.Ytkejebdfbkgaiaa
open Go.RowKit

theorem okB {x y : Int} : okSpan (x, y) = decide (x ≤ y) := rfl

set_option maxHeartbeats 4000000 in
set_option maxRecDepth 100000 in
theorem end_yes1 (L : Loc) (p : Paper) (S : Surv) (a b c d r : Int) (A : Option Addr) (cc : Nat) (bs : List (Int × Int)) (w0 W : World) (h : SurvAt W L p S) (hb : Bias L W A bs) (hjl : bs.length = p.judges.length) (hbl : bs.length ≤ 4) (hw : (wrongN bs bs.length : Int) ≤ p.wrong)
    (hil : p.items.length ≤ 4) (ht : ∀ k, k < p.items.length → 0 ≤ [a, b, c, d].getD k 0 ∧ [a, b, c, d].getD k 0 ≤ 30) (hP : PaperAt w0 L.iA L.jA L.gA p) (hE0 : Ext w0 W) (hB0 : w0.heap.size ≤ L.B) (hM0 : w0.heap.size ≤ L.M) (hR0 : w0.heap.size ≤ L.R) (hgl : p.grades.length ≤ 5) (hm : S.fewest ≤ (wrongN bs bs.length : Int)) :
    Calls Try.prog 67 #[.pointer (some ⟨L.B, 0, none⟩), .agg #[.int .i64 a, .int .i64 b, .int .i64 c, .int .i64 d], .int .i64 r, .slice A bs.length cc] W fun e W' => e = .returned (.tuple #[]) ∧
      SurvAt W' L p (endM p [a, b, c, d] r bs S) ∧ Only L W W' := by
  have H := Lib.hid h
  have HB := Lib.hid hb
  have HN := Lib.hid (wrongN_succ bs)
  have HL := Lib.hid (wrongN_le bs)
  have HZ := Lib.hid (show wrongN bs 0 = 0 from rfl)
  have HW := Lib.hid hw
  have HT := Lib.hid ht
  have HJ := Lib.hid hjl
  have HM := Lib.hid (show endM p [a, b, c, d] r bs S = { { S with fewest := min S.fewest (wrongN bs bs.length) } with poss := true, res := addSpan S.res r, it := itTo [a, b, c, d] r p.items.length S.it, right := rightTo bs bs.length S.right, shown := putS S.shown (gradeP p.grades r) [a, b, c, d] } by
    unfold endM; simp only []; rw [if_neg (by omega)])
  have HF := Lib.hid (fun W (h : SurvAt W L p S) (x : Int) => h.setFewest x)
  have HC := Lib.hid (fun W S (h : SurvAt W L p S) => h.cell)
  have HFr := Lib.hid (fun W S (h : SurvAt W L p S) => h.free)
  have HO := Lib.hid (fun W i (x : Value) => Only.setCell W L ⟨L.B, i, none⟩ x (.inl rfl))
  have HOR := Lib.hid (fun W i (x : Value) => Only.setCell W L ⟨L.R, i, none⟩ x (.inr (.inr rfl)))
  have HSR := Lib.hid (show ∀ W S k x X, SurvAt W L p S → SurvAt ((W.setCell ⟨L.R, k, none⟩ (.bool x)).alloc X).drew L p { S with right := S.right.set k x } from fun W S k x X h => ((h.setRight k x).ext (Ext.of_alloc _ X)).ext (Ext.refl _).drew)
  have HOD := Lib.hid (show ∀ W1 W k x X, Only L W1 W → Only L W1 ((W.setCell ⟨L.R, k, none⟩ (.bool x)).alloc X).drew from fun W1 W k x X h => (h.trans (Only.setCell W L ⟨L.R, k, none⟩ _ (.inr (.inr rfl)))).trans (Only.of_ext (Ext.of_alloc _ X).drew))
  have hltB := h.ltB
  have hltM := h.ltM
  have hltR := h.ltR
  have HG := Lib.hid (show ∀ W1 S1, SurvAt W1 L p S1 → Ext w0 W1 → Calls Try.prog 25 #[.pointer (some ⟨L.B, 0, none⟩), .int .i64 r] W1 fun e W' => e = .returned (.int .i64 (gradeP p.grades r)) ∧ W1 = W' from fun W1 S1 h1 e1 => gradeS_any L p S1 r W1 h1 (hP.grades.ext e1) hgl)
  have HX := Lib.hid (show ∀ W1, Only L W W1 → Ext w0 W1 from fun W1 o => o.ext hE0 hB0 hM0 hR0)
  clear h hb hw ht hjl hP hE0 hB0 hM0 hR0
  obtain ⟨B, M, R, rc, iA, jA, gA, ic, jc, gc⟩ := L
  simp only at *
  go_enter Try.func67, Try.ntmps67
  go_wp2
  go_loopw [8, 17] (fun n i wr => ∃ k : Nat, k ≤ bs.length ∧ i = .int .i64 k ∧ n = .int .i64 (wrongN bs k) ∧ Ext (W.alloc (.cells #[.int .i64 a, .int .i64 b, .int .i64 c, .int .i64 d] 110)) wr) (fun _ i _ => bs.length - (intOf i).toNat)
  case atStart => exact ⟨0, by omega, rfl, by rw [HZ.out]; rfl, Ext.refl _⟩
  case round =>
    obtain ⟨k, hk, rfl, rfl, hE⟩ := hrel
    have HE := Lib.hid hE
    have hle := HL.out k
    have hbr := (HB.out.only (Only.of_ext hE.unalloc)).sp
    clear hE
    by_cases hlt : k < bs.length
    · obtain ⟨b', off, x, y, rfl, _, hc1, hc2, hx⟩ := hbr.get hlt
      have HS := Lib.hid (HN.out k hlt)
      by_cases hxy : x ≤ y
      · go_wp2
        go_roundw
        case rel => exact ⟨k + 1, by omega, by go_num, by rw [HS.out, hx.out]; simp [hxy], HE.out.alloc _⟩
        case measure => simp [intOf]; omega
      · go_wp2
        go_roundw
        case rel => exact ⟨k + 1, by omega, by go_num, by rw [HS.out, hx.out]; simp [hxy], HE.out.alloc _⟩
        case measure => simp [intOf]; omega
    · obtain rfl : k = bs.length := by omega
      have hs := H.out.ext HE.out.unalloc
      obtain ⟨c0, c1, c2, c3, c4, c5, c6, c7, c8, c9⟩ := HC.out _ _ hs
      have hf := HFr.out _ _ hs 256
      have hf2 := HFr.out _ _ hs 257
      have hw := HW.out
      have hltB' : B < wr.heap.size := Nat.lt_of_lt_of_le hltB HE.out.unalloc.size
      have HS := Lib.hid hs
      have hbox := HE.out.box
      have hltW : W.heap.size < wr.heap.size := HE.out.lt
      clear hs hbr
      · have HMin := Lib.hid (show min S.fewest (wrongN bs bs.length : Int) = S.fewest by omega)
        go_wp2
        refine wp_region_tail 4 (by kernel_rfl) (by kernel_rfl) ?_
        simp only [List.take_succ_cons, List.take_zero, List.drop_succ_cons, List.drop_zero]
        iterate 4 ((with_reducible refine wpStill_step (fun K hK => ?_)); go_simp; (with_reducible refine hK _ ?_); clear hK K)
        refine wpStill_nil ?_
        have h2 := (((HF.out _ HS.out S.fewest).setPoss true).ext (Ext.of_alloc _ (.cells #[.int .i64 r, .int .i64 r] 48))).ext (Ext.refl _).drew
        have hq1 : ∀ i, ((((wr.setCell ⟨B, 256, none⟩ (.int .i64 S.fewest)).setCell ⟨B, 257, none⟩ (.bool true)).alloc (.cells #[.int .i64 r, .int .i64 r] 48)).drew).cell? ⟨wr.heap.size, i, none⟩ = #[Value.int .i64 r, .int .i64 r][i]? := fun i => by
          have := (Ext.refl (((wr.setCell ⟨B, 256, none⟩ (.int .i64 S.fewest)).setCell ⟨B, 257, none⟩ (.bool true)).alloc (.cells #[.int .i64 r, .int .i64 r] 48))).drew.box i
          simpa using this
        have hO2 : Only ⟨B, M, R, rc, iA, jA, gA, ic, jc, gc⟩ W ((((wr.setCell ⟨B, 256, none⟩ (.int .i64 S.fewest)).setCell ⟨B, 257, none⟩ (.bool true)).alloc (.cells #[.int .i64 r, .int .i64 r] 48)).drew) :=
          (((Only.of_ext HE.out.unalloc).trans (HO.out _ _ _)).trans (HO.out _ _ _)).trans (Only.of_ext ((Ext.of_alloc _ _).drew))
        have hO3 : Only ⟨B, M, R, rc, iA, jA, gA, ic, jc, gc⟩ wr ((((wr.setCell ⟨B, 256, none⟩ (.int .i64 S.fewest)).setCell ⟨B, 257, none⟩ (.bool true)).alloc (.cells #[.int .i64 r, .int .i64 r] 48)).drew) :=
          ((HO.out _ _ _).trans (HO.out _ _ _)).trans (Only.of_ext ((Ext.of_alloc _ _).drew))
        have hsz : wr.heap.size < ((((wr.setCell ⟨B, 256, none⟩ (.int .i64 S.fewest)).setCell ⟨B, 257, none⟩ (.bool true)).alloc (.cells #[.int .i64 r, .int .i64 r] 48)).drew).heap.size := by
          simp
        have hltM' : M < wr.heap.size := HS.out.ltM
        have hltR' : R < wr.heap.size := HS.out.ltR
        have hq2 : ∀ i, ((((wr.setCell ⟨B, 256, none⟩ (.int .i64 S.fewest)).setCell ⟨B, 257, none⟩ (.bool true)).alloc (.cells #[.int .i64 r, .int .i64 r] 48)).drew).cell? ⟨W.heap.size, i, none⟩ = #[Value.int .i64 a, .int .i64 b, .int .i64 c, .int .i64 d][i]? := fun i =>
          (only_cell hO3 hltW (by show _ ≠ B; omega) (by show _ ≠ M; omega) (by show _ ≠ R; omega) i).trans (hbox i)
        generalize ((((wr.setCell ⟨B, 256, none⟩ (.int .i64 S.fewest)).setCell ⟨B, 257, none⟩ (.bool true)).alloc (.cells #[.int .i64 r, .int .i64 r] 48)).drew) = w2 at *
        clear c0 c1 c2 c3 c4 c5 c6 c7 c8 c9 hf hf2 hbox
        obtain ⟨wq, hwq⟩ : ∃ wq : World, wq = wr := ⟨_, rfl⟩
        subst hwq
        have HO2 := Lib.hid hO2
        have HQ1 := Lib.hid hq1
        have HQ2 := Lib.hid hq2
        obtain ⟨cs2, hb2, hc2⟩ := h2.cs
        have HA := Lib.hid (add_any B 4 81 cs2 S.res.1 S.res.2 r r w2 hb2 hc2.c4 hc2.c5)
        have HC2 := Lib.hid hc2
        have H2 := Lib.hid h2
        clear hO2 hO3 hq1 hq2 hb2 hc2 h2
        go_wp2_with fail
        refine HA.out.mono ?_
        rintro e w3 ⟨rfl, hB3, hG3⟩
        have h3 := H2.out.own hB3 (HC2.out.res _ _) hG3 rfl rfl
        have hO3 := HO2.out.trans (Only.of_grown hG3 (.inl rfl))
        have hO4 : Only ⟨B, M, R, rc, iA, jA, gA, ic, jc, gc⟩ w2 w3 := Only.of_grown hG3 (.inl rfl)
        obtain ⟨c0, _⟩ := HC.out _ _ h3
        have H3 := Lib.hid h3
        have HO3 := Lib.hid hO3
        have HO4 := Lib.hid hO4
        clear hB3 hG3 h3 hO3 hO4
        go_wp2
        go_loopw [12, 62] (fun _ i wr => ∃ k : Nat, k ≤ p.items.length ∧ i = .int .i64 k ∧ Only ⟨B, M, R, rc, iA, jA, gA, ic, jc, gc⟩ w3 wr ∧
            SurvAt wr ⟨B, M, R, rc, iA, jA, gA, ic, jc, gc⟩ p { S with fewest := S.fewest, poss := true, res := addSpan S.res r, it := itTo [a, b, c, d] r k S.it }) (fun _ i _ => p.items.length - (intOf i).toNat)
        case atStart => exact ⟨0, by omega, rfl, Only.refl _ _, H3.out⟩
        case round =>
          obtain ⟨k, hk, rfl, hO, hs⟩ := hrel
          have HS5 := Lib.hid hs
          have HO5 := Lib.hid hO
          clear hs hO c0
          by_cases hlt : k < p.items.length
          · have hk4 : k < 4 := by omega
            obtain ⟨x, hx⟩ : ∃ x, [a, b, c, d].getD k 0 = x := ⟨_, rfl⟩
            have hxb := HT.out k hlt
            rw [hx] at hxb
            obtain ⟨m, rfl⟩ := Int.eq_ofNat_of_zero_le hxb.1
            have hm31 : m < 31 := by omega
            have hk4i : (k : Int) < 4 := by omega
            have hm31i : (m : Int) < 31 := by omega
            have hk0i : (0 : Int) ≤ (k : Int) := by omega
            have hm0i : (0 : Int) ≤ (m : Int) := by omega
            have hO6 := HO4.out.trans HO5.out
            have hqc : wr.cell? ⟨W.heap.size, k, none⟩ = some (.int .i64 (m : Int)) := by
              rw [only_cell hO6 (by omega) (by show _ ≠ B; omega) (by show _ ≠ M; omega) (by show _ ≠ R; omega), HQ2.out, ← hx]
              match k, hk4 with
              | 0, _ => rfl
              | 1, _ => rfl
              | 2, _ => rfl
              | 3, _ => rfl
            have hq5 : wr.cell? ⟨wq.heap.size, 0, none⟩ = some (.int .i64 r) := by
              rw [only_cell hO6 hsz (by show _ ≠ B; omega) (by show _ ≠ M; omega) (by show _ ≠ R; omega), HQ1.out]; rfl
            have hq6 : wr.cell? ⟨wq.heap.size, 1, none⟩ = some (.int .i64 r) := by
              rw [only_cell hO6 hsz (by show _ ≠ B; omega) (by show _ ≠ M; omega) (by show _ ≠ R; omega), HQ1.out]; rfl
            obtain ⟨cs5, hb5, hc5⟩ := HS5.out.cs
            have hb5' : Blk wr.drew B 81 cs5 := hb5
            have HA5 := Lib.hid (add_any B (6 + k * 62 + m * 2) 81 cs5 _ _ r r wr.drew hb5' (hc5.it1 k m hk4 hm31) (hc5.it2 k m hk4 hm31))
            have HC5 := Lib.hid hc5
            have HX5 := Lib.hid hx
            have hmm : ((m : Int)).toNat = m := by omega
            clear hb5 hb5' hc5 hx hxb hO6
            go_wp2
            refine wp_region_tail 10 (by kernel_rfl) (by kernel_rfl) ?_
            simp only [List.take_succ_cons, List.take_zero, List.drop_succ_cons, List.drop_zero]
            iterate 10 ((with_reducible refine wpStill_step (fun K hK => ?_)); go_simp; (with_reducible refine hK _ ?_); clear hK K)
            refine wpStill_nil ?_
            go_wp2_with fail
            refine HA5.out.mono ?_
            rintro e w5 ⟨rfl, hB6, hG6⟩
            have hs6 := (HS5.out.ext (Ext.refl _).drew).own hB6 (HC5.out.item k m hk4 hm31 _ _) hG6 rfl rfl
            have HS6 := Lib.hid hs6
            have HO6 := Lib.hid ((HO5.out.trans (Only.of_ext (Ext.refl _).drew)).trans (Only.of_grown hG6 (.inl rfl)))
            clear hB6 hG6 hs6
            go_wp2
            go_roundw
            case rel =>
              refine ⟨k + 1, by omega, by go_num, HO6.out, ?_⟩
              have e1 : itTo [a, b, c, d] r (k + 1) S.it = setIt (itTo [a, b, c, d] r k S.it) k m (addSpan (itTo [a, b, c, d] r k S.it k m) r) := by
                show setIt (itTo [a, b, c, d] r k S.it) k ([a, b, c, d].getD k 0).toNat (addSpan (itTo [a, b, c, d] r k S.it k ([a, b, c, d].getD k 0).toNat) r) = _
                rw [HX5.out, hmm]
              rw [e1]
              exact HS6.out
            case measure => simp [intOf]; omega
          · obtain rfl : k = p.items.length := by omega
            obtain ⟨wz, hwz⟩ : ∃ wz : World, wz = wr := ⟨_, rfl⟩
            subst hwz
            have HR0 := Lib.hid (show ∀ k, rightTo bs (k + 1) S.right = (rightTo bs k S.right).set k ((rightTo bs k S.right).getD k false || okSpan (bs.getD k (0, 0))) from fun k => rfl)
            have HRL := Lib.hid (fun k => rightTo_length bs k S.right)
            have HRS := Lib.hid (HS5.out.rlen)
            have HBias := Lib.hid (HB.out.only (HO3.out.trans HO5.out))
            have hq2' : ∀ W1, Only ⟨B, M, R, rc, iA, jA, gA, ic, jc, gc⟩ wz W1 → ∀ i, W1.cell? ⟨W.heap.size, i, none⟩ = #[Value.int .i64 a, .int .i64 b, .int .i64 c, .int .i64 d][i]? := fun W1 o i =>
              (only_cell ((HO4.out.trans HO5.out).trans o) (by omega) (by show _ ≠ B; omega) (by show _ ≠ M; omega) (by show _ ≠ R; omega) i).trans (HQ2.out i)
            have HQ3 := Lib.hid hq2'
            clear hq2'
            go_wp2
            go_loopw [13, 79] (fun _ i wr => ∃ k : Nat, k ≤ bs.length ∧ i = .int .i64 k ∧ Only ⟨B, M, R, rc, iA, jA, gA, ic, jc, gc⟩ wz wr ∧
                SurvAt wr ⟨B, M, R, rc, iA, jA, gA, ic, jc, gc⟩ p { S with fewest := S.fewest, poss := true, res := addSpan S.res r, it := itTo [a, b, c, d] r p.items.length S.it, right := rightTo bs k S.right }) (fun _ i _ => bs.length - (intOf i).toNat)
            case atStart => exact ⟨0, by omega, rfl, Only.refl _ _, HS5.out⟩
            case round =>
              obtain ⟨k, hk, rfl, hO, hs⟩ := hrel
              have hbr := (HBias.out.only hO).sp
              have HS7 := Lib.hid hs
              have HO7 := Lib.hid hO
              obtain ⟨_, _, _, _, d4, d5, _⟩ := HC.out _ _ hs
              have hfr := fun i => hs.right.free i
              have hltR7 : R < wr.heap.size := hs.ltR
              have hltB7 : B < wr.heap.size := hs.ltB
              by_cases hlt : k < bs.length
              · have hrl : k < (rightTo bs k S.right).length := by rw [HRL.out]; rw [HRS.out, ← HJ.out]; exact hlt
                obtain ⟨q, hq⟩ : ∃ q, (rightTo bs k S.right).getD k false = q := ⟨_, rfl⟩
                have hcr : wr.cell? ⟨R, k, none⟩ = some (.bool q) := by
                  rw [hs.right.cell, ← hq]
                  simp [rightV, List.getD, hrl]
                have hcr2 := hs.right.free k
                obtain ⟨b', off, x, y, rfl, hbb, hc1, hc2, hx⟩ := hbr.get hlt
                have HRk := Lib.hid (show rightTo bs (k + 1) S.right = (rightTo bs k S.right).set k (q || okSpan (x, y)) by rw [HR0.out, hq, hx.out])
                have hki : (k : Int) < (p.judges.length : Int) := by have := HJ.out; omega
                have hk0i : (0 : Int) ≤ (k : Int) := by omega
                have hHX := Lib.hid hx
                clear hs hO hq hfr hx
                cases q
                · by_cases hxy : x ≤ y
                  · have HXY := Lib.hid (show okSpan (x, y) = true by rw [okB]; simpa using hxy)
                    have hd : decide (x ≤ y) = true := by simpa using hxy
                    go_wp2
                    with_reducible refine wp_region_tail 20 (by kernel_rfl) (by kernel_rfl) ?_
                    simp only [List.take_succ_cons, List.take_zero, List.drop_succ_cons, List.drop_zero]
                    iterate 13 ((with_reducible refine wpStill_step (fun K hK => ?_)); go_simp; (with_reducible refine hK _ ?_); clear hK K)
                    iterate 5 ((with_reducible refine wpStill_step (fun K hK => ?_)); go_simp; (with_reducible refine hK _ ?_); clear hK K)
                    iterate 2 ((with_reducible refine wpStill_step (fun K hK => ?_)); go_simp; (with_reducible refine hK _ ?_); clear hK K)
                    refine wpStill_nil ?_
                    go_wp2
                    go_roundw
                    case rel => exact ⟨k + 1, by omega, by go_num, HOD.out _ _ _ _ _ HO7.out, by rw [HRk.out, HXY.out, Bool.false_or]; exact HSR.out _ _ _ _ _ HS7.out⟩
                    case measure => simp [intOf]; omega
                  · have HXY := Lib.hid (show okSpan (x, y) = false by rw [okB]; simpa using hxy)
                    have hd : decide (x ≤ y) = false := by simpa using hxy
                    go_wp2
                    with_reducible refine wp_region_tail 20 (by kernel_rfl) (by kernel_rfl) ?_
                    simp only [List.take_succ_cons, List.take_zero, List.drop_succ_cons, List.drop_zero]
                    iterate 13 ((with_reducible refine wpStill_step (fun K hK => ?_)); go_simp; (with_reducible refine hK _ ?_); clear hK K)
                    iterate 5 ((with_reducible refine wpStill_step (fun K hK => ?_)); go_simp; (with_reducible refine hK _ ?_); clear hK K)
                    iterate 2 ((with_reducible refine wpStill_step (fun K hK => ?_)); go_simp; (with_reducible refine hK _ ?_); clear hK K)
                    refine wpStill_nil ?_
                    go_wp2
                    go_roundw
                    case rel => exact ⟨k + 1, by omega, by go_num, HOD.out _ _ _ _ _ HO7.out, by rw [HRk.out, HXY.out, Bool.false_or]; exact HSR.out _ _ _ _ _ HS7.out⟩
                    case measure => simp [intOf]; omega
                · go_wp2
                  with_reducible refine wp_region_tail 20 (by kernel_rfl) (by kernel_rfl) ?_
                  simp only [List.take_succ_cons, List.take_zero, List.drop_succ_cons, List.drop_zero]
                  iterate 13 ((with_reducible refine wpStill_step (fun K hK => ?_)); go_simp; (with_reducible refine hK _ ?_); clear hK K)
                  iterate 5 ((with_reducible refine wpStill_step (fun K hK => ?_)); go_simp; (with_reducible refine hK _ ?_); clear hK K)
                  iterate 2 ((with_reducible refine wpStill_step (fun K hK => ?_)); go_simp; (with_reducible refine hK _ ?_); clear hK K)
                  refine wpStill_nil ?_
                  go_wp2
                  go_roundw
                  case rel => exact ⟨k + 1, by omega, by go_num, HOD.out _ _ _ _ _ HO7.out, by rw [HRk.out, Bool.true_or]; exact HSR.out _ _ _ _ _ HS7.out⟩
                  case measure => simp [intOf]; omega
              · obtain rfl : k = bs.length := by omega
                have hmt := HQ3.out _ hO
                have hG1 := HG.out _ _ (hs.ext (Ext.refl _).drew) (HX.out _ (((HO3.out.trans HO5.out).trans hO).trans (Only.of_ext (Ext.refl _).drew)))
                have hmap := hs.map
                obtain ⟨w9, hrun, hm9, hg9⟩ := run_mapUpdate_at (P := Try.prog) wr.drew 78 3 110 Try.underlying78 Try.underlying3 M _ (hmap.of_block (w' := wr.drew) rfl) (gradeP p.grades r) (truthV [a, b, c, d])
                have HM9 := Lib.hid ((hs.ext (Ext.refl _).drew).setShown _ _ hm9 hg9)
                have HO9 := Lib.hid ((((HO3.out.trans HO5.out).trans hO).trans (Only.of_ext (Ext.refl _).drew)).trans (Only.of_grown hg9 (.inr (.inl rfl))))
                have hrun' : (Instr.mapUpdate 78 (.map (some M)) (.int .i64 (gradeP p.grades r : Nat)) (.agg #[.int .i64 a, .int .i64 b, .int .i64 c, .int .i64 d])).run Try.prog wr.drew = .ok () w9 := hrun
                clear hrun hm9 hg9 hmap hfr hbr
                have HG1 := Lib.hid hG1
                clear hG1 hs hO
                go_wp2
                refine wp_region_tail 8 (by kernel_rfl) (by kernel_rfl) ?_
                simp only [List.take_succ_cons, List.take_zero, List.drop_succ_cons, List.drop_zero]
                iterate 6 ((with_reducible refine wpStill_step (fun K hK => ?_)); go_simp; (with_reducible refine hK _ ?_); clear hK K)
                still_call (HG1.out.mono fun _ _ ⟨q1, q2⟩ => ⟨q1, q2.symm⟩)
                iterate 1 ((with_reducible refine wpStill_step (fun K hK => ?_)); go_simp; (with_reducible refine hK _ ?_); clear hK K)
                refine wpStill_nil ?_
                go_wp2
                go_end0
                refine ⟨rfl, ?_, HO9.out⟩
                rw [HM.out, HMin.out]
                exact HM9.out
end Go.Proofs.Ytkejebdfbkgaiaa

namespace Go.Proofs.Ytkejebdfbkgaiaa
open Go.RowKit


set_option maxHeartbeats 4000000 in
set_option maxRecDepth 100000 in
theorem end_yes2 (L : Loc) (p : Paper) (S : Surv) (a b c d r : Int) (A : Option Addr) (cc : Nat) (bs : List (Int × Int)) (w0 W : World) (h : SurvAt W L p S) (hb : Bias L W A bs) (hjl : bs.length = p.judges.length) (hbl : bs.length ≤ 4) (hw : (wrongN bs bs.length : Int) ≤ p.wrong)
    (hil : p.items.length ≤ 4) (ht : ∀ k, k < p.items.length → 0 ≤ [a, b, c, d].getD k 0 ∧ [a, b, c, d].getD k 0 ≤ 30) (hP : PaperAt w0 L.iA L.jA L.gA p) (hE0 : Ext w0 W) (hB0 : w0.heap.size ≤ L.B) (hM0 : w0.heap.size ≤ L.M) (hR0 : w0.heap.size ≤ L.R) (hgl : p.grades.length ≤ 5) (hm : (wrongN bs bs.length : Int) < S.fewest) :
    Calls Try.prog 67 #[.pointer (some ⟨L.B, 0, none⟩), .agg #[.int .i64 a, .int .i64 b, .int .i64 c, .int .i64 d], .int .i64 r, .slice A bs.length cc] W fun e W' => e = .returned (.tuple #[]) ∧
      SurvAt W' L p (endM p [a, b, c, d] r bs S) ∧ Only L W W' := by
  have H := Lib.hid h
  have HB := Lib.hid hb
  have HN := Lib.hid (wrongN_succ bs)
  have HL := Lib.hid (wrongN_le bs)
  have HZ := Lib.hid (show wrongN bs 0 = 0 from rfl)
  have HW := Lib.hid hw
  have HT := Lib.hid ht
  have HJ := Lib.hid hjl
  have HM := Lib.hid (show endM p [a, b, c, d] r bs S = { { S with fewest := min S.fewest (wrongN bs bs.length) } with poss := true, res := addSpan S.res r, it := itTo [a, b, c, d] r p.items.length S.it, right := rightTo bs bs.length S.right, shown := putS S.shown (gradeP p.grades r) [a, b, c, d] } by
    unfold endM; simp only []; rw [if_neg (by omega)])
  have HF := Lib.hid (fun W (h : SurvAt W L p S) (x : Int) => h.setFewest x)
  have HC := Lib.hid (fun W S (h : SurvAt W L p S) => h.cell)
  have HFr := Lib.hid (fun W S (h : SurvAt W L p S) => h.free)
  have HO := Lib.hid (fun W i (x : Value) => Only.setCell W L ⟨L.B, i, none⟩ x (.inl rfl))
  have HOR := Lib.hid (fun W i (x : Value) => Only.setCell W L ⟨L.R, i, none⟩ x (.inr (.inr rfl)))
  have HSR := Lib.hid (show ∀ W S k x X, SurvAt W L p S → SurvAt ((W.setCell ⟨L.R, k, none⟩ (.bool x)).alloc X).drew L p { S with right := S.right.set k x } from fun W S k x X h => ((h.setRight k x).ext (Ext.of_alloc _ X)).ext (Ext.refl _).drew)
  have HOD := Lib.hid (show ∀ W1 W k x X, Only L W1 W → Only L W1 ((W.setCell ⟨L.R, k, none⟩ (.bool x)).alloc X).drew from fun W1 W k x X h => (h.trans (Only.setCell W L ⟨L.R, k, none⟩ _ (.inr (.inr rfl)))).trans (Only.of_ext (Ext.of_alloc _ X).drew))
  have hltB := h.ltB
  have hltM := h.ltM
  have hltR := h.ltR
  have HG := Lib.hid (show ∀ W1 S1, SurvAt W1 L p S1 → Ext w0 W1 → Calls Try.prog 25 #[.pointer (some ⟨L.B, 0, none⟩), .int .i64 r] W1 fun e W' => e = .returned (.int .i64 (gradeP p.grades r)) ∧ W1 = W' from fun W1 S1 h1 e1 => gradeS_any L p S1 r W1 h1 (hP.grades.ext e1) hgl)
  have HX := Lib.hid (show ∀ W1, Only L W W1 → Ext w0 W1 from fun W1 o => o.ext hE0 hB0 hM0 hR0)
  clear h hb hw ht hjl hP hE0 hB0 hM0 hR0
  obtain ⟨B, M, R, rc, iA, jA, gA, ic, jc, gc⟩ := L
  simp only at *
  go_enter Try.func67, Try.ntmps67
  go_wp2
  go_loopw [8, 17] (fun n i wr => ∃ k : Nat, k ≤ bs.length ∧ i = .int .i64 k ∧ n = .int .i64 (wrongN bs k) ∧ Ext (W.alloc (.cells #[.int .i64 a, .int .i64 b, .int .i64 c, .int .i64 d] 110)) wr) (fun _ i _ => bs.length - (intOf i).toNat)
  case atStart => exact ⟨0, by omega, rfl, by rw [HZ.out]; rfl, Ext.refl _⟩
  case round =>
    obtain ⟨k, hk, rfl, rfl, hE⟩ := hrel
    have HE := Lib.hid hE
    have hle := HL.out k
    have hbr := (HB.out.only (Only.of_ext hE.unalloc)).sp
    clear hE
    by_cases hlt : k < bs.length
    · obtain ⟨b', off, x, y, rfl, _, hc1, hc2, hx⟩ := hbr.get hlt
      have HS := Lib.hid (HN.out k hlt)
      by_cases hxy : x ≤ y
      · go_wp2
        go_roundw
        case rel => exact ⟨k + 1, by omega, by go_num, by rw [HS.out, hx.out]; simp [hxy], HE.out.alloc _⟩
        case measure => simp [intOf]; omega
      · go_wp2
        go_roundw
        case rel => exact ⟨k + 1, by omega, by go_num, by rw [HS.out, hx.out]; simp [hxy], HE.out.alloc _⟩
        case measure => simp [intOf]; omega
    · obtain rfl : k = bs.length := by omega
      have hs := H.out.ext HE.out.unalloc
      obtain ⟨c0, c1, c2, c3, c4, c5, c6, c7, c8, c9⟩ := HC.out _ _ hs
      have hf := HFr.out _ _ hs 256
      have hf2 := HFr.out _ _ hs 257
      have hw := HW.out
      have hltB' : B < wr.heap.size := Nat.lt_of_lt_of_le hltB HE.out.unalloc.size
      have HS := Lib.hid hs
      have hbox := HE.out.box
      have hltW : W.heap.size < wr.heap.size := HE.out.lt
      clear hs hbr
      · have HMin := Lib.hid (show min S.fewest (wrongN bs bs.length : Int) = (wrongN bs bs.length : Int) by omega)
        go_wp2
        refine wp_region_tail 4 (by kernel_rfl) (by kernel_rfl) ?_
        simp only [List.take_succ_cons, List.take_zero, List.drop_succ_cons, List.drop_zero]
        iterate 4 ((with_reducible refine wpStill_step (fun K hK => ?_)); go_simp; (with_reducible refine hK _ ?_); clear hK K)
        refine wpStill_nil ?_
        have h2 := (((HF.out _ HS.out (wrongN bs bs.length : Int)).setPoss true).ext (Ext.of_alloc _ (.cells #[.int .i64 r, .int .i64 r] 48))).ext (Ext.refl _).drew
        have hq1 : ∀ i, ((((wr.setCell ⟨B, 256, none⟩ (.int .i64 (wrongN bs bs.length : Int))).setCell ⟨B, 257, none⟩ (.bool true)).alloc (.cells #[.int .i64 r, .int .i64 r] 48)).drew).cell? ⟨wr.heap.size, i, none⟩ = #[Value.int .i64 r, .int .i64 r][i]? := fun i => by
          have := (Ext.refl (((wr.setCell ⟨B, 256, none⟩ (.int .i64 (wrongN bs bs.length : Int))).setCell ⟨B, 257, none⟩ (.bool true)).alloc (.cells #[.int .i64 r, .int .i64 r] 48))).drew.box i
          simpa using this
        have hO2 : Only ⟨B, M, R, rc, iA, jA, gA, ic, jc, gc⟩ W ((((wr.setCell ⟨B, 256, none⟩ (.int .i64 (wrongN bs bs.length : Int))).setCell ⟨B, 257, none⟩ (.bool true)).alloc (.cells #[.int .i64 r, .int .i64 r] 48)).drew) :=
          (((Only.of_ext HE.out.unalloc).trans (HO.out _ _ _)).trans (HO.out _ _ _)).trans (Only.of_ext ((Ext.of_alloc _ _).drew))
        have hO3 : Only ⟨B, M, R, rc, iA, jA, gA, ic, jc, gc⟩ wr ((((wr.setCell ⟨B, 256, none⟩ (.int .i64 (wrongN bs bs.length : Int))).setCell ⟨B, 257, none⟩ (.bool true)).alloc (.cells #[.int .i64 r, .int .i64 r] 48)).drew) :=
          ((HO.out _ _ _).trans (HO.out _ _ _)).trans (Only.of_ext ((Ext.of_alloc _ _).drew))
        have hsz : wr.heap.size < ((((wr.setCell ⟨B, 256, none⟩ (.int .i64 (wrongN bs bs.length : Int))).setCell ⟨B, 257, none⟩ (.bool true)).alloc (.cells #[.int .i64 r, .int .i64 r] 48)).drew).heap.size := by
          simp
        have hltM' : M < wr.heap.size := HS.out.ltM
        have hltR' : R < wr.heap.size := HS.out.ltR
        have hq2 : ∀ i, ((((wr.setCell ⟨B, 256, none⟩ (.int .i64 (wrongN bs bs.length : Int))).setCell ⟨B, 257, none⟩ (.bool true)).alloc (.cells #[.int .i64 r, .int .i64 r] 48)).drew).cell? ⟨W.heap.size, i, none⟩ = #[Value.int .i64 a, .int .i64 b, .int .i64 c, .int .i64 d][i]? := fun i =>
          (only_cell hO3 hltW (by show _ ≠ B; omega) (by show _ ≠ M; omega) (by show _ ≠ R; omega) i).trans (hbox i)
        generalize ((((wr.setCell ⟨B, 256, none⟩ (.int .i64 (wrongN bs bs.length : Int))).setCell ⟨B, 257, none⟩ (.bool true)).alloc (.cells #[.int .i64 r, .int .i64 r] 48)).drew) = w2 at *
        clear c0 c1 c2 c3 c4 c5 c6 c7 c8 c9 hf hf2 hbox
        obtain ⟨wq, hwq⟩ : ∃ wq : World, wq = wr := ⟨_, rfl⟩
        subst hwq
        have HO2 := Lib.hid hO2
        have HQ1 := Lib.hid hq1
        have HQ2 := Lib.hid hq2
        obtain ⟨cs2, hb2, hc2⟩ := h2.cs
        have HA := Lib.hid (add_any B 4 81 cs2 S.res.1 S.res.2 r r w2 hb2 hc2.c4 hc2.c5)
        have HC2 := Lib.hid hc2
        have H2 := Lib.hid h2
        clear hO2 hO3 hq1 hq2 hb2 hc2 h2
        go_wp2_with fail
        refine HA.out.mono ?_
        rintro e w3 ⟨rfl, hB3, hG3⟩
        have h3 := H2.out.own hB3 (HC2.out.res _ _) hG3 rfl rfl
        have hO3 := HO2.out.trans (Only.of_grown hG3 (.inl rfl))
        have hO4 : Only ⟨B, M, R, rc, iA, jA, gA, ic, jc, gc⟩ w2 w3 := Only.of_grown hG3 (.inl rfl)
        obtain ⟨c0, _⟩ := HC.out _ _ h3
        have H3 := Lib.hid h3
        have HO3 := Lib.hid hO3
        have HO4 := Lib.hid hO4
        clear hB3 hG3 h3 hO3 hO4
        go_wp2
        go_loopw [12, 62] (fun _ i wr => ∃ k : Nat, k ≤ p.items.length ∧ i = .int .i64 k ∧ Only ⟨B, M, R, rc, iA, jA, gA, ic, jc, gc⟩ w3 wr ∧
            SurvAt wr ⟨B, M, R, rc, iA, jA, gA, ic, jc, gc⟩ p { S with fewest := (wrongN bs bs.length : Int), poss := true, res := addSpan S.res r, it := itTo [a, b, c, d] r k S.it }) (fun _ i _ => p.items.length - (intOf i).toNat)
        case atStart => exact ⟨0, by omega, rfl, Only.refl _ _, H3.out⟩
        case round =>
          obtain ⟨k, hk, rfl, hO, hs⟩ := hrel
          have HS5 := Lib.hid hs
          have HO5 := Lib.hid hO
          clear hs hO c0
          by_cases hlt : k < p.items.length
          · have hk4 : k < 4 := by omega
            obtain ⟨x, hx⟩ : ∃ x, [a, b, c, d].getD k 0 = x := ⟨_, rfl⟩
            have hxb := HT.out k hlt
            rw [hx] at hxb
            obtain ⟨m, rfl⟩ := Int.eq_ofNat_of_zero_le hxb.1
            have hm31 : m < 31 := by omega
            have hk4i : (k : Int) < 4 := by omega
            have hm31i : (m : Int) < 31 := by omega
            have hk0i : (0 : Int) ≤ (k : Int) := by omega
            have hm0i : (0 : Int) ≤ (m : Int) := by omega
            have hO6 := HO4.out.trans HO5.out
            have hqc : wr.cell? ⟨W.heap.size, k, none⟩ = some (.int .i64 (m : Int)) := by
              rw [only_cell hO6 (by omega) (by show _ ≠ B; omega) (by show _ ≠ M; omega) (by show _ ≠ R; omega), HQ2.out, ← hx]
              match k, hk4 with
              | 0, _ => rfl
              | 1, _ => rfl
              | 2, _ => rfl
              | 3, _ => rfl
            have hq5 : wr.cell? ⟨wq.heap.size, 0, none⟩ = some (.int .i64 r) := by
              rw [only_cell hO6 hsz (by show _ ≠ B; omega) (by show _ ≠ M; omega) (by show _ ≠ R; omega), HQ1.out]; rfl
            have hq6 : wr.cell? ⟨wq.heap.size, 1, none⟩ = some (.int .i64 r) := by
              rw [only_cell hO6 hsz (by show _ ≠ B; omega) (by show _ ≠ M; omega) (by show _ ≠ R; omega), HQ1.out]; rfl
            obtain ⟨cs5, hb5, hc5⟩ := HS5.out.cs
            have hb5' : Blk wr.drew B 81 cs5 := hb5
            have HA5 := Lib.hid (add_any B (6 + k * 62 + m * 2) 81 cs5 _ _ r r wr.drew hb5' (hc5.it1 k m hk4 hm31) (hc5.it2 k m hk4 hm31))
            have HC5 := Lib.hid hc5
            have HX5 := Lib.hid hx
            have hmm : ((m : Int)).toNat = m := by omega
            clear hb5 hb5' hc5 hx hxb hO6
            go_wp2
            refine wp_region_tail 10 (by kernel_rfl) (by kernel_rfl) ?_
            simp only [List.take_succ_cons, List.take_zero, List.drop_succ_cons, List.drop_zero]
            iterate 10 ((with_reducible refine wpStill_step (fun K hK => ?_)); go_simp; (with_reducible refine hK _ ?_); clear hK K)
            refine wpStill_nil ?_
            go_wp2_with fail
            refine HA5.out.mono ?_
            rintro e w5 ⟨rfl, hB6, hG6⟩
            have hs6 := (HS5.out.ext (Ext.refl _).drew).own hB6 (HC5.out.item k m hk4 hm31 _ _) hG6 rfl rfl
            have HS6 := Lib.hid hs6
            have HO6 := Lib.hid ((HO5.out.trans (Only.of_ext (Ext.refl _).drew)).trans (Only.of_grown hG6 (.inl rfl)))
            clear hB6 hG6 hs6
            go_wp2
            go_roundw
            case rel =>
              refine ⟨k + 1, by omega, by go_num, HO6.out, ?_⟩
              have e1 : itTo [a, b, c, d] r (k + 1) S.it = setIt (itTo [a, b, c, d] r k S.it) k m (addSpan (itTo [a, b, c, d] r k S.it k m) r) := by
                show setIt (itTo [a, b, c, d] r k S.it) k ([a, b, c, d].getD k 0).toNat (addSpan (itTo [a, b, c, d] r k S.it k ([a, b, c, d].getD k 0).toNat) r) = _
                rw [HX5.out, hmm]
              rw [e1]
              exact HS6.out
            case measure => simp [intOf]; omega
          · obtain rfl : k = p.items.length := by omega
            obtain ⟨wz, hwz⟩ : ∃ wz : World, wz = wr := ⟨_, rfl⟩
            subst hwz
            have HR0 := Lib.hid (show ∀ k, rightTo bs (k + 1) S.right = (rightTo bs k S.right).set k ((rightTo bs k S.right).getD k false || okSpan (bs.getD k (0, 0))) from fun k => rfl)
            have HRL := Lib.hid (fun k => rightTo_length bs k S.right)
            have HRS := Lib.hid (HS5.out.rlen)
            have HBias := Lib.hid (HB.out.only (HO3.out.trans HO5.out))
            have hq2' : ∀ W1, Only ⟨B, M, R, rc, iA, jA, gA, ic, jc, gc⟩ wz W1 → ∀ i, W1.cell? ⟨W.heap.size, i, none⟩ = #[Value.int .i64 a, .int .i64 b, .int .i64 c, .int .i64 d][i]? := fun W1 o i =>
              (only_cell ((HO4.out.trans HO5.out).trans o) (by omega) (by show _ ≠ B; omega) (by show _ ≠ M; omega) (by show _ ≠ R; omega) i).trans (HQ2.out i)
            have HQ3 := Lib.hid hq2'
            clear hq2'
            go_wp2
            go_loopw [13, 79] (fun _ i wr => ∃ k : Nat, k ≤ bs.length ∧ i = .int .i64 k ∧ Only ⟨B, M, R, rc, iA, jA, gA, ic, jc, gc⟩ wz wr ∧
                SurvAt wr ⟨B, M, R, rc, iA, jA, gA, ic, jc, gc⟩ p { S with fewest := (wrongN bs bs.length : Int), poss := true, res := addSpan S.res r, it := itTo [a, b, c, d] r p.items.length S.it, right := rightTo bs k S.right }) (fun _ i _ => bs.length - (intOf i).toNat)
            case atStart => exact ⟨0, by omega, rfl, Only.refl _ _, HS5.out⟩
            case round =>
              obtain ⟨k, hk, rfl, hO, hs⟩ := hrel
              have hbr := (HBias.out.only hO).sp
              have HS7 := Lib.hid hs
              have HO7 := Lib.hid hO
              obtain ⟨_, _, _, _, d4, d5, _⟩ := HC.out _ _ hs
              have hfr := fun i => hs.right.free i
              have hltR7 : R < wr.heap.size := hs.ltR
              have hltB7 : B < wr.heap.size := hs.ltB
              by_cases hlt : k < bs.length
              · have hrl : k < (rightTo bs k S.right).length := by rw [HRL.out]; rw [HRS.out, ← HJ.out]; exact hlt
                obtain ⟨q, hq⟩ : ∃ q, (rightTo bs k S.right).getD k false = q := ⟨_, rfl⟩
                have hcr : wr.cell? ⟨R, k, none⟩ = some (.bool q) := by
                  rw [hs.right.cell, ← hq]
                  simp [rightV, List.getD, hrl]
                have hcr2 := hs.right.free k
                obtain ⟨b', off, x, y, rfl, hbb, hc1, hc2, hx⟩ := hbr.get hlt
                have HRk := Lib.hid (show rightTo bs (k + 1) S.right = (rightTo bs k S.right).set k (q || okSpan (x, y)) by rw [HR0.out, hq, hx.out])
                have hki : (k : Int) < (p.judges.length : Int) := by have := HJ.out; omega
                have hk0i : (0 : Int) ≤ (k : Int) := by omega
                have hHX := Lib.hid hx
                clear hs hO hq hfr hx
                cases q
                · by_cases hxy : x ≤ y
                  · have HXY := Lib.hid (show okSpan (x, y) = true by rw [okB]; simpa using hxy)
                    have hd : decide (x ≤ y) = true := by simpa using hxy
                    go_wp2
                    with_reducible refine wp_region_tail 20 (by kernel_rfl) (by kernel_rfl) ?_
                    simp only [List.take_succ_cons, List.take_zero, List.drop_succ_cons, List.drop_zero]
                    iterate 13 ((with_reducible refine wpStill_step (fun K hK => ?_)); go_simp; (with_reducible refine hK _ ?_); clear hK K)
                    iterate 5 ((with_reducible refine wpStill_step (fun K hK => ?_)); go_simp; (with_reducible refine hK _ ?_); clear hK K)
                    iterate 2 ((with_reducible refine wpStill_step (fun K hK => ?_)); go_simp; (with_reducible refine hK _ ?_); clear hK K)
                    refine wpStill_nil ?_
                    go_wp2
                    go_roundw
                    case rel => exact ⟨k + 1, by omega, by go_num, HOD.out _ _ _ _ _ HO7.out, by rw [HRk.out, HXY.out, Bool.false_or]; exact HSR.out _ _ _ _ _ HS7.out⟩
                    case measure => simp [intOf]; omega
                  · have HXY := Lib.hid (show okSpan (x, y) = false by rw [okB]; simpa using hxy)
                    have hd : decide (x ≤ y) = false := by simpa using hxy
                    go_wp2
                    with_reducible refine wp_region_tail 20 (by kernel_rfl) (by kernel_rfl) ?_
                    simp only [List.take_succ_cons, List.take_zero, List.drop_succ_cons, List.drop_zero]
                    iterate 13 ((with_reducible refine wpStill_step (fun K hK => ?_)); go_simp; (with_reducible refine hK _ ?_); clear hK K)
                    iterate 5 ((with_reducible refine wpStill_step (fun K hK => ?_)); go_simp; (with_reducible refine hK _ ?_); clear hK K)
                    iterate 2 ((with_reducible refine wpStill_step (fun K hK => ?_)); go_simp; (with_reducible refine hK _ ?_); clear hK K)
                    refine wpStill_nil ?_
                    go_wp2
                    go_roundw
                    case rel => exact ⟨k + 1, by omega, by go_num, HOD.out _ _ _ _ _ HO7.out, by rw [HRk.out, HXY.out, Bool.false_or]; exact HSR.out _ _ _ _ _ HS7.out⟩
                    case measure => simp [intOf]; omega
                · go_wp2
                  with_reducible refine wp_region_tail 20 (by kernel_rfl) (by kernel_rfl) ?_
                  simp only [List.take_succ_cons, List.take_zero, List.drop_succ_cons, List.drop_zero]
                  iterate 13 ((with_reducible refine wpStill_step (fun K hK => ?_)); go_simp; (with_reducible refine hK _ ?_); clear hK K)
                  iterate 5 ((with_reducible refine wpStill_step (fun K hK => ?_)); go_simp; (with_reducible refine hK _ ?_); clear hK K)
                  iterate 2 ((with_reducible refine wpStill_step (fun K hK => ?_)); go_simp; (with_reducible refine hK _ ?_); clear hK K)
                  refine wpStill_nil ?_
                  go_wp2
                  go_roundw
                  case rel => exact ⟨k + 1, by omega, by go_num, HOD.out _ _ _ _ _ HO7.out, by rw [HRk.out, Bool.true_or]; exact HSR.out _ _ _ _ _ HS7.out⟩
                  case measure => simp [intOf]; omega
              · obtain rfl : k = bs.length := by omega
                have hmt := HQ3.out _ hO
                have hG1 := HG.out _ _ (hs.ext (Ext.refl _).drew) (HX.out _ (((HO3.out.trans HO5.out).trans hO).trans (Only.of_ext (Ext.refl _).drew)))
                have hmap := hs.map
                obtain ⟨w9, hrun, hm9, hg9⟩ := run_mapUpdate_at (P := Try.prog) wr.drew 78 3 110 Try.underlying78 Try.underlying3 M _ (hmap.of_block (w' := wr.drew) rfl) (gradeP p.grades r) (truthV [a, b, c, d])
                have HM9 := Lib.hid ((hs.ext (Ext.refl _).drew).setShown _ _ hm9 hg9)
                have HO9 := Lib.hid ((((HO3.out.trans HO5.out).trans hO).trans (Only.of_ext (Ext.refl _).drew)).trans (Only.of_grown hg9 (.inr (.inl rfl))))
                have hrun' : (Instr.mapUpdate 78 (.map (some M)) (.int .i64 (gradeP p.grades r : Nat)) (.agg #[.int .i64 a, .int .i64 b, .int .i64 c, .int .i64 d])).run Try.prog wr.drew = .ok () w9 := hrun
                clear hrun hm9 hg9 hmap hfr hbr
                have HG1 := Lib.hid hG1
                clear hG1 hs hO
                go_wp2
                refine wp_region_tail 8 (by kernel_rfl) (by kernel_rfl) ?_
                simp only [List.take_succ_cons, List.take_zero, List.drop_succ_cons, List.drop_zero]
                iterate 6 ((with_reducible refine wpStill_step (fun K hK => ?_)); go_simp; (with_reducible refine hK _ ?_); clear hK K)
                still_call (HG1.out.mono fun _ _ ⟨q1, q2⟩ => ⟨q1, q2.symm⟩)
                iterate 1 ((with_reducible refine wpStill_step (fun K hK => ?_)); go_simp; (with_reducible refine hK _ ?_); clear hK K)
                refine wpStill_nil ?_
                go_wp2
                go_end0
                refine ⟨rfl, ?_, HO9.out⟩
                rw [HM.out, HMin.out]
                exact HM9.out
end Go.Proofs.Ytkejebdfbkgaiaa
