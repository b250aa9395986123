/- Exams: the walk over open. -/
import Derived.Test.YtbpilgflejdhaaaExP
import Derived.Test.YtbpilgflejdhaaaExQ
import Derived.Deep.DeepCutAuto
namespace Go.Proofs.Ytbpilgflejdhaaa
open Go.RowKit

theorem bias0_snoc (p : Paper) (k : Nat) (h : k < p.judges.length) : (bias0 p).take (k + 1) = (bias0 p).take k ++ [((p.judges.getD k default).lo, (p.judges.getD k default).hi)] := by
  unfold bias0
  rw [List.take_succ_eq_append_getElem (by simpa using h)]
  simp [List.getD, h]

set_option maxHeartbeats 1000000 in
theorem open_err (iA jA gA : Option Addr) (ic jc gc : Nat) (p : Paper) (w : World) (h : PaperAt w iA jA gA p) (hv : checkE p = 90) :
    Calls Try.prog 55 #[.agg #[.slice iA p.items.length ic, .slice jA p.judges.length jc, .int .i64 p.wrong, .slice gA p.grades.length gc]] w fun e w' => e = .returned (.tuple #[.pointer none, .int .i64 90]) ∧ Ext w w' := by
  have HC := Lib.hid (fun W (hE : Ext w W) => checkP_any iA jA gA ic jc gc p W (h.ext hE))
  have HV := Lib.hid hv
  have HX := Lib.hid (Ext.of_alloc w (.cells #[.slice iA p.items.length ic, .slice jA p.judges.length jc, .int .i64 p.wrong, .slice gA p.grades.length gc] 26))
  clear h hv
  go_enter Try.func55, Try.ntmps55
  go_wp2_with fail
  refine (HC.out _ HX.out).mono ?_
  rintro e w1 ⟨rfl, hE1⟩
  rw [HV.out]
  have HE1 := Lib.hid hE1
  clear hE1
  go_wp2
  go_ret2
  exact ⟨rfl, HX.out.trans HE1.out⟩

set_option maxHeartbeats 4000000 in
set_option maxRecDepth 100000 in
theorem open_ok (iA jA gA : Option Addr) (ic jc gc : Nat) (p : Paper) (w : World) (h : PaperAt w iA jA gA p) (hv : validB p = true) :
    Calls Try.prog 55 #[.agg #[.slice iA p.items.length ic, .slice jA p.judges.length jc, .int .i64 p.wrong, .slice gA p.grades.length gc]] w fun e w' => ∃ B M R rc, e = .returned (.tuple #[.pointer (some ⟨B, 0, none⟩), .int .i64 0]) ∧ SurvAt w' ⟨B, M, R, rc, iA, jA, gA, ic, jc, gc⟩ p (openM p) ∧ Ext w w' := by
  have HC := Lib.hid (fun W (hE : Ext w W) => checkP_any iA jA gA ic jc gc p W (h.ext hE))
  have HV := Lib.hid (show checkE p = 0 by simp [checkE, hv])
  have hV := valid_of hv
  have HX := Lib.hid (Ext.of_alloc w (.cells #[.slice iA p.items.length ic, .slice jA p.judges.length jc, .int .i64 p.wrong, .slice gA p.grades.length gc] 26))
  have hjl := hV.jl
  have HVal := Lib.hid hV
  have H := Lib.hid h
  obtain ⟨rv, hrv⟩ : ∃ rv, rv = rightV (List.replicate p.judges.length false) := ⟨_, rfl⟩
  have hmk := fun W => run_makeBools p.judges.length (by omega) W rv hrv
  have hmm := @run_makeMap Try.prog
  have HRv := Lib.hid hrv
  clear h hv hV hrv
  go_enter Try.func55, Try.ntmps55
  go_wp2_with fail
  refine (HC.out _ HX.out).mono ?_
  rintro e w1 ⟨rfl, hE1⟩
  rw [HV.out]
  have HE1 := Lib.hid hE1
  have hbox := hE1.box
  have hlt1 : w.heap.size < w1.heap.size := hE1.lt
  clear hE1
  go_upto_region 4 with fail
  go_cut [5] (fun s5 wx => ∃ B M R, s5 = .pointer (some ⟨B, 0, none⟩) ∧ SurvAt wx ⟨B, M, R, p.judges.length, iA, jA, gA, ic, jc, gc⟩ p (survZ p (fun _ _ => (0, 0))) ∧ Ext w1 wx ∧ w1.heap.size ≤ B ∧ w1.heap.size ≤ M ∧ w1.heap.size ≤ R)
  case first =>
    have h0 : w1.cell? ⟨w.heap.size, 0, none⟩ = some (.slice iA p.items.length ic) := hbox 0
    have h1 : w1.cell? ⟨w.heap.size, 1, none⟩ = some (.slice jA p.judges.length jc) := hbox 1
    have h2 : w1.cell? ⟨w.heap.size, 2, none⟩ = some (.int .i64 p.wrong) := hbox 2
    have h3 : w1.cell? ⟨w.heap.size, 3, none⟩ = some (.slice gA p.grades.length gc) := hbox 3
    have HK := Lib.hid (show ∀ W, Ext w1 W → (W.cell? ⟨w.heap.size, 0, none⟩ = some (.slice iA p.items.length ic) ∧ W.cell? ⟨w.heap.size, 1, none⟩ = some (.slice jA p.judges.length jc) ∧ W.cell? ⟨w.heap.size, 2, none⟩ = some (.int .i64 p.wrong) ∧ W.cell? ⟨w.heap.size, 3, none⟩ = some (.slice gA p.grades.length gc)) from fun W e =>
      ⟨(e.cellOf (p := ⟨_, _, none⟩) hlt1).trans h0, (e.cellOf (p := ⟨_, _, none⟩) hlt1).trans h1, (e.cellOf (p := ⟨_, _, none⟩) hlt1).trans h2, (e.cellOf (p := ⟨_, _, none⟩) hlt1).trans h3⟩)
    clear hbox
    go_region_held3 (fun w' => w'.cell? ⟨w.heap.size, 0, none⟩ = some (.slice iA p.items.length ic) ∧ w'.cell? ⟨w.heap.size, 1, none⟩ = some (.slice jA p.judges.length jc) ∧ w'.cell? ⟨w.heap.size, 2, none⟩ = some (.int .i64 p.wrong) ∧ w'.cell? ⟨w.heap.size, 3, none⟩ = some (.slice gA p.grades.length gc)) (exact HK.out _ (by repeat (first | exact Ext.refl _ | refine Ext.drew ?_ | refine Ext.alloc ?_ _)))
      (first
        | (go_at_call 49; refine (none_any _).mono ?_; rintro e w' ⟨rfl, rfl⟩))
    all_goals
      go_wp2_with fail
      go_meet
      refine ⟨_, _, _, rfl, surv_new iA jA gA ic jc gc p rv HRv.out _ _ _ _ (heap4 _ _ _ _ _).2.2.2 (by first | exact (heap4 _ _ _ _ _).1 | exact (heap4 _ _ _ _ _).2.1 | exact (heap4 _ _ _ _ _).2.2.1) (by first | exact (heap4 _ _ _ _ _).1 | exact (heap4 _ _ _ _ _).2.1 | exact (heap4 _ _ _ _ _).2.2.1), ?_, by omega, by omega, by omega⟩
      exact (((((Ext.refl _).alloc _).alloc _).alloc _).alloc _).drew
  case rest =>
    obtain ⟨B, M, R, rfl, hS, hE, hB, hM, hR⟩ := hcut
    have HS := Lib.hid hS
    have HE := Lib.hid hE
    have HIt := Lib.hid (fun W f (h : SurvAt W ⟨B, M, R, p.judges.length, iA, jA, gA, ic, jc, gc⟩ p (survZ p f)) (i n : Nat) (hi : i < 4) (hn : n < 31) => (show SurvAt _ ⟨B, M, R, p.judges.length, iA, jA, gA, ic, jc, gc⟩ p (survZ p (setIt f i n noSpan)) from h.setIts i n hi hn 1073741824 (-1073741824)))
    have HCell := Lib.hid (fun W f (h : SurvAt W ⟨B, M, R, p.judges.length, iA, jA, gA, ic, jc, gc⟩ p (survZ p f)) (i n : Nat) (hi : i < 4) (hn : n < 31) => (show ∃ x y, W.cell? ⟨B, 6 + i * 62 + n * 2, none⟩ = some (.int .i64 x) ∧ W.cell? ⟨B, 6 + i * 62 + n * 2 + 1, none⟩ = some (.int .i64 y) ∧ W.frozen? ⟨B, 6 + i * 62 + n * 2, none⟩ = false ∧ W.frozen? ⟨B, 6 + i * 62 + n * 2 + 1, none⟩ = false from by
      obtain ⟨cs, hb, hc⟩ := h.cs
      exact ⟨_, _, (hb.cell _).trans (hc.it1 i n hi hn), (hb.cell _).trans (hc.it2 i n hi hn), hb.free _, hb.free _⟩))
    have HltB := Lib.hid (fun W f (h : SurvAt W ⟨B, M, R, p.judges.length, iA, jA, gA, ic, jc, gc⟩ p (survZ p f)) => h.ltB)
    have HB := Lib.hid hB
    clear hS hE hbox hmk hmm
    go_wp2_with fail
    go_loopw [28] (fun c wr => ∃ k : Nat, k ≤ 4 ∧ c = .int .i64 k ∧ Ext w1 wr ∧ ∃ f, SurvAt wr ⟨B, M, R, p.judges.length, iA, jA, gA, ic, jc, gc⟩ p (survZ p f) ∧ ∀ i n, i < k → n < 31 → f i n = noSpan) (fun c _ => 4 - (intOf c).toNat)
    case atStart => exact ⟨0, by omega, rfl, HE.out, _, HS.out, fun i n h => by omega⟩
    case round =>
      obtain ⟨k, hk, rfl, hE, f, hS, hf⟩ := hrel
      have HE := Lib.hid hE
      have HS := Lib.hid hS
      have Hf := Lib.hid hf
      clear hE hS hf
      by_cases hlt : k < 4
      · have hkd : decide ((k : Int) < 4) = true := by simp; omega
        go_wp2_with fail
        go_loopw [31] (fun c wr => ∃ m : Nat, m ≤ 31 ∧ c = .int .i64 m ∧ Ext w1 wr ∧ ∃ f, SurvAt wr ⟨B, M, R, p.judges.length, iA, jA, gA, ic, jc, gc⟩ p (survZ p f) ∧ ∀ i n, i < k ∨ (i = k ∧ n < m) → n < 31 → f i n = noSpan) (fun c _ => 31 - (intOf c).toNat)
        case atStart => exact ⟨0, by omega, rfl, HE.out, _, HS.out, fun i n h => Hf.out i n (by omega)⟩
        case round =>
          clear hkd
          obtain ⟨m, hm, rfl, hE, f, hS, hf⟩ := hrel
          have HE := Lib.hid hE
          have HS := Lib.hid hS
          have Hf := Lib.hid hf
          clear hE hS hf
          by_cases hlt2 : m < 31
          · have hk4 : (k : Int) < 4 := by omega
            have hm31 : (m : Int) < 31 := by omega
            obtain ⟨x, y, g1, g2, f1, f2⟩ := HCell.out _ _ HS.out k m hlt hlt2
            obtain ⟨x', y', g1', g2', f1', f2'⟩ := HCell.out _ _ (HS.out.ext (Ext.of_alloc _ (.cells #[.int .i64 1073741824, .int .i64 (-1073741824)] 35))) k m hlt hlt2
            have hltB := HltB.out _ _ HS.out
            go_wp2_with fail
            go_region_held3 (fun _ => True) (trivial) (first | (go_at_call 49; refine (none_any _).mono ?_; rintro e w' ⟨rfl, rfl⟩))
            have hS' := (HIt.out _ _ HS.out k m hlt hlt2).ext (Ext.of_alloc _ (.cells #[.int .i64 1073741824, .int .i64 (-1073741824)] 35))
            have HS' := Lib.hid (hS'.ext (Ext.refl _).drew)
            have HE' := Lib.hid ((Ext.alloc ((HE.out.setCell (p := ⟨B, 6 + k * 62 + m * 2, none⟩) HB.out (.int .i64 1073741824)).setCell (p := ⟨B, 6 + k * 62 + m * 2 + 1, none⟩) HB.out (.int .i64 (-1073741824))) (.cells #[.int .i64 1073741824, .int .i64 (-1073741824)] 35)).drew)
            have HF' := Lib.hid (show ∀ i n, i < k ∨ (i = k ∧ n < m + 1) → n < 31 → setIt f k m noSpan i n = noSpan from fun i n h1 h2 => by
              unfold setIt
              by_cases e : i = k ∧ n = m
              · rw [if_pos e]
              · rw [if_neg e]; exact Hf.out i n (by omega) h2)
            clear hS' g1 g2 g1' g2' f1 f2 f1' f2'
            go_wp2
            go_roundw
            case rel => exact ⟨m + 1, by omega, by go_num, HE'.out, _, HS'.out, HF'.out⟩
            case measure => simp [intOf]; omega
          · go_wp2
            go_roundw
            case rel => exact ⟨k + 1, by omega, by go_num, HE.out, f, HS.out, fun i n h1 h2 => Hf.out i n (by omega) h2⟩
            case measure => simp [intOf]; omega
      · have hS' := HS.out.congr (fun _ _ => noSpan) (fun i n hi hn => (Hf.out i n (by omega) hn).symm)
        have hbox := (HE1.out.trans HE.out).box
        have HS' := Lib.hid hS'
        have HNil := Lib.hid (World.ownsRow_nil wr w1.heap.size 35 2)
        obtain ⟨i0, hi0, hz0, hz1, hz2⟩ := info_parts span_info
        clear hS'
        obtain ⟨wa, rfl⟩ : ∃ wa : World, wa = wr := ⟨_, rfl⟩
        go_wp2_with fail
        go_loopw [8, 47] (fun v c wr => ∃ k : Nat, k ≤ p.judges.length ∧ c = .int .i64 k ∧ Ext wa wr ∧ wr.ownsRow wa.heap.size 35 2 v k (spanCells ((bias0 p).take k))) (fun _ c _ => p.judges.length - (intOf c).toNat)
        case atStart => exact ⟨0, by omega, rfl, Ext.refl _, World.ownsRow_nil _ _ _ _⟩
        case round =>
          obtain ⟨k, hk, rfl, hE, hown⟩ := hrel
          have HE2 := Lib.hid hE
          have Hown := Lib.hid hown
          clear hE hown
          by_cases hlt3 : k < p.judges.length
          · obtain ⟨bj, oj, lo, hi, err, ma, mA, mc, hjA, hbj, hcj1, hcj2, hcj3, hcj4, hma, hml, hx⟩ := (H.out.judges.ext (((HX.out.trans HE1.out).trans HE.out).trans HE2.out)).get hlt3
            subst hjA
            have HSn := Lib.hid (bias0_snoc p k hlt3)
            rw [hx.out] at HSn
            have hbox := ((HE1.out.trans HE.out).trans HE2.out).box
            have HO2 := Lib.hid ((Hown.out.alloc (.cells #[.int .i64 lo, .int .i64 hi, .int .i64 err, .slice mA ma.length mc] 37)).alloc (.cells #[.int .i64 lo, .int .i64 hi] 35))
            have HE3 := Lib.hid ((HE2.out.alloc (.cells #[.int .i64 lo, .int .i64 hi, .int .i64 err, .slice mA ma.length mc] 37)).alloc (.cells #[.int .i64 lo, .int .i64 hi] 35))
            have HSz := Lib.hid HE2.out.size
            clear hma
            have HNews := Lib.hid (blk_second wr (.cells #[.int .i64 lo, .int .i64 hi, .int .i64 err, .slice mA ma.length mc] 37) #[.int .i64 lo, .int .i64 hi] 35).news
            have H63 := Lib.hid (show k + 1 ≤ maxLen by simp [maxLen]; omega)
            have HSz2 := Lib.hid (show wa.heap.size ≤ ((wr.alloc (.cells #[.int .i64 lo, .int .i64 hi, .int .i64 err, .slice mA ma.length mc] 37)).alloc (.cells #[.int .i64 lo, .int .i64 hi] 35)).heap.size by have := HSz.out; simp; omega)
            go_wp2_with (at_builtin; refine wpList_append_own _ rfl _ _ 58 rfl wa.heap.size 35 i0 _ 2 16 Try.underlying58 hi0 hz0 hz1 hz2 rfl (by decide) _ _ _ rfl HO2.out ⟨wr.heap.size + 1, 0, none⟩ 1 1 [.int .i64 lo, .int .i64 hi] rfl rfl HNews.out (by simp [Value.oneCell']) H63.out (by omega) HSz2.out ?_; intro v' w5 hown5 hgrow5 _)
            have HO5 := Lib.hid hown5
            have HE5 := Lib.hid (ext_append HE3.out HO2.out hgrow5)
            clear hown5 hgrow5
            go_wp2
            go_roundw
            case rel => exact ⟨k + 1, by omega, by go_num, HE5.out, by rw [HSn.out, spanCells_snoc]; exact HO5.out⟩
            case measure => simp [intOf]; omega
          · obtain rfl : k = p.judges.length := by omega
            have HTake := Lib.hid (show (bias0 p).take p.judges.length = bias0 p by rw [List.take_of_length_le (by simp [bias0])])
            obtain ⟨A, c, rfl, hA1, hA2, hA3⟩ := own_form Hown.out
            have hbl : (bias0 p).length = p.judges.length := by simp [bias0]
            have hO := Hown.out
            rw [HTake.out] at hO
            have hPx := H.out.ext (HX.out.trans HE1.out)
            have hltB := HltB.out _ _ HS'.out
            have hSx := HS'.out.ext HE2.out
            have hmx := HS'.out.ltM
            have hrx := HS'.out.ltR
            have hVis := visit_any ⟨B, M, R, p.judges.length, iA, jA, gA, ic, jc, gc⟩ p w1 hPx HVal.out hB hM hR p.items.length 0 0 0 0 0 0 A c (bias0 p) _ wr (by omega) hSx
              ⟨(Spans.of_own hO).2, fun b off hb => by
                have := (hA2 b off hb).1
                exact ⟨by show b ≠ B; omega, by show b ≠ M; have : M < wa.heap.size := hmx; omega, by show b ≠ R; have : R < wa.heap.size := hrx; omega⟩⟩ hbl
              (fun hn => by have := hA1 hn; exact List.eq_nil_of_length_eq_zero (by omega)) (fun k hk => by omega) (by omega) (by omega) (HE.out.trans HE2.out)
            rw [hbl] at hVis
            have HVis := Lib.hid hVis
            have HFin := Lib.hid (show ∀ W, Only ⟨B, M, R, p.judges.length, iA, jA, gA, ic, jc, gc⟩ wr W → Ext w W from fun W o => (HX.out.trans HE1.out).trans (o.ext (HE.out.trans HE2.out) hB hM hR))
            clear hVis hO hPx hSx hbl hA1 hA2 hA3
            go_wp2_with fail
            refine HVis.out.mono ?_
            rintro e w6 ⟨rfl, hS6, hO6⟩
            have HS6 := Lib.hid hS6
            have HO6 := Lib.hid hO6
            clear hS6 hO6
            go_wp2
            go_ret2
            exact ⟨B, M, R, p.judges.length, rfl, HS6.out, HFin.out _ HO6.out⟩
end Go.Proofs.Ytbpilgflejdhaaa
