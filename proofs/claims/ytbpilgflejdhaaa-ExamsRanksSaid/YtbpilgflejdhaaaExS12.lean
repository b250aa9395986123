/- Exams: the walk over ExamsRanges. -/
import Derived.Test.YtbpilgflejdhaaaExX2
import Derived.Test.YtbpilgflejdhaaaExX4
import Derived.Test.YtbpilgflejdhaaaExW
import Derived.Test.YtbpilgflejdhaaaExU
import Derived.Test.YtbpilgflejdhaaaQuiet
import Derived.Test.YtbpilgflejdhaaaExYb
namespace Go.Proofs.Ytbpilgflejdhaaa
open Go.RowKit

theorem far_bounds {p : Paper} (h : farM p = false) : p.items.length ≤ 20 ∧ p.judges.length ≤ 20 ∧ p.grades.length ≤ 20 ∧ ∀ k, k < p.judges.length → (p.judges.getD k default).marks.length ≤ 20 := by
  unfold farM at h
  simp only [Bool.or_eq_false_iff, decide_eq_false_iff_not] at h
  obtain ⟨h1, h2, h3, h4, _⟩ := h
  refine ⟨by omega, by omega, by omega, fun k hk => ?_⟩
  rw [List.any_eq_false] at h4
  have := h4 (p.judges.getD k default) (by rw [List.getD, List.getElem?_eq_getElem hk]; exact List.getElem_mem hk)
  simp only [decide_eq_true_eq] at this
  omega

set_option maxHeartbeats 2000000 in
theorem sameSpans_any (A B : Option Addr) (c d : Nat) (l : List (Int × Int)) (w : World) (ha : Spans w A l) (hb : Spans w B l) (hl : l.length ≤ 9223372036854775807) :
    Calls Try.prog 38 #[.slice A l.length c, .slice B l.length d] w fun e w' => e = .returned (.bool true) ∧ Ext w w' := by
  have HA := Lib.hid ha
  have HB := Lib.hid hb
  clear ha hb
  have hlen : ((l.length : Int) != (l.length : Int)) = false := by simp
  go_enter Try.func38, Try.ntmps38
  go_wp2
  go_loopw [5] (fun v wr => ∃ k : Nat, k ≤ l.length ∧ v = .int .i64 k ∧ Ext w wr) (fun v _ => l.length - (intOf v).toNat)
  case atStart => exact ⟨0, by omega, rfl, Ext.refl _⟩
  case round =>
    obtain ⟨k, hk, rfl, hE⟩ := hrel
    have HE := Lib.hid hE
    by_cases hlt : (k : Int) < l.length
    · obtain ⟨b, off, x, y, rfl, hb, h1, h2, hx⟩ := (HA.out.ext hE).get (show k < l.length by omega)
      obtain ⟨b', off', x', y', rfl, hb', h1', h2', hx'⟩ := (HB.out.ext hE).get (show k < l.length by omega)
      have hxx := hx.out.symm.trans hx'.out
      injection hxx with hx1 hx2
      subst hx1
      subst hx2
      clear hE
      go_wp2_with fail
      go_quiet (fail)
      go_wp2
      go_roundw
      case rel => exact ⟨k + 1, by omega, by go_num, HE.out.drewN _⟩
      case measure => simp [intOf]; omega
    · clear hE
      go_wp2
      go_ret
      exact ⟨rfl, HE.out⟩


set_option maxHeartbeats 40000000 in
set_option maxRecDepth 100000 in
theorem ranges_law (iA jA gA : Option Addr) (ic jc gc : Nat) (p : Paper) (w : World) (h : PaperAt w iA jA gA p) :
    Calls Try.prog 12 #[.agg #[.slice iA p.items.length ic, .slice jA p.judges.length jc, .int .i64 p.wrong, .slice gA p.grades.length gc]] w fun e w' => e = .returned (.bool true) ∧ Ext w w' := by
  have HX := Lib.hid (Ext.of_alloc w (.cells #[.slice iA p.items.length ic, .slice jA p.judges.length jc, .int .i64 p.wrong, .slice gA p.grades.length gc] 26))
  have HB := Lib.hid (show ∀ W, Ext (w.alloc (.cells #[.slice iA p.items.length ic, .slice jA p.judges.length jc, .int .i64 p.wrong, .slice gA p.grades.length gc] 26)) W → (W.cell? ⟨w.heap.size, 0, none⟩ = some (.slice iA p.items.length ic) ∧ W.cell? ⟨w.heap.size, 1, none⟩ = some (.slice jA p.judges.length jc) ∧ W.cell? ⟨w.heap.size, 2, none⟩ = some (.int .i64 p.wrong) ∧ W.cell? ⟨w.heap.size, 3, none⟩ = some (.slice gA p.grades.length gc)) from fun W e => ⟨e.box 0, e.box 1, e.box 2, e.box 3⟩)
  have HFar := far_any iA jA gA ic jc gc p _ (h.ext HX.out)
  obtain ⟨k0, k1, k2, k3⟩ := HB.out _ (Ext.refl _)
  cases hf : farM p
  · rw [hf] at HFar
    have HFar := Lib.hid HFar
    obtain ⟨hi20, hj20, hg20, hmk⟩ := far_bounds hf
    obtain ⟨lo, hi, rc, hR⟩ : ∃ lo hi rc, rangeM p = ((lo, hi), rc) := ⟨_, _, _, rfl⟩
    obtain ⟨pl, pc, hPt⟩ : ∃ pl pc, pointsM p = (pl, pc) := ⟨_, _, rfl⟩
    obtain ⟨g1, g2, gk, hGr⟩ : ∃ g1 g2 gk, gradeMod p = ((g1, g2), gk) := ⟨_, _, _, rfl⟩
    obtain ⟨bl, bk, hBl⟩ : ∃ bl bk, blameM p = (bl, bk) := ⟨_, _, rfl⟩
    obtain ⟨fn, fk, hFw⟩ : ∃ fn fk, fewestM p = (fn, fk) := ⟨_, _, rfl⟩
    obtain ⟨ck, hck⟩ : ∃ ck, checkE p = ck := ⟨_, rfl⟩
    have hpl : pl.length ≤ 9223372036854775807 := by
      unfold pointsM at hPt
      split at hPt
      · injection hPt with a _; rw [← a, ptsTo_len]; omega
      · injection hPt with a _; rw [← a]; simp
    have hbl : bl.length ≤ 9223372036854775807 := by
      unfold blameM at hBl
      split at hBl
      · injection hBl with a _; rw [← a]; have := blameTo_len (openM p).right p.judges.length; omega
      · injection hBl with a _; rw [← a]; simp
    have HCp := Lib.hid (fun W (e : Ext w W) => copy_any iA jA gA ic jc gc p W (h.ext e) hi20 hj20 hg20 hmk)
    have HQP := Lib.hid (show ∀ (iQ jQ gQ : Option Addr) (iqc jqc gqc : Nat) ms B W, CopyAt W B iQ jQ gQ iqc jqc gqc p ms → PaperAt W iQ jQ gQ p from fun iQ jQ gQ iqc jqc gqc ms B W hc => hc.paper (by omega) (by omega) (by omega) (fun q hq => by have := hmk q hq; omega))
    have HP := Lib.hid (fun W (e : Ext w W) => h.ext e)
    have HCk := Lib.hid (show ∀ a b c d e f W, PaperAt W a b c p → Calls Try.prog 20 #[.agg #[.slice a p.items.length d, .slice b p.judges.length e, .int .i64 p.wrong, .slice c p.grades.length f]] W fun e w' => e = .returned (.int .i64 ck) ∧ Ext W w' from fun a b c d e f W hp => by rw [← hck]; exact checkR_any a b c d e f p W hp)
    have HCq := Lib.hid (show ∀ a b c d e f W, PaperAt W a b c p → Calls Try.prog 39 #[.agg #[.slice a p.items.length d, .slice b p.judges.length e, .int .i64 p.wrong, .slice c p.grades.length f]] W fun e w' => e = .returned (.int .i64 ck) ∧ Ext W w' from fun a b c d e f W hp => by rw [← hck]; exact checkP_any a b c d e f p W hp)
    have HR1 := Lib.hid (fun a b c d e f W hp => range_any a b c d e f p lo hi rc W hp hR)
    have HR2 := Lib.hid (fun a b c d e f W hp => rangeB_any a b c d e f p lo hi rc W hp hR)
    have HP1 := Lib.hid (fun a b c d e f W hp => points_any a b c d e f p pl pc W hp hPt)
    have HP2 := Lib.hid (fun a b c d e f W hp => pointsR_any a b c d e f p pl pc W hp hPt)
    have HG1 := Lib.hid (fun a b c d e f W hp => grade_any a b c d e f p g1 g2 gk W hp hGr)
    have HG2 := Lib.hid (fun a b c d e f W hp => gradeR_any a b c d e f p g1 g2 gk W hp hGr)
    have HB1 := Lib.hid (fun a b c d e f W hp => blame_any a b c d e f p bl bk W hp hBl)
    have HB2 := Lib.hid (fun a b c d e f W hp => blameR_any a b c d e f p bl bk W hp hBl)
    have HF1 := Lib.hid (fun a b c d e f W hp => fewest_any a b c d e f p fn fk W hp hFw)
    have HF2 := Lib.hid (fun a b c d e f W hp => fewestB_any a b c d e f p fn fk W hp hFw)
    clear hR hPt hGr hBl hFw hck hf h hi20 hj20 hg20 hmk
    go_enter Try.func12, Try.ntmps12
    go_wp2_with fail
    refine (HFar.out).mono ?_
    rintro e w1 ⟨rfl, hE1⟩
    have HE1 := Lib.hid ((Ext.refl (w.alloc (.cells #[.slice iA p.items.length ic, .slice jA p.judges.length jc, .int .i64 p.wrong, .slice gA p.grades.length gc] 26))).trans hE1)
    clear k0 k1 k2 k3
    obtain ⟨k0, k1, k2, k3⟩ := HB.out _ HE1.out
    clear hE1
    go_wp2_with fail
    refine (HCp.out _ (HX.out.trans HE1.out)).mono ?_
    rintro e w2 ⟨iQ, jQ, gQ, iqc, jqc, gqc, rfl, hE2, ms, hcp⟩
    have HE2 := Lib.hid (HE1.out.trans hE2)
    have HPQ := Lib.hid (HQP.out _ _ _ iqc jqc gqc _ _ _ hcp)
    have HE2b := Lib.hid (HE2.out.alloc (.cells #[.slice iQ p.items.length iqc, .slice jQ p.judges.length jqc, .int .i64 p.wrong, .slice gQ p.grades.length gqc] 26))
    have HQ := Lib.hid (show ∀ W, Ext (w2.alloc (.cells #[.slice iQ p.items.length iqc, .slice jQ p.judges.length jqc, .int .i64 p.wrong, .slice gQ p.grades.length gqc] 26)) W → (W.cell? ⟨w2.heap.size, 0, none⟩ = some (.slice iQ p.items.length iqc) ∧ W.cell? ⟨w2.heap.size, 1, none⟩ = some (.slice jQ p.judges.length jqc) ∧ W.cell? ⟨w2.heap.size, 2, none⟩ = some (.int .i64 p.wrong) ∧ W.cell? ⟨w2.heap.size, 3, none⟩ = some (.slice gQ p.grades.length gqc)) from fun W e => ⟨e.box 0, e.box 1, e.box 2, e.box 3⟩)
    have HQX := Lib.hid (fun W (e : Ext (w2.alloc (.cells #[.slice iQ p.items.length iqc, .slice jQ p.judges.length jqc, .int .i64 p.wrong, .slice gQ p.grades.length gqc] 26)) W) => HPQ.out.ext ((Ext.of_alloc w2 (.cells #[.slice iQ p.items.length iqc, .slice jQ p.judges.length jqc, .int .i64 p.wrong, .slice gQ p.grades.length gqc] 26)).trans e))
    have HF2b := Lib.hid (Ext.refl (w2.alloc (.cells #[.slice iQ p.items.length iqc, .slice jQ p.judges.length jqc, .int .i64 p.wrong, .slice gQ p.grades.length gqc] 26)))
    clear k0 k1 k2 k3
    obtain ⟨k0, k1, k2, k3⟩ := HB.out _ HE2b.out
    obtain ⟨c0, c1, c2, c3⟩ := HQ.out _ HF2b.out
    clear hE2 hcp
    go_wp2_with fail
    obtain ⟨wa, hwa⟩ : ∃ wa, (w2.alloc (.cells #[.slice iQ p.items.length iqc, .slice jQ p.judges.length jqc, .int .i64 p.wrong, .slice gQ p.grades.length gqc] 26)) = wa := ⟨_, rfl⟩
    rw [hwa] at HE2b HF2b HQ HQX c0 c1 c2 c3 k0 k1 k2 k3 ⊢
    obtain ⟨C, hC⟩ : ∃ C : World → Prop, ∀ W, C W ↔ Ext wa W := ⟨_, fun W => Iff.rfl⟩
    have HC := Lib.hid hC
    have HBx := Lib.hid (show ∀ W, C W → ((W.cell? ⟨w.heap.size, 0, none⟩ = some (.slice iA p.items.length ic) ∧ W.cell? ⟨w.heap.size, 1, none⟩ = some (.slice jA p.judges.length jc) ∧ W.cell? ⟨w.heap.size, 2, none⟩ = some (.int .i64 p.wrong) ∧ W.cell? ⟨w.heap.size, 3, none⟩ = some (.slice gA p.grades.length gc)) ∧ (W.cell? ⟨w2.heap.size, 0, none⟩ = some (.slice iQ p.items.length iqc) ∧ W.cell? ⟨w2.heap.size, 1, none⟩ = some (.slice jQ p.judges.length jqc) ∧ W.cell? ⟨w2.heap.size, 2, none⟩ = some (.int .i64 p.wrong) ∧ W.cell? ⟨w2.heap.size, 3, none⟩ = some (.slice gQ p.grades.length gqc))) from fun W hW =>
      ⟨HB.out _ (HE2b.out.trans ((hC W).1 hW)), HQ.out _ ((hC W).1 hW)⟩)
    have HPa := Lib.hid (fun W hW => ((HCq.out iQ jQ gQ iqc jqc gqc W (HQX.out W ((hC W).1 hW))).mono fun e w1 ⟨he, hE1⟩ => (⟨he, (hC _).2 (((hC W).1 hW).trans hE1)⟩ : e = Ending.returned (.int .i64 ck) ∧ C w1)))
    have HPb := Lib.hid (fun W hW => ((HCk.out iA jA gA ic jc gc W (HP.out W ((HX.out.trans HE2b.out).trans ((hC W).1 hW)))).mono fun e w1 ⟨he, hE1⟩ => (⟨he, (hC _).2 (((hC W).1 hW).trans hE1)⟩ : e = Ending.returned (.int .i64 ck) ∧ C w1)))
    clear hC k0 k1 k2 k3 c0 c1 c2 c3 hwa
    with_reducible refine wp_region_class C (by kernel_rfl) (by kernel_rfl) ((HC.out _).2 (Ext.refl _).drew) ?_
    repeat
      ((with_reducible refine wpQuiet_step (fun K hK => ?_))
       go_simp
       first
       | ((with_reducible refine hK _ ?_); clear hK K)
       | (with_reducible apply Exists.intro
          (with_reducible refine ⟨fun W hW => ?_, hK _ ?_⟩)
          · first | (with_reducible exact HPa.out W hW) | (with_reducible exact HPb.out W hW) | (obtain ⟨⟨k0, k1, k2, k3⟩, c0, c1, c2, c3⟩ := HBx.out W hW; go_simp <;> rfl)
          clear hK K))
    with_reducible refine wpQuiet_nil ?_
    intro w3 hw3
    have HE3 := Lib.hid (HE2b.out.trans ((HC.out _).1 hw3))
    have HF3 := Lib.hid (HF2b.out.trans ((HC.out _).1 hw3))
    obtain ⟨⟨k0, k1, k2, k3⟩, c0, c1, c2, c3⟩ := HBx.out _ hw3
    clear hw3 HC HBx HPa HPb C
    go_wp2_with fail
    refine (HR1.out iQ jQ gQ iqc jqc gqc _ (HQX.out _ HF3.out)).mono ?_
    rintro e w4 ⟨rfl, hE4⟩
    have HE4 := Lib.hid (HE3.out.trans hE4)
    have HF4 := Lib.hid (HF3.out.trans hE4)
    have HE4b := Lib.hid (HE4.out.alloc (.cells #[.int .i64 lo, .int .i64 hi] 35))
    have HF4b := Lib.hid (HF4.out.alloc (.cells #[.int .i64 lo, .int .i64 hi] 35))
    have hbk4 := Lib.hid (Blk.new w4 35 #[.int .i64 lo, .int .i64 hi])
    clear k0 k1 k2 k3
    obtain ⟨k0, k1, k2, k3⟩ := HB.out _ HE4b.out
    clear c0 c1 c2 c3
    obtain ⟨c0, c1, c2, c3⟩ := HQ.out _ HF4b.out
    clear hE4
    go_wp2_with fail
    refine (HR2.out iA jA gA ic jc gc _ (HP.out _ (HX.out.trans HE4b.out))).mono ?_
    rintro e w5 ⟨rfl, hE5⟩
    have HE5 := Lib.hid (HE4b.out.trans hE5)
    have HF5 := Lib.hid (HF4b.out.trans hE5)
    have hs4 := Lib.hid (hbk4.out.ext hE5)
    have HE5b := Lib.hid (HE5.out.alloc (.cells #[.int .i64 lo, .int .i64 hi] 35))
    have HF5b := Lib.hid (HF5.out.alloc (.cells #[.int .i64 lo, .int .i64 hi] 35))
    have hbk5 := Lib.hid (Blk.new w5 35 #[.int .i64 lo, .int .i64 hi])
    clear k0 k1 k2 k3
    obtain ⟨k0, k1, k2, k3⟩ := HB.out _ HE5b.out
    clear c0 c1 c2 c3
    obtain ⟨c0, c1, c2, c3⟩ := HQ.out _ HF5b.out
    clear hE5
    go_wp2_with fail
    refine (HP1.out iQ jQ gQ iqc jqc gqc _ (HQX.out _ HF5b.out)).mono ?_
    rintro e w6 ⟨A6, c6, rfl, hS6, hE6⟩
    have HE6 := Lib.hid (HE5b.out.trans hE6)
    have HF6 := Lib.hid (HF5b.out.trans hE6)
    have HS6 := Lib.hid hS6
    have hs4 := Lib.hid ((hs4.out.ext (Ext.of_alloc _ (.cells #[.int .i64 lo, .int .i64 hi] 35))).ext hE6)
    have hs5 := Lib.hid (hbk5.out.ext hE6)
    clear hS6
    clear k0 k1 k2 k3
    obtain ⟨k0, k1, k2, k3⟩ := HB.out _ HE6.out
    clear c0 c1 c2 c3
    obtain ⟨c0, c1, c2, c3⟩ := HQ.out _ HF6.out
    clear hE6
    go_wp2_with fail
    refine (HP2.out iA jA gA ic jc gc _ (HP.out _ (HX.out.trans HE6.out))).mono ?_
    rintro e w7 ⟨A7, c7, rfl, hS7, hE7⟩
    have HE7 := Lib.hid (HE6.out.trans hE7)
    have HF7 := Lib.hid (HF6.out.trans hE7)
    have HS6 := Lib.hid (HS6.out.ext hE7)
    have HS7 := Lib.hid hS7
    clear hS7
    have s0 : w7.cell? ⟨w4.heap.size, 0, none⟩ = some (.int .i64 lo) := (hs4.out.ext hE7).cell 0
    have s1 : w7.cell? ⟨w4.heap.size, 1, none⟩ = some (.int .i64 hi) := (hs4.out.ext hE7).cell 1
    have s2 : w7.cell? ⟨w5.heap.size, 0, none⟩ = some (.int .i64 lo) := (hs5.out.ext hE7).cell 0
    have s3 : w7.cell? ⟨w5.heap.size, 1, none⟩ = some (.int .i64 hi) := (hs5.out.ext hE7).cell 1
    clear k0 k1 k2 k3
    obtain ⟨k0, k1, k2, k3⟩ := HB.out _ HE7.out
    clear c0 c1 c2 c3
    obtain ⟨c0, c1, c2, c3⟩ := HQ.out _ HF7.out
    clear hE7
    go_wp2_with fail
    refine (sameSpans_any A6 A7 c6 c7 pl _ HS6.out HS7.out hpl).mono ?_
    rintro e w8 ⟨rfl, hE8⟩
    have HE8 := Lib.hid (HE7.out.trans hE8)
    have HF8 := Lib.hid (HF7.out.trans hE8)
    clear s0 s1 s2 s3
    clear k0 k1 k2 k3
    obtain ⟨k0, k1, k2, k3⟩ := HB.out _ HE8.out
    clear c0 c1 c2 c3
    obtain ⟨c0, c1, c2, c3⟩ := HQ.out _ HF8.out
    clear hE8
    go_wp2_with fail
    refine (HG1.out iQ jQ gQ iqc jqc gqc _ (HQX.out _ HF8.out)).mono ?_
    rintro e w9 ⟨rfl, hE9⟩
    have HE9 := Lib.hid (HE8.out.trans hE9)
    have HF9 := Lib.hid (HF8.out.trans hE9)
    have HE9b := Lib.hid (HE9.out.alloc (.cells #[.int .i64 g1, .int .i64 g2] 35))
    have HF9b := Lib.hid (HF9.out.alloc (.cells #[.int .i64 g1, .int .i64 g2] 35))
    have hbk9 := Lib.hid (Blk.new w9 35 #[.int .i64 g1, .int .i64 g2])
    clear k0 k1 k2 k3
    obtain ⟨k0, k1, k2, k3⟩ := HB.out _ HE9b.out
    clear c0 c1 c2 c3
    obtain ⟨c0, c1, c2, c3⟩ := HQ.out _ HF9b.out
    clear hE9
    go_wp2_with fail
    refine (HG2.out iA jA gA ic jc gc _ (HP.out _ (HX.out.trans HE9b.out))).mono ?_
    rintro e w10 ⟨rfl, hE10⟩
    have HE10 := Lib.hid (HE9b.out.trans hE10)
    have HF10 := Lib.hid (HF9b.out.trans hE10)
    have hs9 := Lib.hid (hbk9.out.ext hE10)
    have HE10b := Lib.hid (HE10.out.alloc (.cells #[.int .i64 g1, .int .i64 g2] 35))
    have HF10b := Lib.hid (HF10.out.alloc (.cells #[.int .i64 g1, .int .i64 g2] 35))
    have hbk10 := Lib.hid (Blk.new w10 35 #[.int .i64 g1, .int .i64 g2])
    clear k0 k1 k2 k3
    obtain ⟨k0, k1, k2, k3⟩ := HB.out _ HE10b.out
    clear c0 c1 c2 c3
    obtain ⟨c0, c1, c2, c3⟩ := HQ.out _ HF10b.out
    clear hE10
    go_wp2_with fail
    refine (HB1.out iQ jQ gQ iqc jqc gqc _ (HQX.out _ HF10b.out)).mono ?_
    rintro e w11 ⟨A11, c11, rfl, hS11, hE11⟩
    have HE11 := Lib.hid (HE10b.out.trans hE11)
    have HF11 := Lib.hid (HF10b.out.trans hE11)
    have HS11 := Lib.hid hS11
    have hs9 := Lib.hid ((hs9.out.ext (Ext.of_alloc _ (.cells #[.int .i64 g1, .int .i64 g2] 35))).ext hE11)
    have hs10 := Lib.hid (hbk10.out.ext hE11)
    clear hS11
    clear k0 k1 k2 k3
    obtain ⟨k0, k1, k2, k3⟩ := HB.out _ HE11.out
    clear c0 c1 c2 c3
    obtain ⟨c0, c1, c2, c3⟩ := HQ.out _ HF11.out
    clear hE11
    go_wp2_with fail
    refine (HB2.out iA jA gA ic jc gc _ (HP.out _ (HX.out.trans HE11.out))).mono ?_
    rintro e w12 ⟨A12, c12, rfl, hS12, hE12⟩
    have HE12 := Lib.hid (HE11.out.trans hE12)
    have HF12 := Lib.hid (HF11.out.trans hE12)
    have HS11 := Lib.hid (HS11.out.ext hE12)
    have HS12 := Lib.hid hS12
    have hs9 := Lib.hid (hs9.out.ext hE12)
    have hs10 := Lib.hid (hs10.out.ext hE12)
    clear hS12
    clear k0 k1 k2 k3
    obtain ⟨k0, k1, k2, k3⟩ := HB.out _ HE12.out
    clear c0 c1 c2 c3
    obtain ⟨c0, c1, c2, c3⟩ := HQ.out _ HF12.out
    clear hE12
    go_wp2_with fail
    refine (HF1.out iQ jQ gQ iqc jqc gqc _ (HQX.out _ HF12.out)).mono ?_
    rintro e w13 ⟨rfl, hE13⟩
    have HE13 := Lib.hid (HE12.out.trans hE13)
    have HF13 := Lib.hid (HF12.out.trans hE13)
    have HS11 := Lib.hid (HS11.out.ext hE13)
    have HS12 := Lib.hid (HS12.out.ext hE13)
    have hs9 := Lib.hid (hs9.out.ext hE13)
    have hs10 := Lib.hid (hs10.out.ext hE13)
    clear k0 k1 k2 k3
    obtain ⟨k0, k1, k2, k3⟩ := HB.out _ HE13.out
    clear c0 c1 c2 c3
    obtain ⟨c0, c1, c2, c3⟩ := HQ.out _ HF13.out
    clear hE13
    go_wp2_with fail
    refine (HF2.out iA jA gA ic jc gc _ (HP.out _ (HX.out.trans HE13.out))).mono ?_
    rintro e w14 ⟨rfl, hE14⟩
    have HE14 := Lib.hid (HE13.out.trans hE14)
    have HF14 := Lib.hid (HF13.out.trans hE14)
    have HS11 := Lib.hid (HS11.out.ext hE14)
    have HS12 := Lib.hid (HS12.out.ext hE14)
    have s0 : w14.cell? ⟨w9.heap.size, 0, none⟩ = some (.int .i64 g1) := (hs9.out.ext hE14).cell 0
    have s1 : w14.cell? ⟨w9.heap.size, 1, none⟩ = some (.int .i64 g2) := (hs9.out.ext hE14).cell 1
    have s2 : w14.cell? ⟨w10.heap.size, 0, none⟩ = some (.int .i64 g1) := (hs10.out.ext hE14).cell 0
    have s3 : w14.cell? ⟨w10.heap.size, 1, none⟩ = some (.int .i64 g2) := (hs10.out.ext hE14).cell 1
    clear k0 k1 k2 k3
    obtain ⟨k0, k1, k2, k3⟩ := HB.out _ HE14.out
    clear c0 c1 c2 c3
    obtain ⟨c0, c1, c2, c3⟩ := HQ.out _ HF14.out
    clear hE14
    have HSm := sameInts_any A11 A12 c11 c12 bl bl w14 HS11.out HS12.out hbl hbl
    rw [decide_eq_true rfl] at HSm
    have HSn := Lib.hid HSm
    clear HSm
    go_wp2_with fail
    refine (HSn.out).mono ?_
    rintro e w15 ⟨rfl, hE15⟩
    have HE15 := Lib.hid (HE14.out.trans hE15)
    have HF15 := Lib.hid (HF14.out.trans hE15)
    clear k0 k1 k2 k3
    obtain ⟨k0, k1, k2, k3⟩ := HB.out _ HE15.out
    clear c0 c1 c2 c3
    obtain ⟨c0, c1, c2, c3⟩ := HQ.out _ HF15.out
    clear hE15
    go_wp2_with fail
    refine (works_any _).mono ?_
    rintro e w16 ⟨rfl, hE16⟩
    have HE16 := Lib.hid (HE15.out.trans hE16)
    have HF16 := Lib.hid (HF15.out.trans hE16)
    clear k0 k1 k2 k3
    obtain ⟨k0, k1, k2, k3⟩ := HB.out _ HE16.out
    clear c0 c1 c2 c3
    obtain ⟨c0, c1, c2, c3⟩ := HQ.out _ HF16.out
    clear hE16
    go_wp2
    go_ret
    exact ⟨rfl, HX.out.trans HE16.out⟩
  · rw [hf] at HFar
    have HFar := Lib.hid HFar
    clear hf h
    go_enter Try.func12, Try.ntmps12
    go_wp2_with fail
    refine (HFar.out).mono ?_
    rintro e w1 ⟨rfl, hE1⟩
    have HE1 := Lib.hid ((Ext.refl (w.alloc (.cells #[.slice iA p.items.length ic, .slice jA p.judges.length jc, .int .i64 p.wrong, .slice gA p.grades.length gc] 26))).trans hE1)
    clear k0 k1 k2 k3
    obtain ⟨k0, k1, k2, k3⟩ := HB.out _ HE1.out
    clear hE1
    go_wp2_with fail
    refine (works_any _).mono ?_
    rintro e w2 ⟨rfl, hE2⟩
    have HE2 := Lib.hid (HE1.out.trans hE2)
    clear k0 k1 k2 k3
    obtain ⟨k0, k1, k2, k3⟩ := HB.out _ HE2.out
    clear hE2
    go_wp2
    go_ret
    exact ⟨rfl, HX.out.trans HE2.out⟩
end Go.Proofs.Ytbpilgflejdhaaa
