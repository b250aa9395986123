/- Exams: the walk over Copy. -/
import Derived.Test.YtbpilgflejdhaaaExW0
import Derived.Deep.RegionHeld3
import Derived.Deep.DeepCutAuto
namespace Go.Proofs.Ytbpilgflejdhaaa
open Go.RowKit

theorem item_info : (Try.prog.info? 90).map (fun i => (i.zero, i.size, i.bytes)) = some (some (.agg #[.int .i64 0, .int .i64 0]), 2, 16) := by kernel_rfl
theorem int_info' : (Try.prog.info? 3).map (fun i => (i.zero, i.size, i.bytes)) = some (some (.int .i64 0), 1, 8) := by kernel_rfl
theorem judge_info : (Try.prog.info? 37).map (fun i => (i.zero, i.size, i.bytes)) = some (some (.agg #[.int .i64 0, .int .i64 0, .int .i64 0, .slice none 0 0]), 4, 48) := by kernel_rfl

theorem bcell {W w1 : World} (hb : Ext W w1) : (∀ b o, b < W.heap.size → w1.cell? ⟨b, o, none⟩ = W.cell? ⟨b, o, none⟩) ∧ (∀ b o, b < W.heap.size → w1.frozen? ⟨b, o, none⟩ = W.frozen? ⟨b, o, none⟩) :=
  ⟨fun b o h => Below.cell hb (p := ⟨b, o, none⟩) h, fun b o h => Below.frozen hb (p := ⟨b, o, none⟩) h⟩

set_option maxHeartbeats 20000000 in
set_option maxRecDepth 100000 in
theorem copy_any (iA jA gA : Option Addr) (ic jc gc : Nat) (p : Paper) (w : World) (h : PaperAt w iA jA gA p) (hil : p.items.length ≤ 20) (hjl : p.judges.length ≤ 20) (hgl : p.grades.length ≤ 20) (hml : ∀ k, k < p.judges.length → (p.judges.getD k default).marks.length ≤ 20) :
    Calls Try.prog 16 #[.agg #[.slice iA p.items.length ic, .slice jA p.judges.length jc, .int .i64 p.wrong, .slice gA p.grades.length gc]] w fun e w' => ∃ iA' jA' gA' ic' jc' gc', e = .returned (.agg #[.slice iA' p.items.length ic', .slice jA' p.judges.length jc', .int .i64 p.wrong, .slice gA' p.grades.length gc']) ∧ Ext w w' ∧ ∃ ms, CopyAt w' w.heap.size iA' jA' gA' ic' jc' gc' p ms := by
  obtain ⟨i0, hi0, hz0, hz1, hz2⟩ := info_parts item_info
  obtain ⟨i1, hi1, hy0, hy1, hy2⟩ := info_parts int_info'
  obtain ⟨i2, hi2, hx0, hx1, hx2⟩ := info_parts judge_info
  have H := Lib.hid h
  have HML := Lib.hid hml
  have HI := Lib.hid (fun W (e : Ext w W) => (h.items.ext e).cells)
  have HG := Lib.hid (fun W (e : Ext w W) => (h.grades.ext e).cells)
  have HIn := Lib.hid h.items.nil
  have HGn := Lib.hid h.grades.nil
  have HIl := Lib.hid (itemCells_len p.items)
  have HGl := Lib.hid (show (p.grades.map (Value.int .i64)).length = p.grades.length * 1 by simp)
  have H63 := Lib.hid (show p.items.length ≤ maxLen ∧ p.grades.length ≤ maxLen by simp [maxLen]; omega)
  clear h hml
  have HK := Lib.hid (show ∀ W, Ext ((w.alloc (.cells #[.slice iA p.items.length ic, .slice jA p.judges.length jc, .int .i64 p.wrong, .slice gA p.grades.length gc] 26)).alloc (.cells #[.slice none 0 0, .slice none 0 0, .int .i64 0, .slice none 0 0] 26)) W → (W.cell? ⟨w.heap.size, 0, none⟩ = some (.slice iA p.items.length ic) ∧ W.cell? ⟨w.heap.size, 1, none⟩ = some (.slice jA p.judges.length jc) ∧ W.cell? ⟨w.heap.size, 2, none⟩ = some (.int .i64 p.wrong) ∧ W.cell? ⟨w.heap.size, 3, none⟩ = some (.slice gA p.grades.length gc)) from fun W e =>
    ⟨e.unalloc.box 0, e.unalloc.box 1, e.unalloc.box 2, e.unalloc.box 3⟩)
  go_enter Try.func16, Try.ntmps16
  go_upto_region 1 with fail
  go_cut [3] (fun s3 wx => ∃ g iA' ic' gA' gc', s3 = .pointer (some ⟨g, 0, none⟩) ∧ Blk wx g 26 #[.slice iA' p.items.length ic', .slice none 0 0, .int .i64 p.wrong, .slice gA' p.grades.length gc'] ∧ RowAt wx 90 2 iA' p.items.length ic' (itemCells p.items) ∧ RowAt wx 3 1 gA' p.grades.length gc' (p.grades.map (.int .i64)) ∧
    Ext ((w.alloc (.cells #[.slice iA p.items.length ic, .slice jA p.judges.length jc, .int .i64 p.wrong, .slice gA p.grades.length gc] 26)).alloc (.cells #[.slice none 0 0, .slice none 0 0, .int .i64 0, .slice none 0 0] 26)) wx ∧ w.heap.size + 2 ≤ g)
  case first =>
    obtain ⟨w0, hw0⟩ : ∃ w0, (w.alloc (.cells #[.slice iA p.items.length ic, .slice jA p.judges.length jc, .int .i64 p.wrong, .slice gA p.grades.length gc] 26)).alloc (.cells #[.slice none 0 0, .slice none 0 0, .int .i64 0, .slice none 0 0] 26) = w0 := ⟨_, rfl⟩
    have HW0 := Lib.hid (show Ext w w0 by rw [← hw0]; exact (Ext.of_alloc _ _).alloc _)
    have HW0E := Lib.hid (show Ext ((w.alloc (.cells #[.slice iA p.items.length ic, .slice jA p.judges.length jc, .int .i64 p.wrong, .slice gA p.grades.length gc] 26)).alloc (.cells #[.slice none 0 0, .slice none 0 0, .int .i64 0, .slice none 0 0] 26)) w0 by rw [hw0]; exact Ext.refl _)
    have hsz : w0.heap.size = w.heap.size + 2 := by rw [← hw0]; simp
    rw [hw0] at HK ⊢
    obtain ⟨h0, h1, h2, h3⟩ := HK.out _ (Ext.refl _)
    have HSZ := Lib.hid hsz
    clear hsz hw0
    go_region_held3 (fun w' => w'.cell? ⟨w.heap.size, 0, none⟩ = some (.slice iA p.items.length ic) ∧ w'.cell? ⟨w.heap.size, 1, none⟩ = some (.slice jA p.judges.length jc) ∧ w'.cell? ⟨w.heap.size, 2, none⟩ = some (.int .i64 p.wrong) ∧ w'.cell? ⟨w.heap.size, 3, none⟩ = some (.slice gA p.grades.length gc))
      (exact HK.out _ (by repeat (first | with_reducible exact Ext.refl _ | with_reducible exact HE5.out | with_reducible exact HE6.out | with_reducible refine Ext.drew ?_ | with_reducible refine Ext.alloc ?_ _ | ((with_reducible refine Below.setCell ?_ ?_ _); rotate_left; (simp; try omega)))))
      (first
        | (refine step_append_fresh (by rfl) _ _ 22 (by rfl) 90 i0 _ 2 16 Try.underlying22 hi0 hz0 hz1 hz2 rfl _ (by rfl) iA p.items.length ic (by rfl) (itemCells p.items) HIn.out HIl.out (HI.out _ (HW0.out.trans (by repeat (first | with_reducible exact Ext.refl _ | with_reducible exact HE5.out | with_reducible exact HE6.out | with_reducible refine Ext.drew ?_ | with_reducible refine Ext.alloc ?_ _)))) H63.out.1 (by omega) ?_
           intro iA' ic' w5 hF5
           have HF5 := Lib.hid (RowAt.of_fresh hF5)
           have HE5 : Hid (Ext w0 w5) := Lib.hid (Ext.trans (by repeat (first | with_reducible exact Ext.refl _ | with_reducible exact HE6.out | with_reducible refine Ext.drew ?_ | with_reducible refine Ext.alloc ?_ _)) hF5.1)
           have HE5' := Lib.hid hF5.1
           obtain ⟨hc5, hf5⟩ := bcell hF5.1
           have hz5 := hF5.1.size
           have hs5 : w0.heap.size ≤ w5.heap.size := HE5.out.size
           try simp at hz5
           clear hF5
           try (have hq : w0.heap.size < w5.heap.size := by omega)
           try (have hq : ¬ w0.heap.size = w5.heap.size := by omega)
           try (have hq : ¬ w5.heap.size = w0.heap.size := by omega)
           try (have hq : w0.heap.size + 1 < w5.heap.size := by omega)
           try (have hq : ¬ w0.heap.size + 1 = w5.heap.size := by omega)
           try (have hq : ¬ w5.heap.size = w0.heap.size + 1 := by omega)
           try (have hq : w0.heap.size + 1 + 1 < w5.heap.size := by omega)
           try (have hq : ¬ w0.heap.size + 1 + 1 = w5.heap.size := by omega)
           try (have hq : ¬ w5.heap.size = w0.heap.size + 1 + 1 := by omega)
           try (have hq : w0.heap.size + 1 + 1 + 1 < w5.heap.size := by omega)
           try (have hq : ¬ w0.heap.size + 1 + 1 + 1 = w5.heap.size := by omega)
           try (have hq : ¬ w5.heap.size = w0.heap.size + 1 + 1 + 1 := by omega)
           try (have hq : w6.heap.size < w5.heap.size := by omega)
           try (have hq : ¬ w6.heap.size = w5.heap.size := by omega)
           try (have hq : ¬ w5.heap.size = w6.heap.size := by omega)
           try (have hq : w6.heap.size + 1 < w5.heap.size := by omega)
           try (have hq : ¬ w6.heap.size + 1 = w5.heap.size := by omega)
           try (have hq : ¬ w5.heap.size = w6.heap.size + 1 := by omega)
           try (have hq : w6.heap.size + 1 + 1 < w5.heap.size := by omega)
           try (have hq : ¬ w6.heap.size + 1 + 1 = w5.heap.size := by omega)
           try (have hq : ¬ w5.heap.size = w6.heap.size + 1 + 1 := by omega)
           try (have hq : w6.heap.size + 1 + 1 + 1 < w5.heap.size := by omega)
           try (have hq : ¬ w6.heap.size + 1 + 1 + 1 = w5.heap.size := by omega)
           try (have hq : ¬ w5.heap.size = w6.heap.size + 1 + 1 + 1 := by omega))
        | (refine step_append_fresh (by rfl) _ _ 24 (by rfl) 3 i1 _ 1 8 Try.underlying24 hi1 hy0 hy1 hy2 rfl _ (by rfl) gA p.grades.length gc (by rfl) (p.grades.map (Value.int .i64)) HGn.out HGl.out (HG.out _ (HW0.out.trans (by repeat (first | with_reducible exact Ext.refl _ | with_reducible exact HE5.out | with_reducible exact HE6.out | with_reducible refine Ext.drew ?_ | with_reducible refine Ext.alloc ?_ _)))) H63.out.2 (by omega) ?_
           intro gA' gc' w6 hF6
           have HF6 := Lib.hid (RowAt.of_fresh hF6)
           have HE6 : Hid (Ext w0 w6) := Lib.hid (Ext.trans (by repeat (first | with_reducible exact Ext.refl _ | with_reducible exact HE5.out | with_reducible refine Ext.drew ?_ | with_reducible refine Ext.alloc ?_ _)) hF6.1)
           have HE6' := Lib.hid hF6.1
           obtain ⟨hc6, hf6⟩ := bcell hF6.1
           have hz6 := hF6.1.size
           have hs6 : w0.heap.size ≤ w6.heap.size := HE6.out.size
           try simp at hz6
           clear hF6
           try (have hq : w0.heap.size < w6.heap.size := by omega)
           try (have hq : ¬ w0.heap.size = w6.heap.size := by omega)
           try (have hq : ¬ w6.heap.size = w0.heap.size := by omega)
           try (have hq : w0.heap.size + 1 < w6.heap.size := by omega)
           try (have hq : ¬ w0.heap.size + 1 = w6.heap.size := by omega)
           try (have hq : ¬ w6.heap.size = w0.heap.size + 1 := by omega)
           try (have hq : w0.heap.size + 1 + 1 < w6.heap.size := by omega)
           try (have hq : ¬ w0.heap.size + 1 + 1 = w6.heap.size := by omega)
           try (have hq : ¬ w6.heap.size = w0.heap.size + 1 + 1 := by omega)
           try (have hq : w0.heap.size + 1 + 1 + 1 < w6.heap.size := by omega)
           try (have hq : ¬ w0.heap.size + 1 + 1 + 1 = w6.heap.size := by omega)
           try (have hq : ¬ w6.heap.size = w0.heap.size + 1 + 1 + 1 := by omega)
           try (have hq : w5.heap.size < w6.heap.size := by omega)
           try (have hq : ¬ w5.heap.size = w6.heap.size := by omega)
           try (have hq : ¬ w6.heap.size = w5.heap.size := by omega)
           try (have hq : w5.heap.size + 1 < w6.heap.size := by omega)
           try (have hq : ¬ w5.heap.size + 1 = w6.heap.size := by omega)
           try (have hq : ¬ w6.heap.size = w5.heap.size + 1 := by omega)
           try (have hq : w5.heap.size + 1 + 1 < w6.heap.size := by omega)
           try (have hq : ¬ w5.heap.size + 1 + 1 = w6.heap.size := by omega)
           try (have hq : ¬ w6.heap.size = w5.heap.size + 1 + 1 := by omega)
           try (have hq : w5.heap.size + 1 + 1 + 1 < w6.heap.size := by omega)
           try (have hq : ¬ w5.heap.size + 1 + 1 + 1 = w6.heap.size := by omega)
           try (have hq : ¬ w6.heap.size = w5.heap.size + 1 + 1 + 1 := by omega)))
    all_goals
      have HB0 : ∀ W W' g, Ext W W' → Blk W g 26 #[.slice none 0 0, .slice none 0 0, .int .i64 0, .slice none 0 0] → Blk W' g 26 #[.slice none 0 0, .slice none 0 0, .int .i64 0, .slice none 0 0] := fun W W' g e h => h.ext e
      go_wp2_with fail
      go_meet
      refine ⟨_, iA', ic', gA', gc', rfl, ?_, ?_, ?_, HW0E.out.trans (?_), ?_⟩
      · first
        | ((with_reducible refine blk_set4 (x0 := .slice none 0 0) (x1 := .slice none 0 0) (x2 := .int .i64 0) (x3 := .slice none 0 0) ?_ _ _ _ _)
           (repeat (first | ((with_reducible refine Blk.new' ?_); (simp; done)) | with_reducible refine Blk.drew ?_ | with_reducible refine Blk.alloc ?_ _ | with_reducible refine HB0 _ _ _ HE5'.out ?_ | with_reducible refine HB0 _ _ _ HE6'.out ?_)); done)
        | ((with_reducible refine Blk.new' ?_); (simp; done))
        | ((with_reducible refine Blk.drew ?_); (with_reducible refine Blk.new' ?_); (simp; done))
      · first
        | ((with_reducible refine RowAt.set4 (t := 26) (cs := #[.slice none 0 0, .slice none 0 0, .int .i64 0, .slice none 0 0]) ?_ ?_ (by decide) _ _ _ _)
           · repeat (first | with_reducible exact HF5.out | with_reducible refine RowAt.drew ?_ | with_reducible refine RowAt.alloc ?_ _ | with_reducible refine RowAt.ext ?_ HE6'.out)
           · repeat (first | ((with_reducible refine Blk.new' ?_); (simp; done)) | with_reducible refine Blk.drew ?_ | with_reducible refine Blk.alloc ?_ _ | with_reducible refine HB0 _ _ _ HE5'.out ?_ | with_reducible refine HB0 _ _ _ HE6'.out ?_))
        | ((repeat (first | with_reducible exact HF5.out | with_reducible refine RowAt.drew ?_ | with_reducible refine RowAt.alloc ?_ _ | with_reducible refine RowAt.ext ?_ HE6'.out)); done)
      · first
        | ((with_reducible refine RowAt.set4 (t := 26) (cs := #[.slice none 0 0, .slice none 0 0, .int .i64 0, .slice none 0 0]) ?_ ?_ (by decide) _ _ _ _)
           · repeat (first | with_reducible exact HF6.out | with_reducible refine RowAt.drew ?_ | with_reducible refine RowAt.alloc ?_ _ | with_reducible refine RowAt.ext ?_ HE5'.out)
           · repeat (first | ((with_reducible refine Blk.new' ?_); (simp; done)) | with_reducible refine Blk.drew ?_ | with_reducible refine Blk.alloc ?_ _ | with_reducible refine HB0 _ _ _ HE5'.out ?_ | with_reducible refine HB0 _ _ _ HE6'.out ?_))
        | ((repeat (first | with_reducible exact HF6.out | with_reducible refine RowAt.drew ?_ | with_reducible refine RowAt.alloc ?_ _ | with_reducible refine RowAt.ext ?_ HE5'.out)); done)
      · repeat (first | with_reducible exact Ext.refl _ | with_reducible exact HE5.out | with_reducible exact HE6.out | with_reducible refine Ext.drew ?_ | with_reducible refine Ext.alloc ?_ _ | ((with_reducible refine Below.setCell ?_ ?_ _); rotate_left; (simp; try omega)))
      · have q1 := HSZ.out
        omega
  case rest =>
    obtain ⟨g, iA', ic', gA', gc', rfl, hB, hI, hG, hE, hg⟩ := hcut
    have HE := Lib.hid hE
    have hb0 : ∀ i, wc.cell? ⟨w.heap.size, i, none⟩ = #[Value.slice iA p.items.length ic, .slice jA p.judges.length jc, .int .i64 p.wrong, .slice gA p.grades.length gc][i]? := hE.unalloc.box
    obtain ⟨wb, rfl⟩ : ∃ wb : World, wb = wc := ⟨_, rfl⟩
    have HB := Lib.hid hB
    have HIr := Lib.hid hI
    have HGr := Lib.hid hG
    have hgb := hB.lt
    have HX := Lib.hid (show Ext w ((w.alloc (.cells #[.slice iA p.items.length ic, .slice jA p.judges.length jc, .int .i64 p.wrong, .slice gA p.grades.length gc] 26)).alloc (.cells #[.slice none 0 0, .slice none 0 0, .int .i64 0, .slice none 0 0] 26)) from (Ext.of_alloc _ _).alloc _)
    have Hcb := Lib.hid hE.size
    have Hcg := Lib.hid (show ((w.alloc (.cells #[.slice iA p.items.length ic, .slice jA p.judges.length jc, .int .i64 p.wrong, .slice gA p.grades.length gc] 26)).alloc (.cells #[.slice none 0 0, .slice none 0 0, .int .i64 0, .slice none 0 0] 26)).heap.size ≤ g by simp; omega)
    clear hB hI hG hE
    go_wp2_with fail
    go_loopw [4] (fun v4 wr => ∃ k : Nat, k ≤ p.judges.length ∧ v4 = .int .i64 k ∧ Ext ((w.alloc (.cells #[.slice iA p.items.length ic, .slice jA p.judges.length jc, .int .i64 p.wrong, .slice gA p.grades.length gc] 26)).alloc (.cells #[.slice none 0 0, .slice none 0 0, .int .i64 0, .slice none 0 0] 26)) wr ∧
      wb.heap.size ≤ wr.heap.size ∧ RowAt wr 90 2 iA' p.items.length ic' (itemCells p.items) ∧ RowAt wr 3 1 gA' p.grades.length gc' (p.grades.map (.int .i64)) ∧
      ∃ jA' jc' ms, Blk wr g 26 #[.slice iA' p.items.length ic', .slice jA' k jc', .int .i64 p.wrong, .slice gA' p.grades.length gc'] ∧ ms.length = k ∧ wr.ownsRow wb.heap.size 37 4 (.slice jA' k jc') k (jCells (p.judges.take k) ms) ∧
        ∀ j, j < k → RowAt wr 3 1 (ms.getD j (none, 0)).1 (p.judges.getD j default).marks.length (ms.getD j (none, 0)).2 ((p.judges.getD j default).marks.map (.int .i64))) (fun v4 _ => p.judges.length - (intOf v4).toNat)
    case atStart => exact ⟨0, by omega, rfl, HE.out, Nat.le_refl _, HIr.out, HGr.out, none, 0, [], HB.out, rfl, World.ownsRow_nil _ _ _ _, fun j h => by omega⟩
    case round =>
      obtain ⟨k, hk, rfl, hE, hsz, hI, hG, jA', jc', ms, hB, hms, hown, hmk⟩ := hrel
      have HE := Lib.hid hE
      have HIr := Lib.hid hI
      have HGr := Lib.hid hG
      have HEr := Lib.hid hE
      have HB := Lib.hid hB
      have Hown := Lib.hid hown
      have HMk := Lib.hid hmk
      have hb0 : ∀ i, wr.cell? ⟨w.heap.size, i, none⟩ = #[Value.slice iA p.items.length ic, .slice jA p.judges.length jc, .int .i64 p.wrong, .slice gA p.grades.length gc][i]? := hE.unalloc.box
      have hgr := hB.lt
      clear hI hG hB hown hmk
      by_cases hlt : k < p.judges.length
      · obtain ⟨bj, oj, lo, hi, err, ma, mA, mc, rfl, hbj, hcj1, hcj2, hcj3, hcj4, hma, hml, hx⟩ := (H.out.judges.ext (HX.out.trans hE)).get hlt
        have hml20 : ma.length ≤ 20 := by have := HML.out k hlt; rw [hx.out] at this; exact this
        have HMa := Lib.hid (fun W (e : Ext wr W) => (hma.ext e).cells)
        have HMn := Lib.hid hma.nil
        have HMl := Lib.hid (show (ma.map (Value.int .i64)).length = ma.length * 1 by simp)
        have HM63 := Lib.hid (show ma.length ≤ maxLen by simp [maxLen]; omega)
        have HEb := Lib.hid (show Ext wr (((wr.alloc (.cells #[.int .i64 lo, .int .i64 hi, .int .i64 err, .slice mA ma.length mc] 37)).alloc (.cells #[] 3))) from (Ext.of_alloc _ _).alloc _)
        clear hE hma
        have HNx := Lib.hid (show ∀ w5 mA' mc', FreshRow ((wr.alloc (.cells #[.int .i64 lo, .int .i64 hi, .int .i64 err, .slice mA ma.length mc] 37)).alloc (.cells #[] 3)) w5 3 1 mA' ma.length mc' (ma.map (.int .i64)) →
            (Ext wr w5 ∧ Blk w5 wr.heap.size 37 #[.int .i64 lo, .int .i64 hi, .int .i64 err, .slice mA ma.length mc] ∧ RowAt w5 3 1 mA' ma.length mc' (ma.map (.int .i64)) ∧ Blk w5 g 26 #[.slice iA' p.items.length ic', .slice jA' k jc', .int .i64 p.wrong, .slice gA' p.grades.length gc'] ∧ wr.heap.size < w5.heap.size) from fun w5 mA' mc' hF =>
          ⟨HEb.out.trans hF.1, ((Blk.new wr 37 _).alloc _).ext hF.1, RowAt.of_fresh hF, HB.out.ext (HEb.out.trans hF.1), by have := hF.1.size; simp at this; omega⟩)
        have HNews := Lib.hid (fun (w5 : World) mA' mc' => (Blk.news (show Blk ((w5.setCell ⟨wr.heap.size, 3, none⟩ (.slice mA' ma.length mc')).alloc (.cells #[.int .i64 lo, .int .i64 hi, .int .i64 err, .slice mA' ma.length mc'] 37)) w5.heap.size 37 [.int .i64 lo, .int .i64 hi, .int .i64 err, .slice mA' ma.length mc'].toArray from Blk.new' (by simp))))
        have HK63 := Lib.hid (show k + 1 ≤ maxLen by simp [maxLen]; omega)
        have HSz := Lib.hid (show ∀ (w5 : World) mA' mc', Ext wr (w5.setCell ⟨wr.heap.size, 3, none⟩ (.slice mA' ma.length mc')) → wb.heap.size ≤ ((w5.setCell ⟨wr.heap.size, 3, none⟩ (.slice mA' ma.length mc')).alloc (.cells #[.int .i64 lo, .int .i64 hi, .int .i64 err, .slice mA' ma.length mc'] 37)).heap.size from fun w5 mA' mc' e => by have := e.size; simp at this ⊢; omega)
        have hgne : ¬ g = wr.heap.size := by omega
        have hgne' : ¬ wr.heap.size = g := by omega
        go_wp2_with (first
          | (at_builtin; refine wpList_append_fresh rfl _ _ 24 rfl 3 i1 _ 1 8 Try.underlying24 hi1 hy0 hy1 hy2 rfl _ rfl mA ma.length mc rfl (ma.map (Value.int .i64)) HMn.out HMl.out (HMa.out _ HEb.out) HM63.out (by omega) ?_
             intro mA' mc' w5 hF5
             obtain ⟨hE5, hB5, hR5, hG5, hz5⟩ := HNx.out _ _ _ hF5
             have HE5 := Lib.hid hE5
             have HR5 := Lib.hid hR5
             have hB6 := hB5.set 3 (.slice mA' ma.length mc')
             have hG6 := hG5.far (p := ⟨wr.heap.size, 3, none⟩) (by omega) (.slice mA' ma.length mc')
             have x3 : w5.cell? ⟨wr.heap.size, 3, none⟩ = some (.slice mA ma.length mc) := hB5.cell 3
             have xf := hB5.free 3
             have y0 : (w5.setCell ⟨wr.heap.size, 3, none⟩ (.slice mA' ma.length mc')).cell? ⟨wr.heap.size, 0, none⟩ = some (.int .i64 lo) := hB6.cell 0
             have y1 : (w5.setCell ⟨wr.heap.size, 3, none⟩ (.slice mA' ma.length mc')).cell? ⟨wr.heap.size, 1, none⟩ = some (.int .i64 hi) := hB6.cell 1
             have y2 : (w5.setCell ⟨wr.heap.size, 3, none⟩ (.slice mA' ma.length mc')).cell? ⟨wr.heap.size, 2, none⟩ = some (.int .i64 err) := hB6.cell 2
             have y3 : (w5.setCell ⟨wr.heap.size, 3, none⟩ (.slice mA' ma.length mc')).cell? ⟨wr.heap.size, 3, none⟩ = some (.slice mA' ma.length mc') := hB6.cell 3
             have z1 : (w5.setCell ⟨wr.heap.size, 3, none⟩ (.slice mA' ma.length mc')).cell? ⟨g, 1, none⟩ = some (.slice jA' k jc') := hG6.cell 1
             have HG6 := Lib.hid hG6
             have HE6 := Lib.hid (show Ext wr (w5.setCell ⟨wr.heap.size, 3, none⟩ (.slice mA' ma.length mc')) from hE5.setCell (p := ⟨wr.heap.size, 3, none⟩) (Nat.le_refl _) _)
             have HR6 := Lib.hid (show RowAt (w5.setCell ⟨wr.heap.size, 3, none⟩ (.slice mA' ma.length mc')) 3 1 mA' ma.length mc' (ma.map (.int .i64)) from hR5.step (grown_setCell _ ⟨wr.heap.size, 3, none⟩ _) (blk_type hB5 (by decide)))
             clear hF5 hE5 hB5 hR5 hG5 hB6 hG6)
          | (at_builtin; refine wpList_append_own _ rfl _ _ 23 rfl wb.heap.size 37 i2 _ 4 48 Try.underlying23 hi2 hx0 hx1 hx2 rfl (by decide) _ _ _ rfl (own_alloc (own_ext Hown.out HE6.out) (.cells #[.int .i64 lo, .int .i64 hi, .int .i64 err, .slice mA' ma.length mc'] 37)) ⟨w5.heap.size, 0, none⟩ 1 1 [.int .i64 lo, .int .i64 hi, .int .i64 err, .slice mA' ma.length mc'] rfl rfl (HNews.out w5 mA' mc') (by simp [Value.oneCell']) HK63.out (by omega) (HSz.out w5 mA' mc' HE6.out) ?_
             intro v8 w8 hown8 hgrow8 _
             obtain ⟨jA8, jc8, rfl, hj1, hj2, hj3⟩ := own_form hown8
             have hG7 := HG6.out.ext (Ext.of_alloc (w5.setCell ⟨wr.heap.size, 3, none⟩ (.slice mA' ma.length mc')) (.cells #[.int .i64 lo, .int .i64 hi, .int .i64 err, .slice mA' ma.length mc'] 37))
             have hG8 := hG7.grown hgrow8 (fun e => by
               have := (own_alloc (own_ext Hown.out HE6.out) (.cells #[.int .i64 lo, .int .i64 hi, .int .i64 err, .slice mA' ma.length mc'] 37)).lt g e.symm
               omega)
             have z8 : w8.cell? ⟨g, 1, none⟩ = some (.slice jA' k jc') := hG8.cell 1
             have zf8 := hG8.free 1
             have HR8 := Lib.hid (show ∀ (A : Option Addr) (m c : Nat) (e : TypeId) (sz : Nat) (news : List Value), RowAt (w5.setCell ⟨wr.heap.size, 3, none⟩ (.slice mA' ma.length mc')) e sz A m c news → 37 ≠ e → 26 ≠ e → RowAt (w8.setCell ⟨g, 1, none⟩ (.slice jA8 (k + 1) jc8)) e sz A m c news from fun A m c e sz news h hne hne2 =>
               ((h.alloc _).step hgrow8 (own_type (own_alloc (own_ext Hown.out HE6.out) (.cells #[.int .i64 lo, .int .i64 hi, .int .i64 err, .slice mA' ma.length mc'] 37)) hne)).step (grown_setCell _ ⟨g, 1, none⟩ _) (blk_type hG8 hne2))
             have HG9 := Lib.hid (hG8.set 1 (.slice jA8 (k + 1) jc8))
             have HO9 := Lib.hid (ownsRow_setCell_other hown8 (a := ⟨g, 1, none⟩) (fun e => by have := hown8.lt g e; omega) (.slice jA8 (k + 1) jc8))
             have HE8 := Lib.hid ((Below.grown ((Ext.trans HEr.out HE6.out).alloc (.cells #[.int .i64 lo, .int .i64 hi, .int .i64 err, .slice mA' ma.length mc'] 37)) hgrow8 (Ext.trans HEr.out HE6.out |>.alloc (.cells #[.int .i64 lo, .int .i64 hi, .int .i64 err, .slice mA' ma.length mc'] 37)).size (fun b hb => Nat.le_trans Hcb.out ((own_alloc (own_ext Hown.out HE6.out) (.cells #[.int .i64 lo, .int .i64 hi, .int .i64 err, .slice mA' ma.length mc'] 37)).lt b hb).1)).setCell (p := ⟨g, 1, none⟩) (Hcg.out) (.slice jA8 (k + 1) jc8))
             have hs8 : wb.heap.size ≤ w8.heap.size := Nat.le_trans (HSz.out w5 mA' mc' HE6.out) hgrow8.size
             clear hown8 hgrow8 hG7 hG8))
        have HTk := Lib.hid (show jCells (p.judges.take (k + 1)) (ms ++ [(mA', mc')]) = jCells (p.judges.take k) ms ++ [.int .i64 lo, .int .i64 hi, .int .i64 err, .slice mA' ma.length mc'] by
          rw [List.take_succ_eq_append_getElem hlt, jCells_snoc _ _ _ _ (by rw [List.length_take]; omega)]
          have := hx.out
          rw [List.getD, List.getElem?_eq_getElem hlt] at this
          simp only [Option.getD_some] at this
          rw [this])
        have HMs := Lib.hid (show ∀ j, j < k → (ms ++ [(mA', mc')]).getD j (none, 0) = ms.getD j (none, 0) from fun j hj => by
          simp only [List.getD, List.getElem?_append_left (show j < ms.length by omega)])
        have HMk2 := Lib.hid (show (ms ++ [(mA', mc')]).getD k (none, 0) = (mA', mc') by
          simp [List.getD, hms])
        go_roundw
        case rel =>
          refine ⟨k + 1, by omega, by go_num, HE8.out, by simpa using hs8, HR8.out _ _ _ _ _ _ (HIr.out.ext HE6.out) (by decide) (by decide), HR8.out _ _ _ _ _ _ (HGr.out.ext HE6.out) (by decide) (by decide), jA8, jc8, ms ++ [(mA', mc')], HG9.out, by simp [hms], by rw [HTk.out]; exact HO9.out, fun j hj => ?_⟩
          by_cases e : j = k
          · rw [e, HMk2.out, hx.out]
            exact HR8.out _ _ _ _ _ _ HR6.out (by decide) (by decide)
          · rw [HMs.out j (by omega)]
            exact HR8.out _ _ _ _ _ _ ((HMk.out j (by omega)).ext HE6.out) (by decide) (by decide)
        case measure => simp [intOf]; omega
      · obtain rfl : k = p.judges.length := by omega
        have g0 : wr.cell? ⟨g, 0, none⟩ = some (.slice iA' p.items.length ic') := HB.out.cell 0
        have g1 : wr.cell? ⟨g, 1, none⟩ = some (.slice jA' p.judges.length jc') := HB.out.cell 1
        have g2 : wr.cell? ⟨g, 2, none⟩ = some (.int .i64 p.wrong) := HB.out.cell 2
        have g3 : wr.cell? ⟨g, 3, none⟩ = some (.slice gA' p.grades.length gc') := HB.out.cell 3
        have hr : Blk wr (w.heap.size + 1) 26 #[.slice none 0 0, .slice none 0 0, .int .i64 0, .slice none 0 0] := (blk_second w _ _ _).ext HE.out
        have r0 : wr.cell? ⟨w.heap.size + 1, 0, none⟩ = some (.slice none 0 0) := hr.cell 0
        have r1 : wr.cell? ⟨w.heap.size + 1, 1, none⟩ = some (.slice none 0 0) := hr.cell 1
        have r2 : wr.cell? ⟨w.heap.size + 1, 2, none⟩ = some (.int .i64 0) := hr.cell 2
        have r3 : wr.cell? ⟨w.heap.size + 1, 3, none⟩ = some (.slice none 0 0) := hr.cell 3
        have q0 := hr.free 0
        have q1 := hr.free 1
        have q2 := hr.free 2
        have q3 := hr.free 3
        have HRb := Lib.hid hr
        have HTk := Lib.hid (show p.judges.take p.judges.length = p.judges from List.take_length)
        clear hr
        go_wp2
        have hfin := blk_set4 HRb.out (.slice iA' p.items.length ic') (.slice jA' p.judges.length jc') (.int .i64 p.wrong) (.slice gA' p.grades.length gc')
        have hRow := fun (e : TypeId) (sz : Nat) (A : Option Addr) (m c : Nat) (news : List Value) (h : RowAt wr e sz A m c news) (hne : 26 ≠ e) => h.set4 HRb.out hne (.slice iA' p.items.length ic') (.slice jA' p.judges.length jc') (.int .i64 p.wrong) (.slice gA' p.grades.length gc')
        have hnb : ∀ b, (Value.slice jA' p.judges.length jc').ownBlock = some b → w.heap.size + 2 ≤ b := fun b hb => by
          have := (Hown.out.lt b hb).1
          have := Hcb.out
          simp at this
          omega
        have hOw := ownsRow_setCell_other (ownsRow_setCell_other (ownsRow_setCell_other (ownsRow_setCell_other Hown.out (a := ⟨w.heap.size + 1, 0, none⟩) (fun e => by have := hnb _ e; simp at this) (.slice iA' p.items.length ic')) (a := ⟨w.heap.size + 1, 1, none⟩) (fun e => by have := hnb _ e; simp at this) (.slice jA' p.judges.length jc')) (a := ⟨w.heap.size + 1, 2, none⟩) (fun e => by have := hnb _ e; simp at this) (.int .i64 p.wrong)) (a := ⟨w.heap.size + 1, 3, none⟩) (fun e => by have := hnb _ e; simp at this) (.slice gA' p.grades.length gc')
        have hExt := (((((HX.out.trans HE.out).setCell (p := ⟨w.heap.size + 1, 0, none⟩) (by simp) (.slice iA' p.items.length ic')).setCell (p := ⟨w.heap.size + 1, 1, none⟩) (by simp) (.slice jA' p.judges.length jc')).setCell (p := ⟨w.heap.size + 1, 2, none⟩) (by simp) (.int .i64 p.wrong)).setCell (p := ⟨w.heap.size + 1, 3, none⟩) (by simp) (.slice gA' p.grades.length gc'))
        have c0 := hfin.cell 0
        have c1 := hfin.cell 1
        have c2 := hfin.cell 2
        have c3 := hfin.cell 3
        have hI := hRow _ _ _ _ _ _ HIr.out (by decide)
        have hG := hRow _ _ _ _ _ _ HGr.out (by decide)
        have hM := fun j hj => hRow _ _ _ _ _ _ (HMk.out j hj) (by decide)
        clear hRow g0 g1 g2 g3 r0 r1 r2 r3 q0 q1 q2 q3 hb0
        rw [HTk.out] at hOw
        generalize ((((wr.setCell ⟨w.heap.size + 1, 0, none⟩ (.slice iA' p.items.length ic')).setCell ⟨w.heap.size + 1, 1, none⟩ (.slice jA' p.judges.length jc')).setCell ⟨w.heap.size + 1, 2, none⟩ (.int .i64 p.wrong)).setCell ⟨w.heap.size + 1, 3, none⟩ (.slice gA' p.grades.length gc')) = wz at *
        refine bodyPost_ret (v := .agg #[.slice iA' p.items.length ic', .slice jA' p.judges.length jc', .int .i64 p.wrong, .slice gA' p.grades.length gc']) (by simp at c0 c1 c2 c3; simp [results, Try.results16, go_sem, c0, c1, c2, c3]) rfl
          ⟨iA', jA', gA', ic', jc', gc', rfl, hExt, ms, hms, hI, hG, own_base hOw (by have := Hcb.out; simp at this; omega), hM⟩
end Go.Proofs.Ytbpilgflejdhaaa
