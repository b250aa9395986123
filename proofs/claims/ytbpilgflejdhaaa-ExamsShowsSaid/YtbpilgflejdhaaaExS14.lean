/- Exams: the walk over ExamsShows. -/
import Derived.Test.YtbpilgflejdhaaaExS12
import Derived.Test.YtbpilgflejdhaaaExZb
import Derived.Test.YtbpilgflejdhaaaExShow
namespace Go.Proofs.Ytbpilgflejdhaaa
open Go.RowKit

theorem showP_err (iA jA gA : Option Addr) (ic jc gc : Nat) (p : Paper) (g : Int) (w : World) (h : PaperAt w iA jA gA p) (hc : (showM p g).2 ≠ 0) :
    Calls Try.prog 27 #[.agg #[.slice iA p.items.length ic, .slice jA p.judges.length jc, .int .i64 p.wrong, .slice gA p.grades.length gc], .int .i64 g] w fun e w' => ∃ A cc, e = .returned (.tuple #[.slice A 0 cc, .int .i64 (showM p g).2]) ∧ Ext w w' := by
  by_cases hk : knownE p (wi g 0 p.grades.length) = 0
  · cases hs : getS (openM p).shown g with
    | some v => exact absurd (by unfold showM; rw [if_pos hk, hs]) hc
    | none =>
      have hm : showM p g = ([], 3) := by unfold showM; rw [if_pos hk, hs]
      rw [hm]
      exact (show_ok iA jA gA ic jc gc p g 3 [] w h hk hm).mono fun e w' ⟨A, cc, he, _, hE⟩ => ⟨A, cc, he, hE⟩
  · have hm : showM p g = ([], knownE p (wi g 0 p.grades.length)) := by unfold showM; rw [if_neg hk]
    rw [hm]
    exact (show_err iA jA gA ic jc gc p g _ w h rfl hk).mono fun e w' ⟨he, hE⟩ => ⟨none, 0, he, hE⟩

set_option maxHeartbeats 8000000 in
set_option maxRecDepth 100000 in
theorem shows_far (iA jA gA : Option Addr) (ic jc gc : Nat) (p : Paper) (g : Int) (w : World) (h : PaperAt w iA jA gA p) (hf : farM p = true) :
    Calls Try.prog 7 #[.agg #[.slice iA p.items.length ic, .slice jA p.judges.length jc, .int .i64 p.wrong, .slice gA p.grades.length gc], .int .i64 g] w fun e w' => e = .returned (.bool true) ∧ Ext w w' := by
  have HX := Lib.hid (Ext.of_alloc w (.cells #[.slice iA p.items.length ic, .slice jA p.judges.length jc, .int .i64 p.wrong, .slice gA p.grades.length gc] 26))
  have HB := Lib.hid (show ∀ W, Ext (w.alloc (.cells #[.slice iA p.items.length ic, .slice jA p.judges.length jc, .int .i64 p.wrong, .slice gA p.grades.length gc] 26)) W → (W.cell? ⟨w.heap.size, 0, none⟩ = some (.slice iA p.items.length ic) ∧ W.cell? ⟨w.heap.size, 1, none⟩ = some (.slice jA p.judges.length jc) ∧ W.cell? ⟨w.heap.size, 2, none⟩ = some (.int .i64 p.wrong) ∧ W.cell? ⟨w.heap.size, 3, none⟩ = some (.slice gA p.grades.length gc)) from fun W e => ⟨e.box 0, e.box 1, e.box 2, e.box 3⟩)
  have HFar := far_any iA jA gA ic jc gc p _ (h.ext HX.out)
  obtain ⟨k0, k1, k2, k3⟩ := HB.out _ (Ext.refl _)
  rw [hf] at HFar
  have HFar := Lib.hid HFar
  clear hf h
  go_enter Try.func7, Try.ntmps7
  go_wp2_with fail
  refine (HFar.out).mono ?_
  rintro e w1 ⟨rfl, hE1⟩
  have HE1 := Lib.hid ((Ext.refl (w.alloc (.cells #[.slice iA p.items.length ic, .slice jA p.judges.length jc, .int .i64 p.wrong, .slice gA p.grades.length gc] 26))).trans hE1)
  clear hE1 k0 k1 k2 k3
  obtain ⟨k0, k1, k2, k3⟩ := HB.out _ HE1.out
  go_wp2_with fail
  refine (works_any _).mono ?_
  rintro e w2 ⟨rfl, hE2⟩
  have HE2 := Lib.hid (HE1.out.trans hE2)
  clear hE2 k0 k1 k2 k3
  obtain ⟨k0, k1, k2, k3⟩ := HB.out _ HE2.out
  go_wp2
  go_ret
  exact ⟨rfl, HX.out.trans HE2.out⟩

set_option maxHeartbeats 8000000 in
set_option maxRecDepth 100000 in
theorem shows_err (iA jA gA : Option Addr) (ic jc gc : Nat) (p : Paper) (g : Int) (w : World) (h : PaperAt w iA jA gA p) (hf : farM p = false) (hc : (showM p g).2 ≠ 0) :
    Calls Try.prog 7 #[.agg #[.slice iA p.items.length ic, .slice jA p.judges.length jc, .int .i64 p.wrong, .slice gA p.grades.length gc], .int .i64 g] w fun e w' => e = .returned (.bool true) ∧ Ext w w' := by
  have HX := Lib.hid (Ext.of_alloc w (.cells #[.slice iA p.items.length ic, .slice jA p.judges.length jc, .int .i64 p.wrong, .slice gA p.grades.length gc] 26))
  have HB := Lib.hid (show ∀ W, Ext (w.alloc (.cells #[.slice iA p.items.length ic, .slice jA p.judges.length jc, .int .i64 p.wrong, .slice gA p.grades.length gc] 26)) W → (W.cell? ⟨w.heap.size, 0, none⟩ = some (.slice iA p.items.length ic) ∧ W.cell? ⟨w.heap.size, 1, none⟩ = some (.slice jA p.judges.length jc) ∧ W.cell? ⟨w.heap.size, 2, none⟩ = some (.int .i64 p.wrong) ∧ W.cell? ⟨w.heap.size, 3, none⟩ = some (.slice gA p.grades.length gc)) from fun W e => ⟨e.box 0, e.box 1, e.box 2, e.box 3⟩)
  have HFar := far_any iA jA gA ic jc gc p _ (h.ext HX.out)
  obtain ⟨k0, k1, k2, k3⟩ := HB.out _ (Ext.refl _)
  rw [hf] at HFar
  have HFar := Lib.hid HFar
  obtain ⟨hi20, hj20, hg20, hmk⟩ := far_bounds hf
  have HCp := Lib.hid (fun W (e : Ext w W) => copy_any iA jA gA ic jc gc p W (h.ext e) hi20 hj20 hg20 hmk)
  have HQP := Lib.hid (show ∀ (iQ jQ gQ : Option Addr) (iqc jqc gqc : Nat) ms B W, CopyAt W B iQ jQ gQ iqc jqc gqc p ms → PaperAt W iQ jQ gQ p from fun iQ jQ gQ iqc jqc gqc ms B W hc => hc.paper (by omega) (by omega) (by omega) (fun q hq => by have := hmk q hq; omega))
  have HCS := Lib.hid (fun W (e : Ext w W) => checkShow_any iA jA gA ic jc gc p g W (h.ext e))
  rw [← show_check] at HCS
  have HS := Lib.hid (fun a b c d e f W hp => showP_err a b c d e f p g W hp hc)
  generalize (showM p g).2 = ck at *
  have hcb : (ck != 0) = true := by simpa using hc
  clear hc hf h hi20 hj20 hg20 hmk
  go_enter Try.func7, Try.ntmps7
  go_wp2_with fail
  refine (HFar.out).mono ?_
  rintro e w1 ⟨rfl, hE1⟩
  have HE1 := Lib.hid ((Ext.refl (w.alloc (.cells #[.slice iA p.items.length ic, .slice jA p.judges.length jc, .int .i64 p.wrong, .slice gA p.grades.length gc] 26))).trans hE1)
  clear hE1 k0 k1 k2 k3
  obtain ⟨k0, k1, k2, k3⟩ := HB.out _ HE1.out
  go_wp2_with fail
  refine (HCp.out _ (HX.out.trans HE1.out)).mono ?_
  rintro e w2 ⟨iQ, jQ, gQ, iqc, jqc, gqc, rfl, hE2, ms, hcp⟩
  have HE2 := Lib.hid (HE1.out.trans hE2)
  have HPQ := Lib.hid (HQP.out _ _ _ iqc jqc gqc _ _ _ hcp)
  clear hE2 hcp k0 k1 k2 k3
  obtain ⟨k0, k1, k2, k3⟩ := HB.out _ HE2.out
  go_wp2_with fail
  refine (HS.out iQ jQ gQ iqc jqc gqc _ HPQ.out).mono ?_
  rintro e w3 ⟨A, cc, rfl, hE3⟩
  have HE3 := Lib.hid (HE2.out.trans hE3)
  clear hE3 k0 k1 k2 k3
  obtain ⟨k0, k1, k2, k3⟩ := HB.out _ HE3.out
  go_wp2_with fail
  refine (HCS.out _ (HX.out.trans HE3.out)).mono ?_
  rintro e w4 ⟨rfl, hE4⟩
  have HE4 := Lib.hid (HE3.out.trans hE4)
  clear hE4 k0 k1 k2 k3
  obtain ⟨k0, k1, k2, k3⟩ := HB.out _ HE4.out
  go_wp2_with fail
  obtain ⟨C, hC⟩ : ∃ C : World → Prop, ∀ W, C W ↔ Ext w4 W := ⟨_, fun W => Iff.rfl⟩
  have HC := Lib.hid hC
  have HBx := Lib.hid (show ∀ W, C W → (W.cell? ⟨w.heap.size, 0, none⟩ = some (.slice iA p.items.length ic) ∧ W.cell? ⟨w.heap.size, 1, none⟩ = some (.slice jA p.judges.length jc) ∧ W.cell? ⟨w.heap.size, 2, none⟩ = some (.int .i64 p.wrong) ∧ W.cell? ⟨w.heap.size, 3, none⟩ = some (.slice gA p.grades.length gc)) from fun W hW => HB.out _ (HE4.out.trans ((hC W).1 hW)))
  have HP5 := Lib.hid (fun W hW => ((works_any W).mono fun e w1 ⟨he, hE1⟩ => (⟨he, (hC _).2 (((hC W).1 hW).trans hE1)⟩ : e = Ending.returned (.bool true) ∧ C w1)))
  clear hC k0 k1 k2 k3
  with_reducible refine wp_region_class C (by kernel_rfl) (by kernel_rfl) ((HC.out _).2 (Ext.refl _).drew) ?_
  repeat
    first
    | ((with_reducible refine wpQuiet_step (fun K hK => ?_))
       go_simp
       first
       | ((with_reducible refine hK _ ?_); clear hK K)
       | (with_reducible apply Exists.intro
          (with_reducible refine ⟨fun W hW => ?_, hK _ ?_⟩)
          · first | (with_reducible exact HP5.out W hW) | (obtain ⟨k0, k1, k2, k3⟩ := HBx.out W hW; go_simp <;> rfl)
          clear hK K))
    | ((with_reducible refine wpQuiet_skip ?_ (fun K hK => ?_))
       · kernel_rfl
       go_simp
       (with_reducible refine hK _ ?_)
       clear hK K)
  with_reducible refine wpQuiet_nil ?_
  intro w5 hw5
  have HE5 := Lib.hid (HE4.out.trans ((HC.out _).1 hw5))
  clear hw5
  go_wp2
  go_ret
  exact ⟨rfl, HX.out.trans HE5.out⟩

set_option maxHeartbeats 8000000 in
set_option maxRecDepth 100000 in
theorem shows_ok (iA jA gA : Option Addr) (ic jc gc : Nat) (p : Paper) (g : Int) (w : World) (h : PaperAt w iA jA gA p) (hf : farM p = false) (hc : (showM p g).2 = 0) :
    Calls Try.prog 7 #[.agg #[.slice iA p.items.length ic, .slice jA p.judges.length jc, .int .i64 p.wrong, .slice gA p.grades.length gc], .int .i64 g] w fun e w' => e = .returned (.bool true) ∧ Ext w w' := by
  have HX := Lib.hid (Ext.of_alloc w (.cells #[.slice iA p.items.length ic, .slice jA p.judges.length jc, .int .i64 p.wrong, .slice gA p.grades.length gc] 26))
  have HB := Lib.hid (show ∀ W, Ext (w.alloc (.cells #[.slice iA p.items.length ic, .slice jA p.judges.length jc, .int .i64 p.wrong, .slice gA p.grades.length gc] 26)) W → (W.cell? ⟨w.heap.size, 0, none⟩ = some (.slice iA p.items.length ic) ∧ W.cell? ⟨w.heap.size, 1, none⟩ = some (.slice jA p.judges.length jc) ∧ W.cell? ⟨w.heap.size, 2, none⟩ = some (.int .i64 p.wrong) ∧ W.cell? ⟨w.heap.size, 3, none⟩ = some (.slice gA p.grades.length gc)) from fun W e => ⟨e.box 0, e.box 1, e.box 2, e.box 3⟩)
  have HFar := far_any iA jA gA ic jc gc p _ (h.ext HX.out)
  obtain ⟨k0, k1, k2, k3⟩ := HB.out _ (Ext.refl _)
  rw [hf] at HFar
  have HFar := Lib.hid HFar
  obtain ⟨hi20, hj20, hg20, hmk⟩ := far_bounds hf
  have HCp := Lib.hid (fun W (e : Ext w W) => copy_any iA jA gA ic jc gc p W (h.ext e) hi20 hj20 hg20 hmk)
  have HQP := Lib.hid (show ∀ (iQ jQ gQ : Option Addr) (iqc jqc gqc : Nat) ms B W, CopyAt W B iQ jQ gQ iqc jqc gqc p ms → PaperAt W iQ jQ gQ p from fun iQ jQ gQ iqc jqc gqc ms B W hc => hc.paper (by omega) (by omega) (by omega) (fun q hq => by have := hmk q hq; omega))
  have HCS := Lib.hid (fun W (e : Ext w W) => checkShow_any iA jA gA ic jc gc p g W (h.ext e))
  rw [← show_check] at HCS
  have hck := hc
  rw [show_check] at hck
  have hkk : knownE p (wi g 0 p.grades.length) = 0 := by
    by_cases hk : knownE p (wi g 0 p.grades.length) = 0
    · exact hk
    · unfold showM at hc; rw [if_neg hk] at hc; exact hc
  obtain ⟨hv, _, hp⟩ := knownE_ok hkk
  have hV := valid_of hv
  obtain ⟨v, hs⟩ : ∃ v, getS (openM p).shown g = some v := by
    cases hs : getS (openM p).shown g with
    | some v => exact ⟨v, rfl⟩
    | none => unfold showM at hc; rw [if_pos hkk, hs] at hc; cases hc
  obtain ⟨q1, q2, _, _⟩ := show_some hV hs
  obtain ⟨l, hl⟩ : ∃ l, v.take p.items.length = l := ⟨_, rfl⟩
  rw [hl] at q1 q2
  have hll := (isTruth_iff.1 (possible_truth q1)).1
  have hil4 := hV.il.2
  have HS := Lib.hid (fun a b c d e f W hp => show_ok a b c d e f p g 0 l W hp hkk (by unfold showM; rw [if_pos hkk, hs, ← hl]))
  have HIP := Lib.hid (fun A c W (e : Ext w W) (hI : Ints W A l) => isPossible_any iA jA gA A ic jc gc c p l W (h.ext e) hV hI (by omega))
  have HRs := Lib.hid (fun A c W (e : Ext w W) (hI : Ints W A l) => result_any iA jA gA A ic jc gc c p.judges.length p.grades.length p.wrong p l W (h.items.ext e) hil4 hI hll (fun k hk => ⟨(hV.it k (by omega)).1, (hV.it k (by omega)).2.1⟩) (fun k hk => by have a := (isTruth_iff.1 (possible_truth q1)).2 k hk; have b := hV.it k (by omega); omega))
  have HGo := Lib.hid (fun W (e : Ext w W) => gradeOf_any iA jA gA ic jc gc p (resultOf p l) W (h.ext e))
  rw [q1] at HIP
  rw [q2] at HGo
  rw [hc] at HCS
  generalize resultOf p l = rs at *
  clear hck hkk hv hp hV hs q1 q2 hl hll hil4 hc hf h hi20 hj20 hg20 hmk
  go_enter Try.func7, Try.ntmps7
  go_wp2_with fail
  refine (HFar.out).mono ?_
  rintro e w1 ⟨rfl, hE1⟩
  have HE1 := Lib.hid ((Ext.refl (w.alloc (.cells #[.slice iA p.items.length ic, .slice jA p.judges.length jc, .int .i64 p.wrong, .slice gA p.grades.length gc] 26))).trans hE1)
  clear hE1 k0 k1 k2 k3
  obtain ⟨k0, k1, k2, k3⟩ := HB.out _ HE1.out
  go_wp2_with fail
  refine (HCp.out _ (HX.out.trans HE1.out)).mono ?_
  rintro e w2 ⟨iQ, jQ, gQ, iqc, jqc, gqc, rfl, hE2, ms, hcp⟩
  have HE2 := Lib.hid (HE1.out.trans hE2)
  have HPQ := Lib.hid (HQP.out _ _ _ iqc jqc gqc _ _ _ hcp)
  clear hE2 hcp k0 k1 k2 k3
  obtain ⟨k0, k1, k2, k3⟩ := HB.out _ HE2.out
  go_wp2_with fail
  refine (HS.out iQ jQ gQ iqc jqc gqc _ HPQ.out).mono ?_
  rintro e w3 ⟨A, cc, rfl, hI, hE3⟩
  have HE3 := Lib.hid (HE2.out.trans hE3)
  have HI := Lib.hid hI
  clear hI
  clear hE3 k0 k1 k2 k3
  obtain ⟨k0, k1, k2, k3⟩ := HB.out _ HE3.out
  go_wp2_with fail
  refine (HCS.out _ (HX.out.trans HE3.out)).mono ?_
  rintro e w4 ⟨rfl, hE4⟩
  have HE4 := Lib.hid (HE3.out.trans hE4)
  have HI4 := Lib.hid (HI.out.ext hE4)
  clear hE4 k0 k1 k2 k3
  obtain ⟨k0, k1, k2, k3⟩ := HB.out _ HE4.out
  go_wp2_with fail
  obtain ⟨C, hC⟩ : ∃ C : World → Prop, ∀ W, C W ↔ Ext w4 W := ⟨_, fun W => Iff.rfl⟩
  have HC := Lib.hid hC
  have HBx := Lib.hid (show ∀ W, C W → (W.cell? ⟨w.heap.size, 0, none⟩ = some (.slice iA p.items.length ic) ∧ W.cell? ⟨w.heap.size, 1, none⟩ = some (.slice jA p.judges.length jc) ∧ W.cell? ⟨w.heap.size, 2, none⟩ = some (.int .i64 p.wrong) ∧ W.cell? ⟨w.heap.size, 3, none⟩ = some (.slice gA p.grades.length gc)) from fun W hW => HB.out _ (HE4.out.trans ((hC W).1 hW)))
  have HP5 := Lib.hid (fun W hW => ((works_any W).mono fun e w1 ⟨he, hE1⟩ => (⟨he, (hC _).2 (((hC W).1 hW).trans hE1)⟩ : e = Ending.returned (.bool true) ∧ C w1)))
  have HP2 := Lib.hid (fun W hW => ((HIP.out A cc W (HX.out.trans (HE4.out.trans ((hC W).1 hW))) (HI4.out.ext ((hC W).1 hW))).mono fun e w1 ⟨he, hE1⟩ => (⟨he, (hC _).2 (((hC W).1 hW).trans hE1)⟩ : e = Ending.returned (.bool true) ∧ C w1)))
  have HP3 := Lib.hid (fun W hW => ((HRs.out A cc W (HX.out.trans (HE4.out.trans ((hC W).1 hW))) (HI4.out.ext ((hC W).1 hW))).mono fun e w1 ⟨he, hE1⟩ => (⟨he, (hC _).2 (((hC W).1 hW).trans hE1)⟩ : e = Ending.returned (.int .i64 rs) ∧ C w1)))
  have HP4 := Lib.hid (fun W hW => ((HGo.out W (HX.out.trans (HE4.out.trans ((hC W).1 hW)))).mono fun e w1 ⟨he, hE1⟩ => (⟨he, (hC _).2 (((hC W).1 hW).trans hE1)⟩ : e = Ending.returned (.int .i64 g) ∧ C w1)))
  clear hC k0 k1 k2 k3
  with_reducible refine wp_region_class C (by kernel_rfl) (by kernel_rfl) ((HC.out _).2 (Ext.refl _).drew) ?_
  repeat
    first
    | ((with_reducible refine wpQuiet_step (fun K hK => ?_))
       go_simp
       first
       | ((with_reducible refine hK _ ?_); clear hK K)
       | (with_reducible apply Exists.intro
          (with_reducible refine ⟨fun W hW => ?_, hK _ ?_⟩)
          · first | (with_reducible exact HP2.out W hW) | (with_reducible exact HP3.out W hW) | (with_reducible exact HP4.out W hW) | (with_reducible exact HP5.out W hW) | (obtain ⟨k0, k1, k2, k3⟩ := HBx.out W hW; go_simp <;> rfl)
          clear hK K))
    | ((with_reducible refine wpQuiet_skip ?_ (fun K hK => ?_))
       · kernel_rfl
       go_simp
       (with_reducible refine hK _ ?_)
       clear hK K)
  with_reducible refine wpQuiet_nil ?_
  intro w5 hw5
  have HE5 := Lib.hid (HE4.out.trans ((HC.out _).1 hw5))
  clear hw5
  go_wp2
  go_ret
  exact ⟨rfl, HX.out.trans HE5.out⟩

theorem shows_law (iA jA gA : Option Addr) (ic jc gc : Nat) (p : Paper) (g : Int) (w : World) (h : PaperAt w iA jA gA p) :
    Calls Try.prog 7 #[.agg #[.slice iA p.items.length ic, .slice jA p.judges.length jc, .int .i64 p.wrong, .slice gA p.grades.length gc], .int .i64 g] w fun e w' => e = .returned (.bool true) ∧ Ext w w' := by
  cases hf : farM p
  · by_cases hc : (showM p g).2 = 0
    · exact shows_ok iA jA gA ic jc gc p g w h hf hc
    · exact shows_err iA jA gA ic jc gc p g w h hf hc
  · exact shows_far iA jA gA ic jc gc p g w h hf
end Go.Proofs.Ytbpilgflejdhaaa
