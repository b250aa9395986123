/- Exams: the walk over ExamsNext. -/
import Derived.Test.YtbpilgflejdhaaaExS12
import Derived.Test.YtbpilgflejdhaaaExZa
namespace Go.Proofs.Ytbpilgflejdhaaa
open Go.RowKit

theorem nextP_any (iA jA gA : Option Addr) (ic jc gc : Nat) (p : Paper) (err a b c : Int) (w : World) (h : PaperAt w iA jA gA p) (hr : nextM p err = ((a, b), c)) :
    Calls Try.prog 15 #[.agg #[.slice iA p.items.length ic, .slice jA p.judges.length jc, .int .i64 p.wrong, .slice gA p.grades.length gc], .int .i64 err] w fun e w' => e = .returned (.tuple #[.int .i64 a, .int .i64 b, .int .i64 c]) ∧ Ext w w' := by
  unfold nextM at hr
  by_cases hk : knownE p (wi err 0 5) = 0
  · rw [if_pos hk] at hr
    injection hr with h1 h2
    subst h2
    exact next_ok iA jA gA ic jc gc p err a b w h hk (small_open (valid_of (knownE_ok hk).1)) h1
  · rw [if_neg hk] at hr
    injection hr with h1 h2
    injection h1 with h1 h3
    subst h1; subst h3
    exact next_err iA jA gA ic jc gc p err c w h h2 (by rw [← h2]; exact hk)

set_option maxHeartbeats 8000000 in
set_option maxRecDepth 100000 in
theorem next_law (iA jA gA : Option Addr) (ic jc gc : Nat) (p : Paper) (err : Int) (w : World) (h : PaperAt w iA jA gA p) :
    Calls Try.prog 3 #[.agg #[.slice iA p.items.length ic, .slice jA p.judges.length jc, .int .i64 p.wrong, .slice gA p.grades.length gc], .int .i64 err] w fun e w' => e = .returned (.bool true) ∧ Ext w w' := by
  have HX := Lib.hid (Ext.of_alloc w (.cells #[.slice iA p.items.length ic, .slice jA p.judges.length jc, .int .i64 p.wrong, .slice gA p.grades.length gc] 26))
  have HB := Lib.hid (show ∀ W, Ext (w.alloc (.cells #[.slice iA p.items.length ic, .slice jA p.judges.length jc, .int .i64 p.wrong, .slice gA p.grades.length gc] 26)) W → (W.cell? ⟨w.heap.size, 0, none⟩ = some (.slice iA p.items.length ic) ∧ W.cell? ⟨w.heap.size, 1, none⟩ = some (.slice jA p.judges.length jc) ∧ W.cell? ⟨w.heap.size, 2, none⟩ = some (.int .i64 p.wrong) ∧ W.cell? ⟨w.heap.size, 3, none⟩ = some (.slice gA p.grades.length gc)) from fun W e => ⟨e.box 0, e.box 1, e.box 2, e.box 3⟩)
  have HFar := far_any iA jA gA ic jc gc p _ (h.ext HX.out)
  cases hf : farM p
  · rw [hf] at HFar
    have HFar := Lib.hid HFar
    obtain ⟨hi20, hj20, hg20, hmk⟩ := far_bounds hf
    obtain ⟨a, b, c, hN⟩ : ∃ a b c, nextM p err = ((a, b), c) := ⟨_, _, _, rfl⟩
    have HCp := Lib.hid (fun W (e : Ext w W) => copy_any iA jA gA ic jc gc p W (h.ext e) hi20 hj20 hg20 hmk)
    have HQP := Lib.hid (show ∀ (iQ jQ gQ : Option Addr) (iqc jqc gqc : Nat) ms B W, CopyAt W B iQ jQ gQ iqc jqc gqc p ms → PaperAt W iQ jQ gQ p from fun iQ jQ gQ iqc jqc gqc ms B W hc => hc.paper (by omega) (by omega) (by omega) (fun q hq => by have := hmk q hq; omega))
    have HP := Lib.hid (fun W (e : Ext w W) => h.ext e)
    have HN1 := Lib.hid (fun a' b' c' d' e' f' W hp => nextP_any a' b' c' d' e' f' p err a b c W hp hN)
    have HN2 := Lib.hid (fun a' b' c' d' e' f' W hp => nextR_any a' b' c' d' e' f' p err a b c W hp hN)
    clear hN hf h hi20 hj20 hg20 hmk
    go_enter Try.func3, Try.ntmps3
    go_wp2_with fail
    refine HFar.out.mono ?_
    rintro e w1 ⟨rfl, hE1⟩
    have HE1 := Lib.hid hE1
    obtain ⟨k0, k1, k2, k3⟩ := HB.out _ hE1
    clear hE1
    go_wp2_with fail
    refine (HCp.out _ (HX.out.trans HE1.out)).mono ?_
    rintro e w2 ⟨iQ, jQ, gQ, iqc, jqc, gqc, rfl, hE2, ms, hcp⟩
    have HE2 := Lib.hid (HE1.out.trans hE2)
    have HPQ := Lib.hid (HQP.out _ _ _ iqc jqc gqc _ _ _ hcp)
    clear hE2 hcp k0 k1 k2 k3
    obtain ⟨k0, k1, k2, k3⟩ := HB.out _ HE2.out
    go_wp2_with fail
    refine (HN1.out iQ jQ gQ iqc jqc gqc _ HPQ.out).mono ?_
    rintro e w3 ⟨rfl, hE3⟩
    have HE3 := Lib.hid (HE2.out.trans hE3)
    clear hE3 k0 k1 k2 k3
    obtain ⟨k0, k1, k2, k3⟩ := HB.out _ HE3.out
    go_wp2_with fail
    refine (HN2.out iA jA gA ic jc gc _ (HP.out _ (HX.out.trans HE3.out))).mono ?_
    rintro e w4 ⟨rfl, hE4⟩
    have HE4 := Lib.hid (HE3.out.trans hE4)
    clear hE4 k0 k1 k2 k3
    go_wp2_with fail
    refine (works_any _).mono ?_
    rintro e w5 ⟨rfl, hE5⟩
    have HE5 := Lib.hid (HE4.out.trans hE5)
    clear hE5
    go_wp2
    go_ret
    exact ⟨rfl, HX.out.trans HE5.out⟩
  · rw [hf] at HFar
    have HFar := Lib.hid HFar
    clear hf h
    go_enter Try.func3, Try.ntmps3
    go_wp2_with fail
    refine HFar.out.mono ?_
    rintro e w1 ⟨rfl, hE1⟩
    have HE1 := Lib.hid hE1
    clear hE1
    go_wp2_with fail
    refine (works_any _).mono ?_
    rintro e w5 ⟨rfl, hE5⟩
    have HE5 := Lib.hid (HE1.out.trans hE5)
    clear hE5
    go_wp2
    go_ret
    exact ⟨rfl, HX.out.trans HE5.out⟩
end Go.Proofs.Ytbpilgflejdhaaa
