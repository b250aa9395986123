/- Exams: the walk over ExamsMarked. -/
import Derived.Test.YtbpilgflejdhaaaExX2
import Derived.Test.YtbpilgflejdhaaaExX4
import Derived.Test.YtbpilgflejdhaaaExLawN
namespace Go.Proofs.Ytbpilgflejdhaaa
open Go.RowKit

theorem ready_valid {p : Paper} (h : readyM p = true) : validB p = true ∧ p.judges.length ≤ 3 ∧ p.items.length ≤ 20 ∧ p.judges.length ≤ 20 ∧ p.grades.length ≤ 20 := by
  unfold readyM farM at h
  simp only [Bool.and_eq_true, Bool.not_eq_true', Bool.or_eq_false_iff, decide_eq_false_iff_not] at h
  obtain ⟨⟨h1, h2, h3, _, h5⟩, hv⟩ := h
  rw [hv, Bool.true_and, decide_eq_false_iff_not] at h5
  exact ⟨hv, by omega, by omega, by omega, by omega⟩

set_option maxHeartbeats 4000000 in
set_option maxRecDepth 100000 in
theorem marked_early (iA jA gA oA tA : Option Addr) (ic jc gc oc tc : Nat) (p : Paper) (one two : List Int) (mk err : Int) (w : World) (h : PaperAt w iA jA gA p) (hol : one.length ≤ 9223372036854775807) (htl : two.length ≤ 9223372036854775807)
    (hc : readyM p = false ∨ 20 < one.length ∨ 20 < two.length ∨ err < 0 ∨ 5 < err) :
    Calls Try.prog 5 #[.agg #[.slice iA p.items.length ic, .slice jA p.judges.length jc, .int .i64 p.wrong, .slice gA p.grades.length gc], .agg #[.slice oA one.length oc, .slice tA two.length tc, .int .i64 mk, .int .i64 err]] w fun e w' => e = .returned (.bool true) ∧ Ext w w' := by
  have HX := Lib.hid ((Ext.of_alloc w (.cells #[.slice iA p.items.length ic, .slice jA p.judges.length jc, .int .i64 p.wrong, .slice gA p.grades.length gc] 26)).alloc (.cells #[.slice oA one.length oc, .slice tA two.length tc, .int .i64 mk, .int .i64 err] 46))
  have HR := Lib.hid (ready_any iA jA gA ic jc gc p _ (h.ext HX.out))
  clear h
  cases hr : readyM p
  · rw [hr] at HR
    clear hr hc
    go_enter Try.func5, Try.ntmps5
    go_wp2_with fail
    refine HR.out.mono ?_
    rintro e w1 ⟨rfl, hE1⟩
    have HE1 := Lib.hid (HX.out.trans hE1)
    clear hE1
    go_wp2_with fail
    refine (works_any _).mono ?_
    rintro e w2 ⟨rfl, hE2⟩
    have HE2 := Lib.hid (HE1.out.trans hE2)
    clear hE2
    go_wp2
    go_ret
    exact ⟨rfl, HE2.out⟩
  · rw [hr] at HR hc
    clear hr
    have hc : 20 < one.length ∨ (one.length ≤ 20 ∧ 20 < two.length) ∨ (one.length ≤ 20 ∧ two.length ≤ 20 ∧ err < 0) ∨ (one.length ≤ 20 ∧ two.length ≤ 20 ∧ 0 ≤ err ∧ 5 < err) := by
      rcases hc with hc | hc | hc | hc | hc
      · cases hc
      all_goals omega
    rcases hc with hc | ⟨hc1, hc2⟩ | ⟨hc1, hc2, hc3⟩ | ⟨hc1, hc2, hc3, hc4⟩
    · have hc' : (20 : Int) < one.length := by omega
      go_enter Try.func5, Try.ntmps5
      go_wp2_with fail
      refine HR.out.mono ?_
      rintro e w1 ⟨rfl, hE1⟩
      obtain ⟨b1, b2, f1, f2, hlt⟩ := box2 hE1
      have HE1 := Lib.hid (HX.out.trans hE1)
      clear hE1
      go_wp2_with fail
      refine (works_any _).mono ?_
      rintro e w2 ⟨rfl, hE2⟩
      have HE2 := Lib.hid (HE1.out.trans hE2)
      clear hE2
      go_wp2
      go_ret
      exact ⟨rfl, HE2.out⟩
    · have hc1' : (one.length : Int) ≤ 20 := by omega
      have hc2' : (20 : Int) < two.length := by omega
      go_enter Try.func5, Try.ntmps5
      go_wp2_with fail
      refine HR.out.mono ?_
      rintro e w1 ⟨rfl, hE1⟩
      obtain ⟨b1, b2, f1, f2, hlt⟩ := box2 hE1
      have HE1 := Lib.hid (HX.out.trans hE1)
      clear hE1
      go_wp2_with fail
      refine (works_any _).mono ?_
      rintro e w2 ⟨rfl, hE2⟩
      have HE2 := Lib.hid (HE1.out.trans hE2)
      clear hE2
      go_wp2
      go_ret
      exact ⟨rfl, HE2.out⟩
    all_goals
      have hc1' : (one.length : Int) ≤ 20 := by omega
      have hc2' : (two.length : Int) ≤ 20 := by omega
      go_enter Try.func5, Try.ntmps5
      go_wp2_with fail
      refine HR.out.mono ?_
      rintro e w1 ⟨rfl, hE1⟩
      obtain ⟨b1, b2, f1, f2, hlt⟩ := box2 hE1
      have HE1 := Lib.hid (HX.out.trans hE1)
      clear hE1
      go_wp2_with fail
      refine (works_any _).mono ?_
      rintro e w2 ⟨rfl, hE2⟩
      have HE2 := Lib.hid (HE1.out.trans hE2)
      clear hE2
      go_wp2
      go_ret
      exact ⟨rfl, HE2.out⟩
end Go.Proofs.Ytbpilgflejdhaaa
