/- Exams: the walk over works. -/
import Derived.Test.YtbpilgflejdhaaaExX3
import Derived.Test.YtbpilgflejdhaaaExV2
import Derived.Test.YtbpilgflejdhaaaExT
import Derived.Test.YtbpilgflejdhaaaExLaw3
import Derived.Deep.RegionHeld3
namespace Go.Proofs.Ytbpilgflejdhaaa
open Go.RowKit

theorem exP_valid : Valid exP := valid_of (by decide +kernel)
set_option maxHeartbeats 4000000 in
theorem works_any (w : World) : Calls Try.prog 14 #[] w fun e w' => e = .returned (.bool true) ∧ Ext w w' := by
  have HR := Lib.hid (fun iA jA gA ic jc gc W (h : PaperAt W iA jA gA exP) => range_any iA jA gA ic jc gc exP 25 28 0 W h ex_range)
  have HB := Lib.hid (fun iA jA gA ic jc gc W (h : PaperAt W iA jA gA exP) => blame_any iA jA gA ic jc gc exP [2] 0 W h ex_blame)
  have HN := Lib.hid (fun iA jA gA ic jc gc W (h : PaperAt W iA jA gA exP) => next_ok iA jA gA ic jc gc exP 1 0 3 W h ex_known (small_open exP_valid) ex_next)
  go_enter Try.func14, Try.ntmps14
  go_wp2_with fail
  refine (example_any _).mono ?_
  rintro e w1 ⟨iA, jA, gA, ic, jc, gc, rfl, hP1, hE1⟩
  have HP1 := Lib.hid hP1
  have HE1 := Lib.hid hE1
  clear hP1 hE1
  generalize exP.items.length = il at *
  generalize exP.judges.length = jl at *
  generalize exP.grades.length = gl at *
  generalize exP.wrong = wr at *
  go_wp2_with fail
  have HX1 := Lib.hid (Ext.of_alloc w1 (.cells #[.slice iA il ic, .slice jA jl jc, .int .i64 wr, .slice gA gl gc] 26))
  refine (HR.out _ _ _ _ _ _ _ (HP1.out.ext HX1.out)).mono ?_
  rintro e w2 ⟨rfl, hE2⟩
  have hbox := hE2.box
  have hlt2 := hE2.lt
  have HE2 := Lib.hid (HX1.out.trans hE2)
  have HX2 := Lib.hid (Ext.of_alloc w2 (.cells #[.int .i64 25, .int .i64 28] 35))
  clear hE2
  go_wp2_with fail
  refine (HB.out _ _ _ _ _ _ _ (HP1.out.ext (HE2.out.trans HX2.out))).mono ?_
  rintro e w3 ⟨A, cc, rfl, hI3, hE3⟩
  have hbs := hE3.box
  have hlt3 := hE3.lt
  have hbox := fun i => ((HX2.out.trans hE3).cellOf (p := ⟨w1.heap.size, i, none⟩) hlt2).trans (hbox i)
  have HE3 := Lib.hid (HE2.out.trans (HX2.out.trans hE3))
  have HI3 := Lib.hid hI3
  clear hE3 hI3
  go_wp2_with fail
  refine (HN.out _ _ _ _ _ _ _ (HP1.out.ext HE3.out)).mono ?_
  rintro e w4 ⟨rfl, hE4⟩
  have hs0 : w4.cell? ⟨w2.heap.size, 0, none⟩ = some (.int .i64 25) := (hE4.cellOf (p := ⟨_, _, none⟩) hlt3).trans (hbs 0)
  have hs1 : w4.cell? ⟨w2.heap.size, 1, none⟩ = some (.int .i64 28) := (hE4.cellOf (p := ⟨_, _, none⟩) hlt3).trans (hbs 1)
  have HE4 := Lib.hid (HE3.out.trans hE4)
  have HI4 := Lib.hid (HI3.out.ext hE4)
  have hlt4 : w2.heap.size < w4.heap.size := Nat.lt_of_lt_of_le hlt3 hE4.size
  have HK := Lib.hid (show ∀ W, Ext w4 W → (W.cell? ⟨w2.heap.size, 0, none⟩ = some (.int .i64 25) ∧ W.cell? ⟨w2.heap.size, 1, none⟩ = some (.int .i64 28)) from fun W e => ⟨(e.cellOf (p := ⟨_, _, none⟩) hlt4).trans hs0, (e.cellOf (p := ⟨_, _, none⟩) hlt4).trans hs1⟩)
  have HSame := Lib.hid (show ∀ W, Ext w4 W → ∀ g, Blk W g 3 #[.int .i64 2] → Calls Try.prog 45 #[.slice A 1 cc, .slice (some ⟨g, 0, none⟩) 1 1] W fun e W' => e = .returned (.bool true) ∧ Ext W W' from fun W e g hb => by
    have hI : Ints W (some ⟨g, 0, none⟩) [2] := fun k hk => by
      obtain rfl : k = 0 := by simpa using hk
      exact ⟨g, 0, rfl, hb.lt, hb.cell 0⟩
    exact sameInts_any A (some ⟨g, 0, none⟩) cc 1 [2] [2] W (HI4.out.ext e) hI (by simp) (by simp))
  clear hE4 hbs hbox HR HB HN HP1
  go_wp2_with fail
  go_region_held3 (fun w' => w'.cell? ⟨w2.heap.size, 0, none⟩ = some (.int .i64 25) ∧ w'.cell? ⟨w2.heap.size, 1, none⟩ = some (.int .i64 28))
    (exact HK.out _ (by repeat (first | exact Ext.refl _ | exact HE5.out | exact HE6.out | refine Ext.drew ?_ | refine Ext.alloc ?_ _)))
    (first
      | (go_at_call 21; refine (spanL_any _ _ _).mono ?_; rintro e w5 ⟨rfl, hE5⟩; have HE5 : Hid (Ext w4 w5) := Lib.hid (Ext.trans (by repeat (first | exact Ext.refl _ | refine Ext.drew ?_ | refine Ext.alloc ?_ _)) hE5))
      | (go_at_call 45; refine (HSame.out _ (by repeat (first | exact Ext.refl _ | exact HE5.out | refine Ext.drew ?_ | refine Ext.alloc ?_ _)) _ (by first | exact Blk.new _ _ _ | exact (Blk.new _ _ _).ext (Ext.refl _).drew | exact (Blk.new _ _ _).ext hE5 | exact ((Blk.new _ _ _).ext (Ext.refl _).drew).ext hE5)).mono ?_; rintro e w6 ⟨rfl, hE6⟩; have HE6 : Hid (Ext w4 w6) := Lib.hid (Ext.trans (by repeat (first | exact Ext.refl _ | exact HE5.out | refine Ext.drew ?_ | refine Ext.alloc ?_ _)) hE6)))
  all_goals
    go_wp2
    go_ret
    exact ⟨rfl, HE1.out.trans (HE4.out.trans HE6.out)⟩
end Go.Proofs.Ytbpilgflejdhaaa
