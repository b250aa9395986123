/- Exams: the walk over Next. -/
import Derived.Test.YtbpilgflejdhaaaExV
import Derived.Deep.RegionHeld3
namespace Go.Proofs.Ytbpilgflejdhaaa
open Go.RowKit

theorem keep4 (w : World) (a b c d : Value) (T : TypeId) : ∀ W, Ext (w.alloc (.cells #[a, b, c, d] T)).drew W → (W.cell? ⟨w.heap.size, 0, none⟩ = some a ∧ W.cell? ⟨w.heap.size, 1, none⟩ = some b ∧ W.cell? ⟨w.heap.size, 2, none⟩ = some c ∧ W.cell? ⟨w.heap.size, 3, none⟩ = some d) := fun W e => by
  have e' : Ext (w.alloc (.cells #[a, b, c, d] T)) W := (Ext.refl _).drew.trans e
  exact ⟨e'.box 0, e'.box 1, e'.box 2, e'.box 3⟩

set_option maxHeartbeats 2000000 in
theorem next_err (iA jA gA : Option Addr) (ic jc gc : Nat) (p : Paper) (err c : Int) (w : World) (h : PaperAt w iA jA gA p) (hk : knownE p (wi err 0 5) = c) (hc : c ≠ 0) :
    Calls Try.prog 15 #[.agg #[.slice iA p.items.length ic, .slice jA p.judges.length jc, .int .i64 p.wrong, .slice gA p.grades.length gc], .int .i64 err] w fun e w' => e = .returned (.tuple #[.int .i64 0, .int .i64 0, .int .i64 c]) ∧ Ext w w' := by
  have HK := Lib.hid (keep4 w (.slice iA p.items.length ic) (.slice jA p.judges.length jc) (.int .i64 p.wrong) (.slice gA p.grades.length gc) 26)
  have HX := Lib.hid ((Ext.of_alloc w (.cells #[.slice iA p.items.length ic, .slice jA p.judges.length jc, .int .i64 p.wrong, .slice gA p.grades.length gc] 26)))
  have HO := Lib.hid (known_err iA jA gA ic jc gc p _ c _ (h.ext HX.out.drew) hk hc)
  have hc0 : (c != 0) = true := by simpa using hc
  clear hk h hc
  go_enter Try.func15, Try.ntmps15
  go_wp2_with fail
  go_region_held3 (fun w' => w'.cell? ⟨w.heap.size, 0, none⟩ = some (.slice iA p.items.length ic) ∧ w'.cell? ⟨w.heap.size, 1, none⟩ = some (.slice jA p.judges.length jc) ∧ w'.cell? ⟨w.heap.size, 2, none⟩ = some (.int .i64 p.wrong) ∧ w'.cell? ⟨w.heap.size, 3, none⟩ = some (.slice gA p.grades.length gc))
    (first | exact HK.out _ (Ext.refl _).drew | exact HK.out _ (Ext.refl _) | exact HK.out _ hE1)
    (first
      | (go_at_call 48; refine (withinE _ _ _ _).mono ?_; rintro e w' ⟨rfl, rfl⟩)
      | (go_at_call 47; refine HO.out.mono ?_; rintro e w1 ⟨rfl, hE1⟩))
  have HE1 := Lib.hid hE1
  clear hE1
  go_wp2
  go_ret3
  exact ⟨rfl, HX.out.drew.trans HE1.out⟩

set_option maxHeartbeats 4000000 in
theorem next_ok (iA jA gA : Option Addr) (ic jc gc : Nat) (p : Paper) (err it lst : Int) (w : World) (h : PaperAt w iA jA gA p) (hk : knownE p (wi err 0 5) = 0) (hS : SmallS (openM p)) (hr : bestTo (openM p) err p.items.length = (it, lst)) :
    Calls Try.prog 15 #[.agg #[.slice iA p.items.length ic, .slice jA p.judges.length jc, .int .i64 p.wrong, .slice gA p.grades.length gc], .int .i64 err] w fun e w' => e = .returned (.tuple #[.int .i64 it, .int .i64 lst, .int .i64 0]) ∧ Ext w w' := by
  have HK := Lib.hid (keep4 w (.slice iA p.items.length ic) (.slice jA p.judges.length jc) (.int .i64 p.wrong) (.slice gA p.grades.length gc) 26)
  have HX := Lib.hid ((Ext.of_alloc w (.cells #[.slice iA p.items.length ic, .slice jA p.judges.length jc, .int .i64 p.wrong, .slice gA p.grades.length gc] 26)))
  have HO := Lib.hid (known_ok iA jA gA ic jc gc p _ _ (h.ext HX.out.drew) hk)
  have hV := valid_of (knownE_ok hk).1
  obtain ⟨he0, he5⟩ := wi_true (knownE_ok hk).2.1
  have hil := hV.il
  have HSm := Lib.hid hS
  have HR := Lib.hid hr
  clear hk h hS hr hV
  go_enter Try.func15, Try.ntmps15
  go_wp2_with fail
  go_region_held3 (fun w' => w'.cell? ⟨w.heap.size, 0, none⟩ = some (.slice iA p.items.length ic) ∧ w'.cell? ⟨w.heap.size, 1, none⟩ = some (.slice jA p.judges.length jc) ∧ w'.cell? ⟨w.heap.size, 2, none⟩ = some (.int .i64 p.wrong) ∧ w'.cell? ⟨w.heap.size, 3, none⟩ = some (.slice gA p.grades.length gc))
    (first | exact HK.out _ (Ext.refl _).drew | exact HK.out _ (Ext.refl _) | exact HK.out _ hE1)
    (first
      | (go_at_call 48; refine (withinE _ _ _ _).mono ?_; rintro e w' ⟨rfl, rfl⟩)
      | (go_at_call 47; refine HO.out.mono ?_; rintro e w1 ⟨B, M, R, rc, rfl, hS1, hE1⟩))
  have HE1 := Lib.hid (HX.out.drew.trans hE1)
  have hbox := ((Ext.refl _).drew.trans hE1).box
  have hlt1 : w.heap.size < w1.heap.size := ((Ext.refl _).drew.trans hE1).lt
  have HS1 := Lib.hid hS1
  have hB := hS1.ltB
  have HCell := Lib.hid (show ∀ W, Ext w1 W → ∀ i n, i < 4 → n < 31 → (W.cell? ⟨B, 6 + i * 62 + n * 2, none⟩ = some (.int .i64 ((openM p).it i n).1) ∧ W.cell? ⟨B, 6 + i * 62 + n * 2 + 1, none⟩ = some (.int .i64 ((openM p).it i n).2)) from fun W e i n hi hn => by
    obtain ⟨cs, hb, hc⟩ := (hS1.ext e).cs
    exact ⟨(hb.cell _).trans (hc.it1 i n hi hn), (hb.cell _).trans (hc.it2 i n hi hn)⟩)
  generalize openM p = S at *
  clear hE1 hS1 HS1 HO
  go_wp2_with fail
  go_loopw [4, 5, 26] (fun v4 v5 cn wr => ∃ k : Nat, k ≤ p.items.length ∧ cn = .int .i64 k ∧ v4 = .int .i64 (bestTo S err k).1 ∧ v5 = .int .i64 (bestTo S err k).2 ∧ Ext w1 wr) (fun _ _ cn _ => p.items.length - (intOf cn).toNat)
  case atStart => exact ⟨0, by omega, rfl, rfl, rfl, Ext.refl _⟩
  case round =>
    obtain ⟨k, hk, rfl, rfl, rfl, hE⟩ := hrel
    have HE := Lib.hid hE
    clear hE
    by_cases hlt : (k : Int) < p.items.length
    · have hk4 : k < 4 := by omega
      go_wp2_with fail
      go_loopw [9, 10] (fun v9 v10 wr => ∃ m : Nat, (m : Int) ≤ 31 + 2 * err ∧ v10 = .int .i64 (-err + m) ∧ v9 = .int .i64 (mostTo S k err m) ∧ Ext w1 wr) (fun _ v10 _ => (31 + err - intOf v10).toNat)
      case atStart => exact ⟨0, by omega, by go_num, rfl, HE.out⟩
      case round =>
        obtain ⟨m, hm, rfl, rfl, hE⟩ := hrel
        have HE := Lib.hid hE
        have hmb := mostTo_bd HSm.out hk4 ⟨he0, he5⟩ m hm
        clear hE
        by_cases hlm : -err + (m : Int) ≤ 30 + err
        · go_wp2_with fail
          obtain ⟨n0, hn0⟩ : ∃ n0 : Nat, (n0 : Int) = max 0 (-err + m - err) := ⟨(max 0 (-err + (m : Int) - err)).toNat, by omega⟩
          obtain ⟨wo, rfl⟩ : ∃ wo : World, wo = wr := ⟨_, rfl⟩
          have HMk := Lib.hid (show markW S k err (-err + m) = widthM (leftTo S k n0 (min 30 (-err + m + err) + 1 - n0).toNat) by
            unfold markW
            rw [← hn0, Int.toNat_natCast])
          have HLs := Lib.hid (leftTo_small HSm.out hk4 n0)
          have HLS := Lib.hid (show ∀ q, leftTo S k n0 (q + 1) = addS (leftTo S k n0 q) (S.it k (n0 + q)) from fun q => rfl)
          have HL0 := Lib.hid (show leftTo S k n0 0 = noSpan from rfl)
          have HMo := Lib.hid (show mostTo S k err (m + 1) = max (mostTo S k err m) (markW S k err (-err + m)) from rfl)
          refine (none_any _).mono ?_
          rintro e w2 ⟨rfl, rfl⟩
          have HE2 := Lib.hid (Ext.of_alloc wo (.cells #[.int .i64 1073741824, .int .i64 (-1073741824)] 35))
          have HB2 := Lib.hid (blk_second wo (.cells #[.int .i64 1073741824, .int .i64 (-1073741824)] 35) #[.int .i64 1073741824, .int .i64 (-1073741824)] 35)
          have HE3 := Lib.hid ((Ext.of_alloc wo (.cells #[.int .i64 1073741824, .int .i64 (-1073741824)] 35)).alloc (.cells #[.int .i64 1073741824, .int .i64 (-1073741824)] 35))
          have hwo : w1.heap.size ≤ wo.heap.size := HE.out.size
          generalize leftTo S k n0 = lt at *
          generalize markW S k err (-err + m) = mw at *
          generalize mostTo S k err m = mo at *
          rcases (show (-err + (m : Int) - err ≤ 0 ∧ (n0 : Int) = 0) ∨ (0 < -err + (m : Int) - err ∧ (n0 : Int) = -err + m - err) by omega) with ⟨hc1, hc2⟩ | ⟨hc1, hc2⟩
          all_goals
            have Hc2 := Lib.hid hc2
            have hn30 : n0 ≤ 30 := by omega
            clear hc2 hn0
            go_wp2_with fail
            go_loopw [12] (fun v12 wr => ∃ q : Nat, (q : Int) ≤ min 30 (-err + m + err) + 1 - n0 ∧ v12 = .int .i64 (n0 + q) ∧ Ext wo wr ∧ Blk wr (wo.heap.size + 1) 35 #[.int .i64 (lt q).1, .int .i64 (lt q).2]) (fun v12 _ => (31 - intOf v12).toNat)
            case atStart => exact ⟨0, by have := Hc2.out; omega, by rw [Hc2.out]; go_num, HE3.out, by rw [HL0.out]; exact HB2.out⟩
            case round =>
              obtain ⟨q, hq, rfl, hE4, hB4⟩ := hrel
              have HE4 := Lib.hid hE4
              have HB4 := Lib.hid hB4
              by_cases hmin : 30 ≤ -err + (m : Int) + err
              all_goals try (exfalso; omega)
              all_goals
                by_cases hlq : (n0 : Int) + q ≤ min 30 (-err + m + err)
                · obtain ⟨x1, x2⟩ := HCell.out _ (HE.out.trans hE4) k (n0 + q) hk4 (by omega)
                  have HAdd := Lib.hid (add_any (wo.heap.size + 1) 0 35 _ (lt q).1 (lt q).2 (S.it k (n0 + q)).1 (S.it k (n0 + q)).2 wr hB4 rfl rfl)
                  have hnq : (n0 : Int) + q ≤ 30 := by omega
                  have hnq2 : (n0 : Int) + q ≤ -err + m + err := by omega
                  clear hE4 hB4
                  go_wp2_with fail
                  refine HAdd.out.mono ?_
                  rintro e w5 ⟨rfl, hB5, hG5⟩
                  have HE5 := Lib.hid (Below.grown HE4.out hG5 HE4.out.size (fun j hj => by injection hj with hj; omega))
                  have HB5 := Lib.hid (show Blk w5 (wo.heap.size + 1) 35 #[.int .i64 (lt (q + 1)).1, .int .i64 (lt (q + 1)).2] by rw [HLS.out q]; exact hB5)
                  clear hB5 hG5
                  go_wp2
                  go_roundw
                  case rel => exact ⟨q + 1, by omega, by go_num, HE5.out, HB5.out⟩
                  case measure => simp [intOf]; omega
                · have hqe : (q : Int) = min 30 (-err + m + err) + 1 - n0 := by omega
                  have hmw : mw = max 0 ((lt q).2 - (lt q).1) := by
                    rw [HMk.out, show (min 30 (-err + (m : Int) + err) + 1 - n0).toNat = q by omega]; rfl
                  have HMw := Lib.hid hmw
                  have hb1 := hB4.cell
                  have hls := HLs.out q (by omega)
                  have HEr := Lib.hid (HE.out.trans hE4)
                  clear hE4 hB4 hmw hqe
                  go_wp2_with fail
                  refine (width_any (lt q).1 (lt q).2 _ (by omega) (by omega) (by omega) (by omega)).mono ?_
                  rintro e w6 ⟨rfl, hE6⟩
                  rw [← HMw.out]
                  have HE6 := Lib.hid (HEr.out.trans hE6)
                  have hmwb : 0 ≤ mw := by have := HMw.out; omega
                  clear hE6
                  go_wp2
                  all_goals
                    go_roundw
                    case rel => exact ⟨m + 1, by omega, by go_num, by rw [HMo.out]; congr 1; first | (split <;> omega) | omega, HE6.out⟩
                    case measure => simp [intOf]; omega
        · have HMM := Lib.hid (show mostM S k err = mostTo S k err m by
            unfold mostM; rw [show (31 + 2 * err).toNat = m by omega])
          have HBe := Lib.hid (show bestTo S err (k + 1) = if (bestTo S err k).2 < 0 ∨ mostM S k err < (bestTo S err k).2 then ((k : Int), mostM S k err) else bestTo S err k from rfl)
          by_cases h1 : (bestTo S err k).2 < 0
          · have HB := Lib.hid (show bestTo S err (k + 1) = ((k : Int), mostTo S k err m) by rw [HBe.out, if_pos (.inl h1), HMM.out])
            go_wp2
            go_roundw
            case rel => exact ⟨k + 1, by omega, by go_num, by rw [HB.out], by rw [HB.out], HE.out⟩
            case measure => simp [intOf]; omega
          · have h1' : decide ((bestTo S err k).2 < 0) = false := by simpa using h1
            by_cases h2 : mostTo S k err m < (bestTo S err k).2
            · have HB := Lib.hid (show bestTo S err (k + 1) = ((k : Int), mostTo S k err m) by rw [HBe.out, HMM.out, if_pos (.inr h2)])
              go_wp2
              go_roundw
              case rel => exact ⟨k + 1, by omega, by go_num, by rw [HB.out], by rw [HB.out], HE.out⟩
              case measure => simp [intOf]; omega
            · have HB := Lib.hid (show bestTo S err (k + 1) = bestTo S err k by rw [HBe.out, HMM.out, if_neg (by omega)])
              go_wp2
              go_roundw
              case rel => exact ⟨k + 1, by omega, by go_num, by rw [HB.out], by rw [HB.out], HE.out⟩
              case measure => simp [intOf]; omega
    · obtain rfl : k = p.items.length := by omega
      go_wp2
      go_ret3
      exact ⟨by rw [HR.out]; rfl, HE1.out.trans HE.out⟩
end Go.Proofs.Ytbpilgflejdhaaa
