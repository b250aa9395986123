/- Exams: the walk over the reference's graded. / Exams: the walk over the reference's CheckShow. -/
import Derived.Test.YtbpilgflejdhaaaExYb
import Derived.Test.YtbpilgflejdhaaaExBox
import Derived.Test.YtbpilgflejdhaaaExT
/-! Exams: the walk over the reference's graded. -/
namespace Go.Proofs.Ytbpilgflejdhaaa
open Go.RowKit

theorem setTrue (w : World) (g : Nat) (t : TypeId) (l : List Bool) (i : Nat) (h : Blk w g t (rightV l)) : Blk (w.setCell ⟨g, i, none⟩ (.bool true)) g t (rightV (l.set i true)) := by
  rw [← rightV_set]; exact h.set i _
theorem bools_cell {w : World} {g : Nat} {t : TypeId} {l : List Bool} (h : Blk w g t (rightV l)) {k : Nat} (hk : k < l.length) : w.cell? ⟨g, k, none⟩ = some (.bool (l.getD k false)) := (h.cell k).trans (rightV_get l k hk)

set_option maxHeartbeats 16000000 in
set_option maxRecDepth 100000 in
theorem graded_any (iA jA gA bA : Option Addr) (ic jc gc bc : Nat) (p : Paper) (hV : Valid p) (pts : List (Int × Int)) (r : Nat) (gr : Int) (w : World) (h : PaperAt w iA jA gA p) (hb : Spans w bA pts) (hpl : pts.length = p.items.length)
    (hbd : ∀ j, j < p.items.length → 0 ≤ (pts.getD j (0, 0)).1 ∧ (pts.getD j (0, 0)).1 ≤ 30 ∧ 0 ≤ (pts.getD j (0, 0)).2 ∧ (pts.getD j (0, 0)).2 ≤ 30) :
    Calls Try.prog 56 #[.agg #[.slice iA p.items.length ic, .slice jA p.judges.length jc, .int .i64 p.wrong, .slice gA p.grades.length gc], .agg #[.slice bA pts.length bc, .int .i64 (r : Int)], .int .i64 gr] w fun e w' => e = .returned (.bool (gradedB p ⟨pts, r⟩ gr)) ∧ Ext w w' := by
  obtain ⟨rv, hrv⟩ : ∃ rv, rv = rightV (List.replicate 1201 false) := ⟨_, rfl⟩
  have hmk : ∀ W, (Instr.makeSlice 82 (.int .i64 1201) (.int .i64 1201)).run Try.prog W = .ok (.slice (some ⟨W.heap.size, 0, none⟩) 1201 1201) (W.alloc (.cells rv 4)) := fun W => run_makeBools 1201 (by omega) W rv hrv
  have HRv := Lib.hid hrv
  have hil := hV.il
  have H := Lib.hid h.items
  have HG := Lib.hid (fun W (e : Ext w W) (n : Int) => gradeOf_any iA jA gA ic jc gc p n W (h.ext e))
  have HSp := Lib.hid hb
  have HPl := Lib.hid hpl
  have HIt := Lib.hid hV.it
  have HBd := Lib.hid hbd
  have HLen := Lib.hid (sumsK_len p ⟨pts, r⟩)
  have HZ := Lib.hid (show sumsK p ⟨pts, r⟩ 0 = (List.replicate 1201 false).set 0 true from rfl)
  have HSn := Lib.hid (show ∀ k, sumsK p ⟨pts, r⟩ (k + 1) = nextTo (sumsK p ⟨pts, r⟩ k) (pts.getD k (0, 0)).1 (pts.getD k (0, 0)).2 (p.items.getD k default).weight (sumsK p ⟨pts, r⟩ k).length from fun k => rfl)
  have HNz := Lib.hid (show ∀ S a b wt, nextTo S a b wt 0 = List.replicate S.length false from fun _ _ _ _ => rfl)
  have HNs := Lib.hid (show ∀ S a b wt n, nextTo S a b wt (n + 1) = if S.getD n false then putTo (nextTo S a b wt n) n a wt (b + 1 - a).toNat else nextTo S a b wt n from fun _ _ _ _ _ => rfl)
  have HPz := Lib.hid (show ∀ l n a wt, putTo l n a wt 0 = l from fun _ _ _ _ => rfl)
  have HPs := Lib.hid (show ∀ l n a wt k, putTo l n a wt (k + 1) = (putTo l n a wt k).set (n + (a + k) * wt).toNat true from fun _ _ _ _ _ => rfl)
  have HNl := Lib.hid nextTo_len
  have HPlen := Lib.hid putTo_len
  have HSml := Lib.hid (show ∀ k, k ≤ p.items.length → ∀ n, n < 1201 → (sumsK p ⟨pts, r⟩ k).getD n false = true → (n : Int) ≤ 300 * k from fun k hk n hn hs => by
    obtain ⟨t, ht, h1, h2⟩ := (sumsK_get hV (B := ⟨pts, r⟩) (fun j hj => ⟨(hbd j hj).1, (hbd j hj).2.2.2⟩) k hk n hn).1 hs
    have := (resultTo_le (p := p) (t := t) (fun i hi => ⟨(hV.it i (by omega)).1, (hV.it i (by omega)).2.1⟩) (fun i hi => by
      have a := h1 i (by omega); have b := hbd i (by omega); simp only at a; omega) k (by omega)).2
    omega)
  have HFin := Lib.hid (show gradedB p ⟨pts, r⟩ gr = (List.range 1201).any (fun n => (sumsK p ⟨pts, r⟩ p.items.length).getD n false && decide (gradeOf p n = gr)) from rfl)
  have hgl := h.gl
  obtain ⟨w1, hw1⟩ : ∃ w1, (w.alloc (.cells #[.slice iA p.items.length ic, .slice jA p.judges.length jc, .int .i64 p.wrong, .slice gA p.grades.length gc] 26)).alloc (.cells #[.slice bA pts.length bc, .int .i64 (r : Int)] 97) = w1 := ⟨_, rfl⟩
  have HW := Lib.hid (show Ext w w1 by rw [← hw1]; exact (Ext.of_alloc _ _).alloc _)
  have HB := Lib.hid (show ∀ W, Ext w1 W → ((W.cell? ⟨w.heap.size, 0, none⟩ = some (.slice iA p.items.length ic) ∧ W.cell? ⟨w.heap.size, 1, none⟩ = some (.slice jA p.judges.length jc) ∧ W.cell? ⟨w.heap.size, 2, none⟩ = some (.int .i64 p.wrong) ∧ W.cell? ⟨w.heap.size, 3, none⟩ = some (.slice gA p.grades.length gc)) ∧ W.cell? ⟨w.heap.size + 1, 0, none⟩ = some (.slice bA pts.length bc) ∧ w.heap.size + 1 < W.heap.size) from fun W e => by
    rw [← hw1] at e
    obtain ⟨b1, b2, _, _, b3⟩ := box2 e
    exact ⟨⟨b1 0, b1 1, b1 2, b1 3⟩, b2 0, b3⟩)
  have hc0 : (w1.alloc (.cells rv 4)).cell? ⟨w1.heap.size, 0, none⟩ = some (.bool false) := by
    have hbk : Blk (w1.alloc (.cells rv 4)) w1.heap.size 4 (rightV (List.replicate 1201 false)) := by rw [← hrv]; exact Blk.new _ _ _
    rw [bools_cell hbk (by rw [List.length_replicate]; omega), List.getD, List.getElem?_replicate, if_pos (by omega)]
    rfl
  have hf0 : (w1.alloc (.cells rv 4)).frozen? ⟨w1.heap.size, 0, none⟩ = false := (Blk.new w1 4 rv).free 0
  clear h hb hpl hbd hrv
  go_enter Try.func56, Try.ntmps56
  go_wp2_with fail
  go_loopw [7, 8] (fun v7 v8 wr => ∃ k : Nat, k ≤ p.items.length ∧ v8 = .int .i64 k ∧ ∃ g7, v7 = .slice (some ⟨g7, 0, none⟩) 1201 1201 ∧ Ext w1 wr ∧ Blk wr g7 4 (rightV (sumsK p ⟨pts, r⟩ k))) (fun _ v8 _ => p.items.length - (intOf v8).toNat)
  case atStart =>
    refine ⟨0, by omega, rfl, w1.heap.size, rfl, Ext.of_alloc _ _, ?_⟩
    rw [HZ.out, ← rightV_set, ← HRv.out]
    exact Blk.new _ _ _
  case round =>
    obtain ⟨k, hk, rfl, g7, rfl, hE, hS⟩ := hrel
    have HE := Lib.hid hE
    have HS := Lib.hid hS
    obtain ⟨⟨q0, q1, q2, q3⟩, q4, q5⟩ := HB.out _ hE
    have hlenS := HLen.out k
    have HLS := Lib.hid hlenS
    by_cases hlt : (k : Int) < p.items.length
    · obtain ⟨ib, ioff, wt, mo, rfl, hib, hi1, hi2, hwt, _⟩ := (H.out.ext (HW.out.trans hE)).get (show k < p.items.length by omega)
      obtain ⟨sb, soff, a, b, rfl, hsb, hs1, hs2, hab⟩ := (HSp.out.ext (HW.out.trans hE)).get (show k < pts.length by have := HPl.out; omega)
      have hkp : (k : Int) < pts.length := by have := HPl.out; omega
      have hbk := HBd.out k (by omega)
      have hwk := HIt.out k (by omega)
      have HSk := Lib.hid (HSn.out k)
      have HSm := Lib.hid (HSml.out k hk)
      rw [hab.out] at hbk HSk
      rw [hwt.out] at hwk HSk
      simp only at hbk HSk
      obtain ⟨ha0, ha1, hb0, hb1⟩ := hbk
      obtain ⟨hw0, hw1, _, _⟩ := hwk
      generalize sumsK p ⟨pts, r⟩ k = S at *
      have HSk2 := Lib.hid (show sumsK p ⟨pts, r⟩ (k + 1) = nextTo S a b wt 1201 by rw [HSk.out, HLS.out])
      have HL2 := Lib.hid (show ∀ n, (nextTo S a b wt n).length = 1201 from fun n => (HNl.out S a b wt n).trans HLS.out)
      have hg7 := hS.lt
      have hk3 : k ≤ 3 := by omega
      obtain ⟨wo, rfl⟩ : ∃ wo : World, wo = wr := ⟨_, rfl⟩
      have HXo := Lib.hid (Ext.of_alloc wo (.cells rv 4))
      have HBo := Lib.hid (show Blk (wo.alloc (.cells rv 4)) wo.heap.size 4 (rightV (nextTo S a b wt 0)) by rw [HNz.out, HLS.out, ← HRv.out]; exact Blk.new _ _ _)
      have HCs := Lib.hid (show ∀ W, Ext wo W → (W.cell? ⟨ib, ioff + k * 2, none⟩ = some (.int .i64 wt) ∧ W.cell? ⟨sb, soff + k * 2, none⟩ = some (.int .i64 a) ∧ W.cell? ⟨sb, soff + k * 2 + 1, none⟩ = some (.int .i64 b) ∧ ib < W.heap.size ∧ sb < W.heap.size ∧ Blk W g7 4 (rightV S)) from fun W e =>
        ⟨(e.cellOf (p := ⟨ib, _, none⟩) hib).trans hi1, (e.cellOf (p := ⟨sb, _, none⟩) hsb).trans hs1, (e.cellOf (p := ⟨sb, _, none⟩) hsb).trans hs2, Nat.lt_of_lt_of_le hib e.size, Nat.lt_of_lt_of_le hsb e.size, HS.out.ext e⟩)
      clear hE hS hlenS HSk hab hwt hi1 hi2 hs1 hs2 hib hsb
      go_wp2_with fail
      go_loopw [10] (fun v10 wr => ∃ n : Nat, n ≤ 1201 ∧ v10 = .int .i64 n ∧ Ext wo wr ∧ Blk wr wo.heap.size 4 (rightV (nextTo S a b wt n))) (fun v10 _ => 1201 - (intOf v10).toNat)
      case atStart => exact ⟨0, by omega, rfl, HXo.out, HBo.out⟩
      case round =>
        obtain ⟨n, hn, rfl, hE2, hN⟩ := hrel
        have HE2 := Lib.hid hE2
        have HN := Lib.hid hN
        obtain ⟨⟨q0, q1, q2, q3⟩, q4, q5⟩ := HB.out _ (HE.out.trans hE2)
        obtain ⟨c1, c2, c3, c4, c5, c6⟩ := HCs.out _ hE2
        by_cases hln : (n : Int) < 1201
        · have hcS := bools_cell c6 (k := n) (by rw [HLS.out]; omega)
          have HNk := Lib.hid (HNs.out S a b wt n)
          obtain ⟨wp, rfl⟩ : ∃ wp : World, wp = wr := ⟨_, rfl⟩
          cases hSn : S.getD n false
          · rw [hSn] at hcS HNk
            have HNk2 := Lib.hid (show nextTo S a b wt (n + 1) = nextTo S a b wt n by rw [HNk.out]; simp)
            clear hE2 hN c6 hSn
            go_wp2_with fail
            go_loop [11] (fun v11 => v11 = .int .i64 a) (fun _ => 0)
            case atStart => rfl
            case round =>
              obtain rfl := hrel
              go_wp2
              go_roundw
              case rel => exact ⟨n + 1, by omega, by go_num, HE2.out, by rw [HNk2.out]; exact HN.out⟩
              case measure => simp [intOf]; omega
          · rw [hSn] at hcS HNk
            have HNk2 := Lib.hid (show nextTo S a b wt (n + 1) = putTo (nextTo S a b wt n) n a wt (b + 1 - a).toNat by rw [HNk.out]; simp)
            have hsml := HSm.out n (by omega) hSn
            have HSt := Lib.hid hSn
            have HL3 := Lib.hid (show ∀ m, (putTo (nextTo S a b wt n) n a wt m).length = 1201 from fun m => (HPlen.out _ _ _ _ m).trans (HL2.out n))
            have HP0 := Lib.hid (HPz.out (nextTo S a b wt n) n a wt)
            have HP1 := Lib.hid (HPs.out (nextTo S a b wt n) n a wt)
            clear hE2 hN c6 hSn
            go_wp2_with fail
            obtain ⟨cnt, hcnt⟩ : ∃ cnt, (b + 1 - a).toNat = cnt := ⟨_, rfl⟩
            rw [hcnt] at HNk2
            have hcn1 : b + 1 - a ≤ (cnt : Int) := by omega
            have hcn2 : (cnt : Int) ≤ 0 ∨ (cnt : Int) ≤ b + 1 - a := by omega
            have HCn2 := Lib.hid hcn2
            clear hcnt hcn2
            go_loopw [11] (fun v11 wr => ∃ m : Nat, m ≤ cnt ∧ v11 = .int .i64 (a + m) ∧ Ext wo wr ∧ Blk wr wo.heap.size 4 (rightV (putTo (nextTo S a b wt n) n a wt m))) (fun v11 _ => (b + 1 - intOf v11).toNat)
            case atStart => exact ⟨0, by omega, by simp, HE2.out, by rw [HP0.out]; exact HN.out⟩
            case round =>
              obtain ⟨m, hm, rfl, hE3, hN3⟩ := hrel
              have HE3 := Lib.hid hE3
              have HN3 := Lib.hid hN3
              obtain ⟨⟨q0, q1, q2, q3⟩, q4, q5⟩ := HB.out _ (HE.out.trans hE3)
              obtain ⟨c1, c2, c3, c4, c5, c6⟩ := HCs.out _ hE3
              have hcS := bools_cell c6 (k := n) (by rw [HLS.out]; omega)
              rw [HSt.out] at hcS
              obtain ⟨x, hx⟩ : ∃ x : Int, a + (m : Int) = x := ⟨_, rfl⟩
              have HPm := Lib.hid (show putTo (nextTo S a b wt n) n a wt (m + 1) = (putTo (nextTo S a b wt n) n a wt m).set ((n : Int) + x * wt).toNat true by rw [HP1.out, hx])
              have HXm := Lib.hid hx
              rw [hx]
              by_cases hmc : m < cnt
              · have hxb : x ≤ b := by have := HCn2.out; omega
                have hx0 : 0 ≤ x := by omega
                have m1 := Int.mul_le_mul (show x ≤ 30 by omega) hw1 hw0 (by omega : (0:Int) ≤ 30)
                have m2 := Int.mul_nonneg hx0 hw0
                have hq0 : (0 : Int) ≤ (n : Int) + x * wt := by omega
                have hq1 : (n : Int) + x * wt < 1201 := by omega
                have hcq := bools_cell hN3 (k := ((n : Int) + x * wt).toNat) (by rw [HL3.out]; omega)
                have hfq := hN3.free ((n : Int) + x * wt).toNat
                generalize putTo (nextTo S a b wt n) n a wt m = pm at *
                clear hE3 hN3 c6 hx
                go_wp2
                go_roundw
                case rel => exact ⟨m + 1, by omega, by have := HXm.out; simp; omega, HE3.out.setCell (p := ⟨wo.heap.size, _, none⟩) (Nat.le_refl _) _, by rw [HPm.out]; exact setTrue _ _ _ _ _ HN3.out⟩
                case measure => simp [intOf]; omega
              · have hxb : b < x := by omega
                have hmm : m = cnt := by omega
                subst hmm
                clear hE3 hN3 c6 hx
                go_wp2
                go_roundw
                case rel => exact ⟨n + 1, by omega, by go_num, HE3.out, by rw [HNk2.out]; exact HN3.out⟩
                case measure => simp [intOf]; omega
        · obtain rfl : n = 1201 := by omega
          clear hE2 hN c6
          go_wp2
          go_roundw
          case rel => exact ⟨k + 1, by omega, by go_num, wo.heap.size, rfl, HE.out.trans HE2.out, by rw [HSk2.out]; exact HN.out⟩
          case measure => simp [intOf]; omega
    · obtain rfl : k = p.items.length := by omega
      clear hE hlenS
      generalize sumsK p ⟨pts, r⟩ p.items.length = S at *
      have hg7 := hS.lt
      have HF1 := Lib.hid (show ∀ n, n < 1201 → (S.getD n false && decide (gradeOf p n = gr)) = true → gradedB p ⟨pts, r⟩ gr = true from fun n hn hq => by
        rw [HFin.out, List.any_eq_true]; exact ⟨n, by rw [List.mem_range]; exact hn, hq⟩)
      have HF0 := Lib.hid (show (∀ n, n < 1201 → (S.getD n false && decide (gradeOf p n = gr)) = false) → gradedB p ⟨pts, r⟩ gr = false from fun hq => by
        rw [HFin.out, List.any_eq_false]; intro n hn; rw [List.mem_range] at hn; rw [hq n hn]; exact Bool.false_ne_true)
      clear hS
      obtain ⟨wo, rfl⟩ : ∃ wo : World, wo = wr := ⟨_, rfl⟩
      go_wp2_with fail
      go_loopw [12] (fun v12 wr => ∃ n : Nat, n ≤ 1201 ∧ v12 = .int .i64 n ∧ Ext wo wr ∧ ∀ j, j < n → (S.getD j false && decide (gradeOf p j = gr)) = false) (fun v12 _ => 1201 - (intOf v12).toNat)
      case atStart => exact ⟨0, by omega, rfl, Ext.refl _, fun j hj => by omega⟩
      case round =>
        obtain ⟨n, hn, rfl, hE2, hall⟩ := hrel
        have HE2 := Lib.hid hE2
        have HAl := Lib.hid hall
        obtain ⟨⟨q0, q1, q2, q3⟩, q4, q5⟩ := HB.out _ (HE.out.trans hE2)
        by_cases hln : (n : Int) < 1201
        · have hcS := bools_cell (HS.out.ext hE2) (k := n) (by rw [HLS.out]; omega)
          have HGn := Lib.hid (HG.out _ ((HW.out.trans HE.out).trans hE2) n)
          have HNo := Lib.hid (show (S.getD n false && decide (gradeOf p n = gr)) = false → ∀ j, j < n + 1 → (S.getD j false && decide (gradeOf p j = gr)) = false from fun hq j hj => by
            by_cases e : j = n
            · rw [e]; exact hq
            · exact HAl.out j (by omega))
          have HYs := Lib.hid (HF1.out n (by omega))
          cases hSn : S.getD n false
          · rw [hSn] at hcS HNo
            have HNo2 := Lib.hid (HNo.out rfl)
            clear hE2 hall hSn HNo
            go_wp2
            go_roundw
            case rel => exact ⟨n + 1, by omega, by go_num, HE2.out, HNo2.out⟩
            case measure => simp [intOf]; omega
          · rw [hSn] at hcS HNo HYs
            generalize gradeOf p n = gq at *
            by_cases hq : gq = gr
            · have HYs2 := Lib.hid (HYs.out (by simp [hq]))
              have hqq : (gq == gr) = true := by simp [hq]
              clear hE2 hall hSn HNo hq
              go_wp2_with fail
              refine HGn.out.mono ?_
              rintro e w5 ⟨rfl, hE5⟩
              have HE5 := Lib.hid (HE2.out.trans hE5)
              clear hE5
              go_wp2
              go_ret
              exact ⟨ret_bool HYs2.out.symm, (HW.out.trans HE.out).trans HE5.out⟩
            · have HNo2 := Lib.hid (HNo.out (by simp [hq]))
              have hqq : (gq == gr) = false := by simpa using hq
              clear hE2 hall hSn HNo hq
              go_wp2_with fail
              refine HGn.out.mono ?_
              rintro e w5 ⟨rfl, hE5⟩
              have HE5 := Lib.hid (HE2.out.trans hE5)
              clear hE5
              go_wp2
              go_roundw
              case rel => exact ⟨n + 1, by omega, by go_num, HE5.out, HNo2.out⟩
              case measure => simp [intOf]; omega
        · have HGb := Lib.hid (HF0.out (fun j hj => HAl.out j (by omega)))
          clear hE2 hall
          go_wp2
          go_ret
          exact ⟨ret_bool HGb.out.symm, (HW.out.trans HE.out).trans HE2.out⟩
end Go.Proofs.Ytbpilgflejdhaaa
/-! Exams: the walk over the reference's CheckShow. -/
namespace Go.Proofs.Ytbpilgflejdhaaa
open Go.RowKit

set_option maxHeartbeats 8000000 in
set_option maxRecDepth 100000 in
theorem checkShow_any (iA jA gA : Option Addr) (ic jc gc : Nat) (p : Paper) (g : Int) (w : World) (h : PaperAt w iA jA gA p) :
    Calls Try.prog 28 #[.agg #[.slice iA p.items.length ic, .slice jA p.judges.length jc, .int .i64 p.wrong, .slice gA p.grades.length gc], .int .i64 g] w fun e w' => e = .returned (.int .i64 (checkShowM p g)) ∧ Ext w w' := by
  have HX := Lib.hid (Ext.of_alloc w (.cells #[.slice iA p.items.length ic, .slice jA p.judges.length jc, .int .i64 p.wrong, .slice gA p.grades.length gc] 26))
  have HB := Lib.hid (show ∀ W, Ext (w.alloc (.cells #[.slice iA p.items.length ic, .slice jA p.judges.length jc, .int .i64 p.wrong, .slice gA p.grades.length gc] 26)) W → (W.cell? ⟨w.heap.size, 0, none⟩ = some (.slice iA p.items.length ic) ∧ W.cell? ⟨w.heap.size, 1, none⟩ = some (.slice jA p.judges.length jc) ∧ W.cell? ⟨w.heap.size, 2, none⟩ = some (.int .i64 p.wrong) ∧ W.cell? ⟨w.heap.size, 3, none⟩ = some (.slice gA p.grades.length gc)) from fun W e => ⟨e.box 0, e.box 1, e.box 2, e.box 3⟩)
  have HC := Lib.hid (checkR_any iA jA gA ic jc gc p _ (h.ext HX.out))
  have hgl := h.gl
  cases hv : validB p
  · rw [show checkE p = 90 by simp [checkE, hv], ] at HC
    have HM := Lib.hid (show checkShowM p g = 90 by simp [checkShowM, hv])
    clear h hv
    go_enter Try.func28, Try.ntmps28
    go_wp2_with fail
    refine HC.out.mono ?_
    rintro e w1 ⟨rfl, hE1⟩
    have HE1 := Lib.hid hE1
    clear hE1
    go_wp2
    go_ret
    exact ⟨ret_int HM.out.symm, HX.out.trans HE1.out⟩
  · rw [show checkE p = 0 by simp [checkE, hv]] at HC
    have hV := valid_of hv
    have HW := Lib.hid (fun W => withinR g 0 p.grades.length W)
    cases hw : wi g 0 p.grades.length
    · rw [hw] at HW
      have HM := Lib.hid (show checkShowM p g = 1 by simp [checkShowM, hv, hw])
      clear h hv hw
      go_enter Try.func28, Try.ntmps28
      go_wp2_with fail
      refine HC.out.mono ?_
      rintro e w1 ⟨rfl, hE1⟩
      have HE1 := Lib.hid hE1
      obtain ⟨k0, k1, k2, k3⟩ := HB.out _ hE1
      clear hE1
      go_wp2_with fail
      refine (HW.out _).mono ?_
      rintro e w2 ⟨rfl, rfl⟩
      go_wp2
      go_ret
      exact ⟨ret_int HM.out.symm, HX.out.trans HE1.out⟩
    · rw [hw] at HW
      have HA := Lib.hid (fun W (e : Ext w W) => all_any p hV iA jA gA ic jc gc p.wrong W (h.ext e) hV.wr.1 (by have := hV.wr.2; omega))
      have hll := Nat.le_trans (all_len hV p.wrong) (show 4096 ≤ 100000 by omega)
      have HM := Lib.hid (show checkShowM p g = if (allM p p.wrong).any (fun B => gradedB p B g) then 0 else 3 by simp only [checkShowM, hv, hw, if_true])
      have HG := Lib.hid (show ∀ k, k < (allM p p.wrong).length → ∀ W bA bc pts r, Ext w W → (allM p p.wrong).getD k default = ⟨pts, r⟩ → Spans W bA pts → Calls Try.prog 56 #[.agg #[.slice iA p.items.length ic, .slice jA p.judges.length jc, .int .i64 p.wrong, .slice gA p.grades.length gc], .agg #[.slice bA pts.length bc, .int .i64 (r : Int)], .int .i64 g] W fun e w' => e = .returned (.bool (gradedB p ⟨pts, r⟩ g)) ∧ Ext W w' from fun k hk W bA bc pts r e hget hs => by
        have hm : (⟨pts, r⟩ : Box) ∈ allM p p.wrong := by rw [← hget, List.getD, List.getElem?_eq_getElem hk]; exact List.getElem_mem hk
        obtain ⟨q1, q2⟩ := box_bounds hV hV.wr.1 _ hm
        exact graded_any iA jA gA bA ic jc gc bc p hV pts r g W (h.ext e) hs q1 q2)
      have HAny := Lib.hid (show ∀ k, k < (allM p p.wrong).length → gradedB p ((allM p p.wrong).getD k default) g = true → checkShowM p g = 0 from fun k hk hq => by
        have hany : (allM p p.wrong).any (fun B => gradedB p B g) = true := List.any_eq_true.2 ⟨_, (by rw [List.getD, List.getElem?_eq_getElem hk]; exact List.getElem_mem hk), hq⟩
        rw [HM.out, hany]
        rfl)
      have HNone := Lib.hid (show (∀ k, k < (allM p p.wrong).length → gradedB p ((allM p p.wrong).getD k default) g = false) → checkShowM p g = 3 from fun hq => by
        rw [HM.out, if_neg]
        rw [Bool.not_eq_true, List.any_eq_false]
        intro B hB
        obtain ⟨k, hk, rfl⟩ := List.getElem_of_mem hB
        have := hq k hk
        rw [List.getD, List.getElem?_eq_getElem hk] at this
        simp only [Option.getD_some] at this
        rw [this]
        exact Bool.false_ne_true)
      generalize allM p p.wrong = L at *
      clear h hv hw HM
      go_enter Try.func28, Try.ntmps28
      go_wp2_with fail
      refine HC.out.mono ?_
      rintro e w1 ⟨rfl, hE1⟩
      have HE1 := Lib.hid hE1
      obtain ⟨k0, k1, k2, k3⟩ := HB.out _ hE1
      clear hE1
      go_wp2_with fail
      refine (HW.out _).mono ?_
      rintro e w2 ⟨rfl, rfl⟩
      go_wp2_with fail
      refine (HA.out _ (HX.out.trans HE1.out)).mono ?_
      rintro e w2 ⟨hE2, v2, rfl, hO2⟩
      obtain ⟨A2, c2, rfl⟩ := hO2.form
      have HE2 := Lib.hid (HE1.out.trans hE2)
      have HO2 := Lib.hid hO2
      clear hE2 hO2 k0 k1 k2 k3
      go_wp2_with fail
      go_loopw [6] (fun v6 wr => ∃ k : Nat, k ≤ L.length ∧ v6 = .int .i64 k ∧ Ext w2 wr ∧ ∀ j, j < k → gradedB p (L.getD j default) g = false) (fun v6 _ => L.length - (intOf v6).toNat)
      case atStart => exact ⟨0, by omega, rfl, Ext.refl _, fun j hj => by omega⟩
      case round =>
        obtain ⟨k, hk, rfl, hE, hall⟩ := hrel
        have HE := Lib.hid hE
        have HAl := Lib.hid hall
        by_cases hlt : (k : Int) < L.length
        · obtain ⟨bb, boff, pA, pc, pts, r, rfl, hbb, hc1, hc2, hrow, hget⟩ := (HO2.out.ext hE).get (show k < L.length by omega)
          have hsp := hrow.spans rfl
          have HYes := Lib.hid (HAny.out k (by omega))
          have HNo := Lib.hid (show gradedB p (L.getD k default) g = false → ∀ j, j < k + 1 → gradedB p (L.getD j default) g = false from fun hq j hj => by
            by_cases e : j = k
            · rw [e]; exact hq
            · exact HAl.out j (by omega))
          rw [hget.out] at HYes HNo
          have HSp := Lib.hid hsp
          obtain ⟨C, hC⟩ : ∃ C : World → Prop, ∀ W, C W ↔ Ext wr W := ⟨_, fun W => Iff.rfl⟩
          have HC2 := Lib.hid hC
          have HBx := Lib.hid (show ∀ W, C W → (W.cell? ⟨w.heap.size, 0, none⟩ = some (.slice iA p.items.length ic) ∧ W.cell? ⟨w.heap.size, 1, none⟩ = some (.slice jA p.judges.length jc) ∧ W.cell? ⟨w.heap.size, 2, none⟩ = some (.int .i64 p.wrong) ∧ W.cell? ⟨w.heap.size, 3, none⟩ = some (.slice gA p.grades.length gc) ∧ W.cell? ⟨bb, boff + k * 2, none⟩ = some (.slice pA pts.length pc) ∧ W.cell? ⟨bb, boff + k * 2 + 1, none⟩ = some (.int .i64 (r : Int))) from fun W hW => by
            obtain ⟨k0, k1, k2, k3⟩ := HB.out _ ((HE2.out.trans HE.out).trans ((hC W).1 hW))
            exact ⟨k0, k1, k2, k3, (((hC W).1 hW).cellOf (p := ⟨bb, _, none⟩) hbb).trans hc1, (((hC W).1 hW).cellOf (p := ⟨bb, _, none⟩) hbb).trans hc2⟩)
          have HP1 := Lib.hid (fun W hW => ((HG.out k (by omega) W pA pc pts r (((HX.out.trans HE2.out).trans HE.out).trans ((hC W).1 hW)) hget.out (HSp.out.ext ((hC W).1 hW))).mono fun e w1 ⟨he, hE1⟩ => (⟨he, (hC _).2 (((hC W).1 hW).trans hE1)⟩ : e = Ending.returned (.bool (gradedB p ⟨pts, r⟩ g)) ∧ C w1)))
          generalize gradedB p ⟨pts, r⟩ g = gb at *
          clear hE hall hrow hget hsp hC hc1 hc2
          go_wp2_with fail
          with_reducible refine wp_region_class C (by kernel_rfl) (by kernel_rfl) ((HC2.out _).2 (Ext.refl _).drew) ?_
          repeat
            ((with_reducible refine wpQuiet_step (fun K hK => ?_))
             go_simp
             first
             | ((with_reducible refine hK _ ?_); clear hK K)
             | (with_reducible apply Exists.intro
                (with_reducible refine ⟨fun W hW => ?_, hK _ ?_⟩)
                · first | (with_reducible exact HP1.out W hW) | (obtain ⟨k0, k1, k2, k3, c0, c1⟩ := HBx.out W hW; go_simp <;> rfl)
                clear hK K))
          with_reducible refine wpQuiet_nil ?_
          intro w9 hw9
          have HE9 := Lib.hid (HE.out.trans ((HC2.out _).1 hw9))
          clear hw9 HC2 HP1 HBx
          cases gb
          · go_wp2
            go_roundw
            case rel => exact ⟨k + 1, by omega, by go_num, HE9.out, HNo.out (by simp)⟩
            case measure => simp [intOf]; omega
          · go_wp2
            go_ret
            exact ⟨ret_int (HYes.out (by simp)).symm, (HX.out.trans HE2.out).trans HE9.out⟩
        · have HNn := Lib.hid (HNone.out (fun j hj => HAl.out j (by omega)))
          clear hE hall
          go_wp2
          go_ret
          exact ⟨ret_int HNn.out.symm, (HX.out.trans HE2.out).trans HE.out⟩
end Go.Proofs.Ytbpilgflejdhaaa
