/- Exams: the walk over Next. / Exams: Blame. / Exams: the plain law: what open's survey is / Exams: the plain law: what the survey of all truths is -/
import Derived.Test.YtbpilgflejdhaaaBm9
import Derived.Deep.RegionHeld3

namespace Go.Proofs.Ytbpilgflejdhaaa
open Go.RowKit

theorem keep4 (w : World) (a b c d : Value) (T : TypeId) : ∀ W, Ext (w.alloc (.cells #[a, b, c, d] T)).drew W → (W.cell? ⟨w.heap.size, 0, none⟩ = some a ∧ W.cell? ⟨w.heap.size, 1, none⟩ = some b ∧ W.cell? ⟨w.heap.size, 2, none⟩ = some c ∧ W.cell? ⟨w.heap.size, 3, none⟩ = some d) := fun W e => by
  have e' : Ext (w.alloc (.cells #[a, b, c, d] T)) W := (Ext.refl _).drew.trans e
  exact ⟨e'.box 0, e'.box 1, e'.box 2, e'.box 3⟩

set_option maxHeartbeats 2000000 in
theorem next_err (iA jA gA : Option Addr) (ic jc gc : Nat) (p : Paper) (err c : Int) (w : World) (h : PaperAt w iA jA gA p) (hk : knownE p (wi err 0 5) = c) (hc : c ≠ 0) :
    Calls Try.prog 15 #[.agg #[.slice iA p.items.length ic, .slice jA p.judges.length jc, .int .i64 p.wrong, .slice gA p.grades.length gc], .int .i64 err] w fun e w' => e = .returned (.tuple #[.int .i64 0, .int .i64 0, .int .i64 c]) ∧ Ext w w' := by
  have HK := Lib.hid (keep4 w (.slice iA p.items.length ic) (.slice jA p.judges.length jc) (.int .i64 p.wrong) (.slice gA p.grades.length gc) 26)
  have HX := Lib.hid ((Ext.of_alloc w (.cells #[.slice iA p.items.length ic, .slice jA p.judges.length jc, .int .i64 p.wrong, .slice gA p.grades.length gc] 26)))
  have HO := Lib.hid (known_err iA jA gA ic jc gc p _ c _ (h.ext HX.out.drew) hk hc)
  have hc0 : (c != 0) = true := by simpa using hc
  clear hk h hc
  go_enter Try.func15, Try.ntmps15
  go_wp2_with fail
  go_region_held3 (fun w' => w'.cell? ⟨w.heap.size, 0, none⟩ = some (.slice iA p.items.length ic) ∧ w'.cell? ⟨w.heap.size, 1, none⟩ = some (.slice jA p.judges.length jc) ∧ w'.cell? ⟨w.heap.size, 2, none⟩ = some (.int .i64 p.wrong) ∧ w'.cell? ⟨w.heap.size, 3, none⟩ = some (.slice gA p.grades.length gc))
    (first | exact HK.out _ (Ext.refl _).drew | exact HK.out _ (Ext.refl _) | exact HK.out _ hE1)
    (first
      | (go_at_call 48; refine (withinE _ _ _ _).mono ?_; rintro e w' ⟨rfl, rfl⟩)
      | (go_at_call 47; refine HO.out.mono ?_; rintro e w1 ⟨rfl, hE1⟩))
  have HE1 := Lib.hid hE1
  clear hE1
  go_wp2
  go_ret3
  exact ⟨rfl, HX.out.drew.trans HE1.out⟩

set_option maxHeartbeats 4000000 in
theorem next_ok (iA jA gA : Option Addr) (ic jc gc : Nat) (p : Paper) (err it lst : Int) (w : World) (h : PaperAt w iA jA gA p) (hk : knownE p (wi err 0 5) = 0) (hS : SmallS (openM p)) (hr : bestTo (openM p) err p.items.length = (it, lst)) :
    Calls Try.prog 15 #[.agg #[.slice iA p.items.length ic, .slice jA p.judges.length jc, .int .i64 p.wrong, .slice gA p.grades.length gc], .int .i64 err] w fun e w' => e = .returned (.tuple #[.int .i64 it, .int .i64 lst, .int .i64 0]) ∧ Ext w w' := by
  have HK := Lib.hid (keep4 w (.slice iA p.items.length ic) (.slice jA p.judges.length jc) (.int .i64 p.wrong) (.slice gA p.grades.length gc) 26)
  have HX := Lib.hid ((Ext.of_alloc w (.cells #[.slice iA p.items.length ic, .slice jA p.judges.length jc, .int .i64 p.wrong, .slice gA p.grades.length gc] 26)))
  have HO := Lib.hid (known_ok iA jA gA ic jc gc p _ _ (h.ext HX.out.drew) hk)
  have hV := valid_of (knownE_ok hk).1
  obtain ⟨he0, he5⟩ := wi_true (knownE_ok hk).2.1
  have hil := hV.il
  have HSm := Lib.hid hS
  have HR := Lib.hid hr
  clear hk h hS hr hV
  go_enter Try.func15, Try.ntmps15
  go_wp2_with fail
  go_region_held3 (fun w' => w'.cell? ⟨w.heap.size, 0, none⟩ = some (.slice iA p.items.length ic) ∧ w'.cell? ⟨w.heap.size, 1, none⟩ = some (.slice jA p.judges.length jc) ∧ w'.cell? ⟨w.heap.size, 2, none⟩ = some (.int .i64 p.wrong) ∧ w'.cell? ⟨w.heap.size, 3, none⟩ = some (.slice gA p.grades.length gc))
    (first | exact HK.out _ (Ext.refl _).drew | exact HK.out _ (Ext.refl _) | exact HK.out _ hE1)
    (first
      | (go_at_call 48; refine (withinE _ _ _ _).mono ?_; rintro e w' ⟨rfl, rfl⟩)
      | (go_at_call 47; refine HO.out.mono ?_; rintro e w1 ⟨B, M, R, rc, rfl, hS1, hE1⟩))
  have HE1 := Lib.hid (HX.out.drew.trans hE1)
  have hbox := ((Ext.refl _).drew.trans hE1).box
  have hlt1 : w.heap.size < w1.heap.size := ((Ext.refl _).drew.trans hE1).lt
  have HS1 := Lib.hid hS1
  have hB := hS1.ltB
  have HCell := Lib.hid (show ∀ W, Ext w1 W → ∀ i n, i < 4 → n < 31 → (W.cell? ⟨B, 6 + i * 62 + n * 2, none⟩ = some (.int .i64 ((openM p).it i n).1) ∧ W.cell? ⟨B, 6 + i * 62 + n * 2 + 1, none⟩ = some (.int .i64 ((openM p).it i n).2)) from fun W e i n hi hn => by
    obtain ⟨cs, hb, hc⟩ := (hS1.ext e).cs
    exact ⟨(hb.cell _).trans (hc.it1 i n hi hn), (hb.cell _).trans (hc.it2 i n hi hn)⟩)
  generalize openM p = S at *
  clear hE1 hS1 HS1 HO
  go_wp2_with fail
  go_loopw [4, 5, 26] (fun v4 v5 cn wr => ∃ k : Nat, k ≤ p.items.length ∧ cn = .int .i64 k ∧ v4 = .int .i64 (bestTo S err k).1 ∧ v5 = .int .i64 (bestTo S err k).2 ∧ Ext w1 wr) (fun _ _ cn _ => p.items.length - (intOf cn).toNat)
  case atStart => exact ⟨0, by omega, rfl, rfl, rfl, Ext.refl _⟩
  case round =>
    obtain ⟨k, hk, rfl, rfl, rfl, hE⟩ := hrel
    have HE := Lib.hid hE
    clear hE
    by_cases hlt : (k : Int) < p.items.length
    · have hk4 : k < 4 := by omega
      go_wp2_with fail
      go_loopw [9, 10] (fun v9 v10 wr => ∃ m : Nat, (m : Int) ≤ 31 + 2 * err ∧ v10 = .int .i64 (-err + m) ∧ v9 = .int .i64 (mostTo S k err m) ∧ Ext w1 wr) (fun _ v10 _ => (31 + err - intOf v10).toNat)
      case atStart => exact ⟨0, by omega, by go_num, rfl, HE.out⟩
      case round =>
        obtain ⟨m, hm, rfl, rfl, hE⟩ := hrel
        have HE := Lib.hid hE
        have hmb := mostTo_bd HSm.out hk4 ⟨he0, he5⟩ m hm
        clear hE
        by_cases hlm : -err + (m : Int) ≤ 30 + err
        · go_wp2_with fail
          obtain ⟨n0, hn0⟩ : ∃ n0 : Nat, (n0 : Int) = max 0 (-err + m - err) := ⟨(max 0 (-err + (m : Int) - err)).toNat, by omega⟩
          obtain ⟨wo, rfl⟩ : ∃ wo : World, wo = wr := ⟨_, rfl⟩
          have HMk := Lib.hid (show markW S k err (-err + m) = widthM (leftTo S k n0 (min 30 (-err + m + err) + 1 - n0).toNat) by
            unfold markW
            rw [← hn0, Int.toNat_natCast])
          have HLs := Lib.hid (leftTo_small HSm.out hk4 n0)
          have HLS := Lib.hid (show ∀ q, leftTo S k n0 (q + 1) = addS (leftTo S k n0 q) (S.it k (n0 + q)) from fun q => rfl)
          have HL0 := Lib.hid (show leftTo S k n0 0 = noSpan from rfl)
          have HMo := Lib.hid (show mostTo S k err (m + 1) = max (mostTo S k err m) (markW S k err (-err + m)) from rfl)
          refine (none_any _).mono ?_
          rintro e w2 ⟨rfl, rfl⟩
          have HE2 := Lib.hid (Ext.of_alloc wo (.cells #[.int .i64 1073741824, .int .i64 (-1073741824)] 35))
          have HB2 := Lib.hid (blk_second wo (.cells #[.int .i64 1073741824, .int .i64 (-1073741824)] 35) #[.int .i64 1073741824, .int .i64 (-1073741824)] 35)
          have HE3 := Lib.hid ((Ext.of_alloc wo (.cells #[.int .i64 1073741824, .int .i64 (-1073741824)] 35)).alloc (.cells #[.int .i64 1073741824, .int .i64 (-1073741824)] 35))
          have hwo : w1.heap.size ≤ wo.heap.size := HE.out.size
          generalize leftTo S k n0 = lt at *
          generalize markW S k err (-err + m) = mw at *
          generalize mostTo S k err m = mo at *
          rcases (show (-err + (m : Int) - err ≤ 0 ∧ (n0 : Int) = 0) ∨ (0 < -err + (m : Int) - err ∧ (n0 : Int) = -err + m - err) by omega) with ⟨hc1, hc2⟩ | ⟨hc1, hc2⟩
          all_goals
            have Hc2 := Lib.hid hc2
            have hn30 : n0 ≤ 30 := by omega
            clear hc2 hn0
            go_wp2_with fail
            go_loopw [12] (fun v12 wr => ∃ q : Nat, (q : Int) ≤ min 30 (-err + m + err) + 1 - n0 ∧ v12 = .int .i64 (n0 + q) ∧ Ext wo wr ∧ Blk wr (wo.heap.size + 1) 35 #[.int .i64 (lt q).1, .int .i64 (lt q).2]) (fun v12 _ => (31 - intOf v12).toNat)
            case atStart => exact ⟨0, by have := Hc2.out; omega, by rw [Hc2.out]; go_num, HE3.out, by rw [HL0.out]; exact HB2.out⟩
            case round =>
              obtain ⟨q, hq, rfl, hE4, hB4⟩ := hrel
              have HE4 := Lib.hid hE4
              have HB4 := Lib.hid hB4
              by_cases hmin : 30 ≤ -err + (m : Int) + err
              all_goals try (exfalso; omega)
              all_goals
                by_cases hlq : (n0 : Int) + q ≤ min 30 (-err + m + err)
                · obtain ⟨x1, x2⟩ := HCell.out _ (HE.out.trans hE4) k (n0 + q) hk4 (by omega)
                  have HAdd := Lib.hid (add_any (wo.heap.size + 1) 0 35 _ (lt q).1 (lt q).2 (S.it k (n0 + q)).1 (S.it k (n0 + q)).2 wr hB4 rfl rfl)
                  have hnq : (n0 : Int) + q ≤ 30 := by omega
                  have hnq2 : (n0 : Int) + q ≤ -err + m + err := by omega
                  clear hE4 hB4
                  go_wp2_with fail
                  refine HAdd.out.mono ?_
                  rintro e w5 ⟨rfl, hB5, hG5⟩
                  have HE5 := Lib.hid (Below.grown HE4.out hG5 HE4.out.size (fun j hj => by injection hj with hj; omega))
                  have HB5 := Lib.hid (show Blk w5 (wo.heap.size + 1) 35 #[.int .i64 (lt (q + 1)).1, .int .i64 (lt (q + 1)).2] by rw [HLS.out q]; exact hB5)
                  clear hB5 hG5
                  go_wp2
                  go_roundw
                  case rel => exact ⟨q + 1, by omega, by go_num, HE5.out, HB5.out⟩
                  case measure => simp [intOf]; omega
                · have hqe : (q : Int) = min 30 (-err + m + err) + 1 - n0 := by omega
                  have hmw : mw = max 0 ((lt q).2 - (lt q).1) := by
                    rw [HMk.out, show (min 30 (-err + (m : Int) + err) + 1 - n0).toNat = q by omega]; rfl
                  have HMw := Lib.hid hmw
                  have hb1 := hB4.cell
                  have hls := HLs.out q (by omega)
                  have HEr := Lib.hid (HE.out.trans hE4)
                  clear hE4 hB4 hmw hqe
                  go_wp2_with fail
                  refine (width_any (lt q).1 (lt q).2 _ (by omega) (by omega) (by omega) (by omega)).mono ?_
                  rintro e w6 ⟨rfl, hE6⟩
                  rw [← HMw.out]
                  have HE6 := Lib.hid (HEr.out.trans hE6)
                  have hmwb : 0 ≤ mw := by have := HMw.out; omega
                  clear hE6
                  go_wp2
                  all_goals
                    go_roundw
                    case rel => exact ⟨m + 1, by omega, by go_num, by rw [HMo.out]; congr 1; first | (split <;> omega) | omega, HE6.out⟩
                    case measure => simp [intOf]; omega
        · have HMM := Lib.hid (show mostM S k err = mostTo S k err m by
            unfold mostM; rw [show (31 + 2 * err).toNat = m by omega])
          have HBe := Lib.hid (show bestTo S err (k + 1) = if (bestTo S err k).2 < 0 ∨ mostM S k err < (bestTo S err k).2 then ((k : Int), mostM S k err) else bestTo S err k from rfl)
          by_cases h1 : (bestTo S err k).2 < 0
          · have HB := Lib.hid (show bestTo S err (k + 1) = ((k : Int), mostTo S k err m) by rw [HBe.out, if_pos (.inl h1), HMM.out])
            go_wp2
            go_roundw
            case rel => exact ⟨k + 1, by omega, by go_num, by rw [HB.out], by rw [HB.out], HE.out⟩
            case measure => simp [intOf]; omega
          · have h1' : decide ((bestTo S err k).2 < 0) = false := by simpa using h1
            by_cases h2 : mostTo S k err m < (bestTo S err k).2
            · have HB := Lib.hid (show bestTo S err (k + 1) = ((k : Int), mostTo S k err m) by rw [HBe.out, HMM.out, if_pos (.inr h2)])
              go_wp2
              go_roundw
              case rel => exact ⟨k + 1, by omega, by go_num, by rw [HB.out], by rw [HB.out], HE.out⟩
              case measure => simp [intOf]; omega
            · have HB := Lib.hid (show bestTo S err (k + 1) = bestTo S err k by rw [HBe.out, HMM.out, if_neg (by omega)])
              go_wp2
              go_roundw
              case rel => exact ⟨k + 1, by omega, by go_num, by rw [HB.out], by rw [HB.out], HE.out⟩
              case measure => simp [intOf]; omega
    · obtain rfl : k = p.items.length := by omega
      go_wp2
      go_ret3
      exact ⟨by rw [HR.out]; rfl, HE1.out.trans HE.out⟩
end Go.Proofs.Ytbpilgflejdhaaa

namespace Go.Proofs.Ytbpilgflejdhaaa
open Go.RowKit

theorem int_info : (Try.prog.info? 3).map (fun i => (i.zero, i.size, i.bytes)) = some (some (.int .i64 0), 1, 8) := by kernel_rfl
theorem rightV_get (l : List Bool) (k : Nat) (h : k < l.length) : (rightV l)[k]? = some (.bool (l.getD k false)) := by
  simp [rightV, List.getD, h]
theorem ints_snoc (l : List Int) (x : Int) : (l ++ [x]).map (Value.int .i64) = l.map (Value.int .i64) ++ [.int .i64 x] := by simp

set_option maxHeartbeats 2000000 in
theorem blame_any (iA jA gA : Option Addr) (ic jc gc : Nat) (p : Paper) (l : List Int) (c : Int) (w : World) (h : PaperAt w iA jA gA p) (hr : blameM p = (l, c)) :
    Calls Try.prog 33 #[.agg #[.slice iA p.items.length ic, .slice jA p.judges.length jc, .int .i64 p.wrong, .slice gA p.grades.length gc]] w fun e w' => ∃ A cc, e = .returned (.tuple #[.slice A l.length cc, .int .i64 c]) ∧ Ints w' A l ∧ Ext w w' := by
  have HX := Lib.hid ((Ext.of_alloc w (.cells #[.slice iA p.items.length ic, .slice jA p.judges.length jc, .int .i64 p.wrong, .slice gA p.grades.length gc] 26)))
  unfold blameM at hr
  by_cases hk : knownE p true = 0
  · rw [if_pos hk] at hr
    have HO := Lib.hid (known_ok iA jA gA ic jc gc p true _ (h.ext HX.out) hk)
    injection hr with hr hc
    subst hc
    have HR := Lib.hid hr
    have hjl := (valid_of (knownE_ok hk).1).jl
    obtain ⟨i0, hi0, hz0, hz1, hz2⟩ := info_parts int_info
    have HS := Lib.hid (blameTo_succ (openM p).right)
    have HBL := Lib.hid (blameTo_len (openM p).right)
    have HZ := Lib.hid (show blameTo (openM p).right 0 = [] from rfl)
    clear hk hr h
    go_enter Try.func33, Try.ntmps33
    go_wp2_with fail
    refine HO.out.mono ?_
    rintro e w1 ⟨B, M, R, rc, rfl, hS1, hE1⟩
    have HE1 := Lib.hid hE1
    obtain ⟨c0, c1, c2, c3, c4, c5, c6, c7, c8, c9⟩ := hS1.cell
    have hB := hS1.ltB
    have hRR := hS1.ltR
    have HBool := Lib.hid (show ∀ k, k < p.judges.length → w1.cell? ⟨R, k, none⟩ = some (.bool ((openM p).right.getD k false)) from fun k hk => (hS1.right.cell k).trans (rightV_get _ _ (by have := hS1.rlen; omega)))
    generalize (openM p).right = rt at *
    clear hE1 hS1
    go_wp2_with fail
    go_loopw [6, 22] (fun v cn wr => ∃ k : Nat, k ≤ p.judges.length ∧ cn = .int .i64 k ∧ Ext w1 wr ∧ wr.ownsRow w1.heap.size 3 1 v (blameTo rt k).length ((blameTo rt k).map (Value.int .i64))) (fun _ cn _ => p.judges.length - (intOf cn).toNat)
    case atStart => exact ⟨0, by omega, rfl, Ext.refl _, by rw [HZ.out]; exact World.ownsRow_nil _ _ _ _⟩
    case round =>
      obtain ⟨k, hk, rfl, hE, hown⟩ := hrel
      have HE := Lib.hid hE
      have Hown := Lib.hid hown
      have HSk := Lib.hid (HS.out k)
      have hbl := HBL.out k
      by_cases hlt : k < p.judges.length
      · have hcell := (hE.cellOf (p := ⟨R, k, none⟩) hRR).trans (HBool.out k hlt)
        clear hown
        cases hb : rt.getD k false
        · rw [hb] at hcell HSk
          have HO2 := Lib.hid (Hown.out.alloc (.cells #[.int .i64 k] 3))
          have HE3 := Lib.hid (HE.out.alloc (.cells #[.int .i64 k] 3))
          have HNews := Lib.hid (Blk.new wr 3 #[.int .i64 k]).news
          have H63 := Lib.hid (show (blameTo rt k).length + 1 ≤ maxLen by simp [maxLen]; omega)
          have HSz2 := Lib.hid (show w1.heap.size ≤ (wr.alloc (.cells #[.int .i64 k] 3)).heap.size by have := hE.size; simp; omega)
          clear hE hb
          generalize blameTo rt k = bk at *
          go_wp2_with (at_builtin; refine wpList_append_own _ rfl _ _ 24 rfl w1.heap.size 3 i0 _ 1 8 Try.underlying24 hi0 hz0 hz1 hz2 rfl (by decide) _ _ _ rfl HO2.out ⟨wr.heap.size, 0, none⟩ 1 1 [.int .i64 k] rfl rfl HNews.out (by simp [Value.oneCell']) H63.out (by omega) HSz2.out ?_; intro v' w5 hown5 hgrow5 _)
          have HO5 := Lib.hid hown5
          have HE5 := Lib.hid (ext_append HE3.out HO2.out hgrow5)
          clear hown5 hgrow5
          go_wp2
          go_roundw
          case rel => exact ⟨k + 1, by omega, by go_num, HE5.out, by rw [HSk.out]; simp only [Bool.false_eq_true, if_false]; rw [ints_snoc, List.length_append]; exact HO5.out⟩
          case measure => simp [intOf]; omega
        · rw [hb] at hcell HSk
          clear hE hb
          go_wp2
          go_roundw
          case rel => exact ⟨k + 1, by omega, by go_num, HE.out, by rw [HSk.out]; simp only [if_true]; exact Hown.out⟩
          case measure => simp [intOf]; omega
      · obtain rfl : k = p.judges.length := by omega
        obtain ⟨A, cc, rfl, _⟩ := own_form hown
        clear hE hown
        go_wp2
        go_ret2
        have hI := (Ints.of_own Hown.out).2
        rw [HR.out] at hI
        exact ⟨A, cc, by rw [HR.out]; rfl, hI, (HX.out.trans HE1.out).trans HE.out⟩
  · rw [if_neg hk] at hr
    have HO := Lib.hid (known_err iA jA gA ic jc gc p true _ _ (h.ext HX.out) rfl hk)
    injection hr with h1 h2
    subst h1
    rw [h2] at HO hk
    have hc0 : (c != 0) = true := by simpa using hk
    clear hk h2 h
    go_enter Try.func33, Try.ntmps33
    go_wp2_with fail
    refine HO.out.mono ?_
    rintro e w1 ⟨rfl, hE1⟩
    have HE1 := Lib.hid hE1
    clear hE1
    go_wp2
    go_ret2
    exact ⟨none, 0, rfl, fun k hk => by simp at hk, HX.out.trans HE1.out⟩
end Go.Proofs.Ytbpilgflejdhaaa

namespace Go.Proofs.Ytbpilgflejdhaaa
open Go.RowKit

abbrev Leaf := List Int × Int × List (Int × Int)
/-- All that visit comes to, in its order. -/
def leaves (p : Paper) : Nat → List Int → Int → List (Int × Int) → List Leaf
  | 0, t, r, bs => [(t, r, bs)]
  | m + 1, t, r, bs =>
    (List.range ((p.items.getD (p.items.length - (m + 1)) default).most + 1).toNat).flatMap (fun n : Nat => leaves p m (t.set (p.items.length - (m + 1)) n) (r + n * (p.items.getD (p.items.length - (m + 1)) default).weight) (cutTo p (p.items.length - (m + 1)) n p.judges.length bs))
def endL (p : Paper) (S : Surv) (x : Leaf) : Surv := endM p x.1 x.2.1 x.2.2 S
theorem foldTo_eq (f : Nat → Surv → Surv) (k : Nat) (S : Surv) : foldTo f k S = (List.range k).foldl (fun S n => f n S) S := by
  induction k with
  | zero => rfl
  | succ k ih => rw [List.range_succ, List.foldl_append, ← ih]; rfl
theorem visitM_eq (p : Paper) : ∀ (m : Nat) (t : List Int) (r : Int) (bs : List (Int × Int)) (S : Surv), visitM p m t r bs S = (leaves p m t r bs).foldl (endL p) S := by
  intro m
  induction m with
  | zero => intro t r bs S; rfl
  | succ m ih =>
    intro t r bs S
    rw [visitM, leaves, List.foldl_flatMap, foldTo_eq]
    congr 1
    funext S n
    exact ih _ _ _ _

def resFrom (p : Paper) (t : List Int) : Nat → Nat → Int
  | _, 0 => 0
  | i, m + 1 => t.getD i 0 * (p.items.getD i default).weight + resFrom p t (i + 1) m
def cutFrom (p : Paper) (t : List Int) : Nat → Nat → List (Int × Int) → List (Int × Int)
  | _, 0, bs => bs
  | i, m + 1, bs => cutFrom p t (i + 1) m (cutTo p i (t.getD i 0) p.judges.length bs)

theorem leaves_mem (p : Paper) (h4 : p.items.length ≤ 4) : ∀ (m : Nat) (t : List Int) (r : Int) (bs : List (Int × Int)) (x : Leaf), m ≤ p.items.length → t.length = 4 →
    (x ∈ leaves p m t r bs ↔ x.1.length = 4 ∧ (∀ k, k < p.items.length - m ∨ p.items.length ≤ k → x.1.getD k 0 = t.getD k 0) ∧
      (∀ k, p.items.length - m ≤ k → k < p.items.length → 0 ≤ x.1.getD k 0 ∧ x.1.getD k 0 ≤ (p.items.getD k default).most) ∧
      x.2.1 = r + resFrom p x.1 (p.items.length - m) m ∧ x.2.2 = cutFrom p x.1 (p.items.length - m) m bs) := by
  intro m
  induction m with
  | zero =>
    intro t r bs x _ ht
    simp only [leaves, List.mem_singleton, resFrom, cutFrom, Nat.sub_zero]
    constructor
    · rintro rfl
      exact ⟨ht, fun _ _ => rfl, fun k h1 h2 => by omega, by simp, rfl⟩
    · rintro ⟨h1, h2, -, h3, h4⟩
      obtain ⟨a, b, c⟩ := x
      simp only at h1 h2 h3 h4
      have : a = t := by
        apply List.ext_getElem? 
        intro k
        by_cases hk : k < 4
        · have := h2 k (by omega)
          rw [List.getElem?_eq_getElem (by omega), List.getElem?_eq_getElem (by omega)]
          simp [List.getD, show k < a.length by omega, show k < t.length by omega] at this
          rw [this]
        · rw [List.getElem?_eq_none (by omega), List.getElem?_eq_none (by omega)]
      rw [this, h3, h4, Int.add_zero]
  | succ m ih =>
    intro t r bs x hm ht
    have hi : p.items.length - m = p.items.length - (m + 1) + 1 := by omega
    generalize hI : p.items.length - (m + 1) = i at *
    have hil : i < 4 := by omega
    simp only [leaves, List.mem_flatMap, List.mem_range, hI]
    constructor
    · rintro ⟨n, hn, hx⟩
      rw [ih _ _ _ _ (by omega) (by simpa using ht), hi] at hx
      obtain ⟨h1, h2, h3, h4, h5⟩ := hx
      have hti : x.1.getD i 0 = n := by
        rw [h2 i (by omega)]
        simp [List.getD, show i < t.length by omega]
      refine ⟨h1, fun k hk => ?_, fun k hk1 hk2 => ?_, ?_, ?_⟩
      · rw [h2 k (by omega)]
        simp only [List.getD, List.getElem?_set_ne (show i ≠ k by omega)]
      · by_cases e : k = i
        · subst e; rw [hti]; omega
        · exact h3 k (by omega) hk2
      · rw [h4, resFrom, hti, Int.add_assoc]
      · rw [h5, cutFrom, hti]
    · rintro ⟨h1, h2, h3, h4, h5⟩
      obtain ⟨q1, q2⟩ := h3 i (Nat.le_refl _) (by omega)
      obtain ⟨n, hn⟩ : ∃ n : Nat, x.1.getD i 0 = n := ⟨(x.1.getD i 0).toNat, by omega⟩
      refine ⟨n, by omega, ?_⟩
      rw [ih _ _ _ _ (by omega) (by simpa using ht), hi]
      refine ⟨h1, fun k hk => ?_, fun k hk1 hk2 => h3 k (by omega) hk2, ?_, ?_⟩
      · by_cases e : k = i
        · subst e; rw [hn]; simp [List.getD, show k < t.length by omega]
        · rw [h2 k (by omega)]
          simp only [List.getD, List.getElem?_set_ne (show i ≠ k by omega)]
      · rw [h4, resFrom, hn, Int.add_assoc]
      · rw [h5, cutFrom, hn]

/-- A judge's biases that are left after the first k items. -/
def spanTo (x : Judge) (t : List Int) : Nat → Int × Int
  | 0 => (x.lo, x.hi)
  | k + 1 => cut1 x k (t.getD k 0) (spanTo x t k)
theorem cutTo_map (p : Paper) (i : Nat) (n : Int) (f : Judge → Int × Int) : ∀ k, k ≤ p.judges.length → cutTo p i n k (p.judges.map f) = (p.judges.take k).map (fun x => cut1 x i n (f x)) ++ (p.judges.drop k).map f := by
  intro k
  induction k with
  | zero => intro _; simp [cutTo]
  | succ k ih =>
    intro hk
    have hlt : k < p.judges.length := by omega
    rw [cutTo, ih (by omega)]
    have hl : ((p.judges.take k).map (fun x => cut1 x i n (f x))).length = k := by simp; omega
    rw [List.drop_eq_getElem_cons hlt, List.map_cons]
    have hg : (List.map (fun x => cut1 x i n (f x)) (List.take k p.judges) ++ f p.judges[k] :: List.map f (List.drop (k + 1) p.judges)).getD k (0, 0) = f p.judges[k] := by
      rw [List.getD, List.getElem?_append_right (by omega), hl]; simp
    rw [hg, List.set_append_right _ _ (by omega), hl, Nat.sub_self, List.set_cons_zero, List.take_succ_eq_append_getElem hlt, List.map_append]
    simp [List.getD, hlt]
theorem cutFrom_map (p : Paper) (t : List Int) : ∀ (m i : Nat), cutFrom p t i m (p.judges.map (fun x => spanTo x t i)) = p.judges.map (fun x => spanTo x t (i + m)) := by
  intro m
  induction m with
  | zero => intro i; rfl
  | succ m ih =>
    intro i
    rw [cutFrom, cutTo_map p i _ _ _ (Nat.le_refl _), List.take_length, List.drop_length, List.map_nil, List.append_nil]
    rw [show i + (m + 1) = i + 1 + m by omega, ← ih (i + 1)]
    rfl
theorem spanTo_iff {n : Nat} (x : Judge) (t : List Int) (hm : ∀ k, k < n → -1 ≤ x.marks.getD k 0) (b : Int) : ∀ k, k ≤ n → ((spanTo x t k).1 ≤ b ∧ b ≤ (spanTo x t k).2 ↔ x.lo ≤ b ∧ b ≤ x.hi ∧ ∀ i, i < k → agree1 x t b i = true) := by
  intro k
  induction k with
  | zero => intro _; simp [spanTo]
  | succ k ih =>
    intro hk
    have ih := ih (by omega)
    have h1 := hm k (by omega)
    have hag : agree1 x t b k = true ↔ (x.marks.getD k 0 = -1 ∨ (-x.err ≤ x.marks.getD k 0 - t.getD k 0 - b ∧ x.marks.getD k 0 - t.getD k 0 - b ≤ x.err)) := by
      unfold agree1 wi
      simp
    have hall : (∀ i, i < k + 1 → agree1 x t b i = true) ↔ (∀ i, i < k → agree1 x t b i = true) ∧ agree1 x t b k = true :=
      ⟨fun h => ⟨fun i hi => h i (by omega), h k (by omega)⟩, fun h i hi => by
        by_cases e : i = k
        · subst e; exact h.2
        · exact h.1 i (by omega)⟩
    rw [hall, hag, spanTo, cut1]
    generalize x.marks.getD k 0 = mk at *
    generalize spanTo x t k = s at *
    by_cases h0 : 0 ≤ mk
    · rw [if_pos h0]
      constructor
      · rintro ⟨h2, h3⟩
        obtain ⟨a, b', c⟩ := ih.1 ⟨by omega, by omega⟩
        exact ⟨a, b', c, .inr ⟨by omega, by omega⟩⟩
      · rintro ⟨a, b', c, d⟩
        have := ih.2 ⟨a, b', c⟩
        rcases d with d | d
        · omega
        · constructor <;> simp only <;> omega
    · rw [if_neg h0]
      constructor
      · intro h
        obtain ⟨a, b', c⟩ := ih.1 h
        exact ⟨a, b', c, .inl (by omega)⟩
      · rintro ⟨a, b', c, _⟩
        exact ih.2 ⟨a, b', c⟩
theorem okSpan_right {x : Judge} {t : List Int} (hm : ∀ k, k < t.length → -1 ≤ x.marks.getD k 0) : okSpan (spanTo x t t.length) = isRight x t := by
  rw [Bool.eq_iff_iff, isRight_iff]
  have key := fun b => spanTo_iff x t hm b t.length (Nat.le_refl _)
  unfold okSpan agree
  simp only [decide_eq_true_eq, range_all]
  constructor
  · intro h
    obtain ⟨a, b, c⟩ := (key (spanTo x t t.length).1).1 ⟨Int.le_refl _, h⟩
    exact ⟨_, a, b, c⟩
  · rintro ⟨b, h1, h2, h3⟩
    have := (key b).2 ⟨h1, h2, h3⟩
    omega
end Go.Proofs.Ytbpilgflejdhaaa

namespace Go.Proofs.Ytbpilgflejdhaaa
open Go.RowKit

def wrL (x : Leaf) : Int := wrongN x.2.2 x.2.2.length
def posL (p : Paper) (x : Leaf) : Bool := decide (wrL x ≤ p.wrong)
theorem endL_fewest (p : Paper) (S : Surv) (x : Leaf) : (endL p S x).fewest = min S.fewest (wrL x) := by
  unfold endL endM wrL; simp only []; split <;> rfl
theorem endL_poss (p : Paper) (S : Surv) (x : Leaf) : (endL p S x).poss = (S.poss || posL p x) := by
  unfold endL endM posL wrL; simp only []; split
  · rename_i h
    have : ¬ ((wrongN x.2.2 x.2.2.length : Int) ≤ p.wrong) := by omega
    simp [this]
  · rename_i h
    have : (wrongN x.2.2 x.2.2.length : Int) ≤ p.wrong := by omega
    simp [this]
theorem endL_no (p : Paper) (S : Surv) (x : Leaf) (h : posL p x = false) : (endL p S x).res = S.res ∧ (endL p S x).it = S.it ∧ (endL p S x).right = S.right ∧ (endL p S x).shown = S.shown := by
  unfold posL wrL at h
  have h : ¬ ((wrongN x.2.2 x.2.2.length : Int) ≤ p.wrong) := by simpa using h
  unfold endL endM; simp only []
  rw [if_pos (by omega)]
  exact ⟨rfl, rfl, rfl, rfl⟩
theorem endL_yes (p : Paper) (S : Surv) (x : Leaf) (h : posL p x = true) : (endL p S x).res = addSpan S.res x.2.1 ∧ (endL p S x).it = itTo x.1 x.2.1 p.items.length S.it ∧ (endL p S x).right = rightTo x.2.2 x.2.2.length S.right ∧ (endL p S x).shown = putS S.shown (gradeP p.grades x.2.1) x.1 := by
  unfold posL wrL at h
  have h : ((wrongN x.2.2 x.2.2.length : Int) ≤ p.wrong) := by simpa using h
  unfold endL endM; simp only []
  rw [if_neg (by omega)]
  exact ⟨rfl, rfl, rfl, rfl⟩
theorem itTo_get (t : List Int) (r : Int) (f : Nat → Nat → Int × Int) (i n : Nat) : ∀ k, itTo t r k f i n = if i < k ∧ n = (t.getD i 0).toNat then addSpan (f i n) r else f i n := by
  intro k
  induction k with
  | zero => simp [itTo]
  | succ k ih =>
    rw [itTo]
    unfold setIt
    by_cases h : i = k ∧ n = (t.getD k 0).toNat
    · rw [if_pos h]
      obtain ⟨rfl, rfl⟩ := h
      rw [ih, if_neg (by omega), if_pos ⟨by omega, rfl⟩]
    · rw [if_neg h, ih]
      by_cases h2 : i < k ∧ n = (t.getD i 0).toNat
      · rw [if_pos h2, if_pos ⟨by omega, h2.2⟩]
      · rw [if_neg h2, if_neg]
        rintro ⟨a, b⟩
        by_cases e : i = k
        · subst e; exact h ⟨rfl, b⟩
        · exact h2 ⟨by omega, b⟩
theorem rightTo_get (bs : List (Int × Int)) (l : List Bool) (j : Nat) (hj : j < l.length) : ∀ k, (rightTo bs k l).getD j false = if j < k then (l.getD j false || okSpan (bs.getD j (0, 0))) else l.getD j false := by
  intro k
  induction k with
  | zero => simp [rightTo]
  | succ k ih =>
    have hlen := rightTo_length bs k l
    rw [rightTo]
    by_cases e : j = k
    · subst e
      rw [List.getD, List.getElem?_set_self (by omega), ih, if_neg (by omega), if_pos (by omega)]
      rfl
    · rw [List.getD, List.getElem?_set_ne (by omega), ← List.getD, ih]
      by_cases h : j < k
      · rw [if_pos h, if_pos (by omega)]
      · rw [if_neg h, if_neg (by omega)]
def getS (l : List (Int × List Int)) (k : Int) : Option (List Int) := (l.find? (fun x => x.1 == k)).map (·.2)
theorem getS_put (l : List (Int × List Int)) (k : Int) (v : List Int) (q : Int) : getS (putS l k v) q = if q = k then some v else getS l q := by
  induction l with
  | nil =>
    simp only [putS, getS]
    by_cases h : q = k
    · subst h; simp
    · have h' : (k == q) = false := by simpa using fun e => h e.symm
      simp [h, h']
  | cons x l ih =>
    simp only [putS]
    by_cases hx : x.1 = k
    · rw [if_pos hx]
      by_cases h : q = k
      · subst h; simp [getS]
      · have h1 : (k == q) = false := by simpa using fun e => h e.symm
        have h2 : (x.1 == q) = false := by simpa using fun e => h (e.symm.trans hx)
        simp [getS, h, h1, h2]
    · rw [if_neg hx]
      by_cases h : x.1 = q
      · subst h; simp [getS, hx]
      · have h1 : (x.1 == q) = false := by simpa using h
        simp only [getS, List.find?_cons, h1] at ih ⊢
        exact ih

theorem fold_fewest (p : Paper) : ∀ (l : List Leaf) (S : Surv), (l.foldl (endL p) S).fewest ≤ S.fewest ∧ (∀ x ∈ l, (l.foldl (endL p) S).fewest ≤ wrL x) ∧ ((l.foldl (endL p) S).fewest = S.fewest ∨ ∃ x ∈ l, (l.foldl (endL p) S).fewest = wrL x) := by
  intro l
  induction l with
  | nil => intro S; simp
  | cons a l ih =>
    intro S
    obtain ⟨h1, h2, h3⟩ := ih (endL p S a)
    rw [endL_fewest] at h1 h3
    simp only [List.foldl_cons]
    refine ⟨by omega, fun x hx => ?_, ?_⟩
    · rcases List.mem_cons.1 hx with rfl | hx
      · omega
      · exact h2 x hx
    · rcases h3 with h3 | ⟨x, hx, h3⟩
      · by_cases h : S.fewest ≤ wrL a
        · left; omega
        · right; exact ⟨a, List.mem_cons_self, by omega⟩
      · right; exact ⟨x, List.mem_cons_of_mem _ hx, h3⟩
theorem fold_poss (p : Paper) : ∀ (l : List Leaf) (S : Surv), (l.foldl (endL p) S).poss = true ↔ S.poss = true ∨ ∃ x ∈ l, posL p x = true := by
  intro l
  induction l with
  | nil => intro S; simp
  | cons a l ih =>
    intro S
    simp only [List.foldl_cons]
    rw [ih, endL_poss]
    simp [or_assoc]
/-- A span that gathers the results of some leaves. -/
theorem fold_span (p : Paper) (g : Surv → Int × Int) (c : Leaf → Bool) (hg : ∀ S x, g (endL p S x) = if c x then addSpan (g S) x.2.1 else g S) : ∀ (l : List Leaf) (S : Surv),
    ((g (l.foldl (endL p) S)).1 ≤ (g S).1 ∧ (∀ x ∈ l, c x = true → (g (l.foldl (endL p) S)).1 ≤ x.2.1) ∧ ((g (l.foldl (endL p) S)).1 = (g S).1 ∨ ∃ x ∈ l, c x = true ∧ (g (l.foldl (endL p) S)).1 = x.2.1)) ∧
    ((g S).2 ≤ (g (l.foldl (endL p) S)).2 ∧ (∀ x ∈ l, c x = true → x.2.1 ≤ (g (l.foldl (endL p) S)).2) ∧ ((g (l.foldl (endL p) S)).2 = (g S).2 ∨ ∃ x ∈ l, c x = true ∧ (g (l.foldl (endL p) S)).2 = x.2.1)) := by
  intro l
  induction l with
  | nil => intro S; simp
  | cons a l ih =>
    intro S
    obtain ⟨⟨h1, h2, h3⟩, ⟨k1, k2, k3⟩⟩ := ih (endL p S a)
    rw [hg] at h1 h3 k1 k3
    simp only [List.foldl_cons]
    cases hc : c a
    · rw [hc] at h1 h3 k1 k3
      simp only [Bool.false_eq_true, if_false] at h1 h3 k1 k3
      refine ⟨⟨h1, fun x hx hcx => ?_, ?_⟩, ⟨k1, fun x hx hcx => ?_, ?_⟩⟩
      · rcases List.mem_cons.1 hx with rfl | hx
        · rw [hc] at hcx; cases hcx
        · exact h2 x hx hcx
      · exact h3.imp id fun ⟨x, hx, q⟩ => ⟨x, List.mem_cons_of_mem _ hx, q⟩
      · rcases List.mem_cons.1 hx with rfl | hx
        · rw [hc] at hcx; cases hcx
        · exact k2 x hx hcx
      · exact k3.imp id fun ⟨x, hx, q⟩ => ⟨x, List.mem_cons_of_mem _ hx, q⟩
    · rw [hc] at h1 h3 k1 k3
      simp only [if_true, addSpan] at h1 h3 k1 k3
      refine ⟨⟨Int.le_trans h1 (Int.min_le_left _ _), fun x hx hcx => ?_, ?_⟩, ⟨Int.le_trans (Int.le_max_left _ _) k1, fun x hx hcx => ?_, ?_⟩⟩
      · rcases List.mem_cons.1 hx with rfl | hx
        · exact Int.le_trans h1 (Int.min_le_right _ _)
        · exact h2 x hx hcx
      · rcases h3 with h3 | ⟨x, hx, q⟩
        · by_cases h : (g S).1 ≤ a.2.1
          · left; rw [h3]; exact Int.min_eq_left h
          · right; exact ⟨a, List.mem_cons_self, hc, by rw [h3]; exact Int.min_eq_right (Int.le_of_lt (Int.not_le.1 h))⟩
        · right; exact ⟨x, List.mem_cons_of_mem _ hx, q⟩
      · rcases List.mem_cons.1 hx with rfl | hx
        · exact Int.le_trans (Int.le_max_right _ _) k1
        · exact k2 x hx hcx
      · rcases k3 with k3 | ⟨x, hx, q⟩
        · by_cases h : a.2.1 ≤ (g S).2
          · left; rw [k3]; exact Int.max_eq_left h
          · right; exact ⟨a, List.mem_cons_self, hc, by rw [k3]; exact Int.max_eq_right (Int.le_of_lt (Int.not_le.1 h))⟩
        · right; exact ⟨x, List.mem_cons_of_mem _ hx, q⟩
theorem hg_res (p : Paper) (S : Surv) (x : Leaf) : (endL p S x).res = if posL p x then addSpan S.res x.2.1 else S.res := by
  cases h : posL p x
  · simpa using (endL_no p S x h).1
  · simpa using (endL_yes p S x h).1
theorem hg_it (p : Paper) (i n : Nat) (hi : i < p.items.length) (S : Surv) (x : Leaf) : (endL p S x).it i n = if (posL p x && decide (n = (x.1.getD i 0).toNat)) then addSpan (S.it i n) x.2.1 else S.it i n := by
  cases h : posL p x
  · simp [(endL_no p S x h).2.1]
  · rw [(endL_yes p S x h).2.1, itTo_get]
    simp [hi]
theorem fold_right (p : Paper) (j : Nat) : ∀ (l : List Leaf) (S : Surv), j < S.right.length → (∀ x ∈ l, j < x.2.2.length) →
    ((l.foldl (endL p) S).right.getD j false = true ↔ S.right.getD j false = true ∨ ∃ x ∈ l, posL p x = true ∧ okSpan (x.2.2.getD j (0, 0)) = true) := by
  intro l
  induction l with
  | nil => intro S _ _; simp
  | cons a l ih =>
    intro S hj hl
    simp only [List.foldl_cons]
    have hlen : (endL p S a).right.length = S.right.length := by
      cases h : posL p a
      · rw [(endL_no p S a h).2.2.1]
      · rw [(endL_yes p S a h).2.2.1, rightTo_length]
    rw [ih _ (by omega) (fun x hx => hl x (List.mem_cons_of_mem _ hx))]
    have hget : (endL p S a).right.getD j false = (S.right.getD j false || (posL p a && okSpan (a.2.2.getD j (0, 0)))) := by
      cases h : posL p a
      · rw [(endL_no p S a h).2.2.1]; simp
      · rw [(endL_yes p S a h).2.2.1, rightTo_get _ _ _ hj, if_pos (hl a List.mem_cons_self)]; simp
    rw [hget]
    simp only [Bool.or_eq_true, Bool.and_eq_true, List.mem_cons, or_assoc]
    constructor
    · rintro (h | h | ⟨x, hx, h⟩)
      · exact .inl h
      · exact .inr ⟨a, .inl rfl, h⟩
      · exact .inr ⟨x, .inr hx, h⟩
    · rintro (h | ⟨x, rfl | hx, h⟩)
      · exact .inl h
      · exact .inr (.inl h)
      · exact .inr (.inr ⟨x, hx, h⟩)
theorem fold_shown (p : Paper) (q : Int) : ∀ (l : List Leaf) (S : Surv),
    (∀ t, getS (l.foldl (endL p) S).shown q = some t → getS S.shown q = some t ∨ ∃ x ∈ l, posL p x = true ∧ (gradeP p.grades x.2.1 : Int) = q ∧ x.1 = t) ∧
    (getS (l.foldl (endL p) S).shown q = none → getS S.shown q = none ∧ ∀ x ∈ l, posL p x = true → (gradeP p.grades x.2.1 : Int) ≠ q) := by
  intro l
  induction l with
  | nil => intro S; exact ⟨fun t h => .inl h, fun h => ⟨h, by simp⟩⟩
  | cons a l ih =>
    intro S
    obtain ⟨h1, h2⟩ := ih (endL p S a)
    simp only [List.foldl_cons]
    cases h : posL p a
    · rw [(endL_no p S a h).2.2.2] at h1 h2
      refine ⟨fun t ht => (h1 t ht).imp id fun ⟨x, hx, q⟩ => ⟨x, List.mem_cons_of_mem _ hx, q⟩, fun hn => ⟨(h2 hn).1, fun x hx hp => ?_⟩⟩
      rcases List.mem_cons.1 hx with rfl | hx
      · rw [h] at hp; cases hp
      · exact (h2 hn).2 x hx hp
    · rw [(endL_yes p S a h).2.2.2, getS_put] at h1 h2
      by_cases hq : q = (gradeP p.grades a.2.1 : Int)
      · simp only [if_pos hq] at h1 h2
        refine ⟨fun t ht => ?_, fun hn => ?_⟩
        · rcases h1 t ht with h1 | ⟨x, hx, q⟩
          · injection h1 with h1
            exact .inr ⟨a, List.mem_cons_self, h, hq.symm, h1⟩
          · exact .inr ⟨x, List.mem_cons_of_mem _ hx, q⟩
        · cases (h2 hn).1
      · simp only [if_neg hq] at h1 h2
        refine ⟨fun t ht => (h1 t ht).imp id fun ⟨x, hx, q⟩ => ⟨x, List.mem_cons_of_mem _ hx, q⟩, fun hn => ⟨(h2 hn).1, fun x hx hp => ?_⟩⟩
        rcases List.mem_cons.1 hx with rfl | hx
        · exact fun e => hq e.symm
        · exact (h2 hn).2 x hx hp
end Go.Proofs.Ytbpilgflejdhaaa
