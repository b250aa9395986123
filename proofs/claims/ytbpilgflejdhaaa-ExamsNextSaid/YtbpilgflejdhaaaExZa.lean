/- Exams: the walk over the reference's after. / Exams: the walks over the reference's Left, Next. -/
import Derived.Test.YtbpilgflejdhaaaExYb
import Derived.Test.YtbpilgflejdhaaaBoxMem
import Derived.Test.YtbpilgflejdhaaaExBox
/-! Exams: the walk over the reference's after. -/
namespace Go.Proofs.Ytbpilgflejdhaaa
open Go.RowKit

set_option maxHeartbeats 8000000 in
set_option maxRecDepth 100000 in
theorem after_any (lA : Option Addr) (lc base i : Nat) (ii a b : Int) (L : List Box) (w : World) (hL : BoxOwn w base (.slice lA L.length lc) L) (hll : L.length ≤ 100000) (hii : ii = i) (hpt : ∀ k, k < L.length → i < (L.getD k default).pts.length ∧ (L.getD k default).pts.length ≤ 4) :
    Calls Try.prog 68 #[.slice lA L.length lc, .int .i64 ii, .agg #[.int .i64 a, .int .i64 b]] w (BoxesPost (afterB L i (a, b)) w) := by
  obtain ⟨i0, hi0, hz0, hz1, hz2⟩ := info_parts box_info
  obtain ⟨i1, hi1, hy0, hy1, hy2⟩ := info_parts span_info
  have HL := Lib.hid hL
  have HPt := Lib.hid hpt
  have HSn := Lib.hid (afterK_succ L i (a, b))
  have HLn := Lib.hid (afterK_len L i (a, b))
  have HFl := Lib.hid (show afterB L i (a, b) = afterK L i (a, b) L.length from rfl)
  have HZ := Lib.hid (show afterK L i (a, b) 0 = [] from rfl)
  subst hii
  obtain ⟨w1, hw1⟩ : ∃ w1, w.alloc (.cells #[.int .i64 a, .int .i64 b] 35) = w1 := ⟨_, rfl⟩
  have HW := Lib.hid (show Ext w w1 by rw [← hw1]; exact Ext.of_alloc _ _)
  have HB := Lib.hid (show ∀ W, Ext w1 W → (W.cell? ⟨w.heap.size, 0, none⟩ = some (.int .i64 a) ∧ W.cell? ⟨w.heap.size, 1, none⟩ = some (.int .i64 b) ∧ w.heap.size < W.heap.size) from fun W e => by
    rw [← hw1] at e
    exact ⟨e.box 0, e.box 1, e.lt⟩)
  clear hL hpt
  go_enter Try.func68, Try.ntmps68
  go_wp2_with fail
  clear hw1
  go_loopw [7, 8] (fun v7 v8 wr => ∃ k : Nat, k ≤ L.length ∧ v8 = .int .i64 k ∧ Ext w1 wr ∧ BoxOwn wr w1.heap.size v7 (afterK L i (a, b) k)) (fun _ v8 _ => L.length - (intOf v8).toNat)
  case atStart => exact ⟨0, by omega, rfl, Ext.refl _, by rw [HZ.out]; exact BoxOwn.nil _ _⟩
  case round =>
    obtain ⟨k, hk, rfl, hE, hO⟩ := hrel
    obtain ⟨A9, c9, rfl⟩ := hO.form
    have HE := Lib.hid hE
    have HO := Lib.hid hO
    obtain ⟨q0, q1, q2⟩ := HB.out _ hE
    have hlen := HLn.out k
    have HSk := Lib.hid (HSn.out k)
    obtain ⟨bk, hbe⟩ : ∃ bk, afterK L i (a, b) k = bk := ⟨_, rfl⟩
    have HBe := Lib.hid hbe
    rw [hbe] at hO HO HSk hlen ⊢
    clear hbe
    by_cases hlt : (k : Int) < L.length
    · obtain ⟨bb, boff, pA, pc, pts, r, rfl, hbb, hc1, hc2, hrow, hget⟩ := (HL.out.ext (HW.out.trans hE)).get (show k < L.length by omega)
      have hpk := HPt.out k (by omega)
      have hsk := HSk.out (by omega)
      rw [hget.out] at hpk hsk
      simp only at hpk
      obtain ⟨hp1, hp4⟩ := hpk
      have HRow := Lib.hid (hrow (by omega))
      have HNil := Lib.hid (fun e => (own_none HRow.out e).1)
      have HCel := Lib.hid (fun W (e : Ext wr W) => own_cells (own_ext HRow.out e))
      have H63 := Lib.hid (show pts.length ≤ maxLen by simp [maxLen]; omega)
      have HSq := Lib.hid hsk
      have hipI : (i : Int) < pts.length := by omega
      clear hE hO hrow hget hsk HSk
      go_wp2_with (at_builtin; refine wpList_append_fresh rfl _ _ 58 rfl 35 i1 _ 2 16 Try.underlying58 hi1 hy0 hy1 hy2 rfl _ (by rfl) pA pts.length pc (by rfl) (spanCells pts) HNil.out (spanCells_length pts) (HCel.out _ (by repeat (first | with_reducible exact Ext.refl _ | with_reducible refine Ext.drew ?_ | with_reducible refine Ext.alloc ?_ _))) H63.out (by omega) ?_; intro A5 c5 w5 hF5; have HX5 := Lib.hid (Ext.trans (show Ext wr _ by repeat (first | with_reducible exact Ext.refl _ | with_reducible refine Ext.drew ?_ | with_reducible refine Ext.alloc ?_ _)) hF5.1); have HO5 := Lib.hid (own_base (b' := wr.heap.size) (hF5.2 (by omega)) (Ext.le (show Ext wr _ by repeat (first | with_reducible exact Ext.refl _ | with_reducible refine Ext.drew ?_ | with_reducible refine Ext.alloc ?_ _)))); clear hF5; obtain ⟨A6, c6, hv5, _, _, hg5⟩ := own_form HO5.out; injection hv5 with ha hb hc; subst ha; clear hb hc; obtain ⟨g, rfl⟩ := hg5 (by omega); clear hg5; obtain ⟨q0, q1, q2⟩ := HB.out _ (HE.out.trans HX5.out); obtain ⟨hg1, hg2⟩ := own_block HO5.out; obtain ⟨x, y, hl1, hl2, hlx⟩ := ownSpans_get HO5.out (k := i) (by omega); have hf1 := (HO5.out.frozenAt (i * 2)); have hf2 := (HO5.out.frozenAt (i * 2 + 1)); obtain ⟨u, hu, hur⟩ := max2_run Try.prog x a; obtain ⟨v, hv, hvr⟩ := min2_run Try.prog y b; have HU := Lib.hid hu; have HV := Lib.hid hv; have HXY := Lib.hid hlx.out; clear hu hv hlx)
      refine wp_region_tail2 20 (by kernel_rfl) (by kernel_rfl) (fun T HT => ?_)
      simp only [List.take_succ_cons, List.take_zero]
      repeat (go_big_quiet_step (fail))
      with_reducible refine wpQuiet_nil ?_
      with_reducible refine HT.out _ ?_
      simp only [List.drop_succ_cons, List.drop_zero]
      clear HT T
      go_wp2_with fail
      obtain ⟨w6, hw6⟩ : ∃ w6, ((w5.setCell ⟨g, i * 2, none⟩ (.int .i64 u)).setCell ⟨g, i * 2 + 1, none⟩ (.int .i64 v)).drew = w6 := ⟨_, rfl⟩
      have HX6 := Lib.hid (show Ext wr w6 by rw [← hw6]; exact ((HX5.out.setCell (p := ⟨g, i * 2, none⟩) hg1 _).setCell (p := ⟨g, i * 2 + 1, none⟩) hg1 _).drew)
      have ho6 : w6.ownsRow wr.heap.size 35 2 (.slice (some ⟨g, 0, none⟩) pts.length c5) pts.length (spanCells (pts.set i (u, v))) := by rw [← hw6]; exact (ownSpans_set (k := i) HO5.out _ _).drew
      rw [hw6]
      clear hw6 hl1 hl2 hf1 hf2 q0 q1 q2 hur hvr
      obtain ⟨u', v', hl1, hl2, hlx⟩ := ownSpans_get ho6 (k := i) (by omega)
      have he := hlx.out.symm.trans ((set_getD (by omega)).trans (if_pos rfl))
      injection he with he1 he2
      subst he1
      subst he2
      have HO6 := Lib.hid ho6
      have hc1 := (HX6.out.cellOf (p := ⟨bb, _, none⟩) hbb).trans hc1
      have hc2 := (HX6.out.cellOf (p := ⟨bb, _, none⟩) hbb).trans hc2
      have hbb6 : bb < w6.heap.size := Nat.lt_of_lt_of_le hbb HX6.out.size
      obtain ⟨hg3, hg4⟩ := own_block ho6
      have HOne := Lib.hid (show afterOne ⟨pts, r⟩ i (a, b) = if u' ≤ v' then [⟨pts.set i (u', v'), r⟩] else [] by
        unfold afterOne cutI
        simp only [HXY.out]
        rw [← HU.out, ← HV.out])
      obtain ⟨Lx, hLx, hox, hsx⟩ := HO.out.ext HX6.out
      have HLx := Lib.hid hLx
      have HOx := Lib.hid hox
      have HSx := Lib.hid hsx
      have HE6 := Lib.hid (HE.out.trans HX6.out)
      clear ho6 hlx hLx hox hsx hbb hg1 hg2
      by_cases huv : u' ≤ v'
      · have HSz := Lib.hid (show afterK L i (a, b) (k + 1) = bk ++ [⟨pts.set i (u', v'), r⟩] by rw [HSq.out, HOne.out, if_pos huv])
        have H64 := Lib.hid (show bk.length + 1 ≤ maxLen by simp [maxLen]; omega)
        go_wp2_with fail
        go_quiet (fail)
        go_wp2_with (at_builtin; refine wpList_append_own _ rfl _ _ 86 rfl w1.heap.size 97 i0 _ 2 32 Try.underlying86 hi0 hz0 hz1 hz2 rfl (by decide) _ _ _ rfl (own_alloc (own_ext HOx.out ((Ext.refl _).drewN _)) (.cells #[.slice (some ⟨g, 0, none⟩) pts.length c5, .int .i64 r] 97)) ⟨w6.heap.size, 0, none⟩ 1 1 [.slice (some ⟨g, 0, none⟩) pts.length c5, .int .i64 r] rfl rfl (Blk.news (t := 97) (Blk.new' rfl)) (by simp [Value.oneCell']) H64.out (by omega) (by have := HE6.out.size; simp; omega) ?_; intro v7 w7 hown7 hgrow7 _)
        have HX7 := Lib.hid (show Ext w6 _ from ((Ext.refl w6).drewN nq).alloc (.cells #[.slice (some ⟨g, 0, none⟩) pts.length c5, .int .i64 r] 97))
        have HE7 := Lib.hid (ext_append (HE6.out.trans HX7.out) (own_ext HOx.out HX7.out) hgrow7)
        have HO7 := Lib.hid (show BoxOwn w7 w1.heap.size v7 (afterK L i (a, b) (k + 1)) from ⟨Lx ++ [(⟨pts.set i (u', v'), r⟩, some ⟨g, 0, none⟩, c5)], by rw [HSz.out, List.map_append, HLx.out]; rfl, by
          rw [HSz.out, List.length_append, bxC_app]
          have e : bxC [((⟨pts.set i (u', v'), r⟩ : Box), some (⟨g, 0, none⟩ : Addr), c5)] = [.slice (some ⟨g, 0, none⟩) pts.length c5, .int .i64 r] := by simp [bxC]
          rw [e]
          exact hown7, SpanRows.append ((HSx.out.ext HX7.out).app (fun y hy => by
            have e : y = (⟨pts.set i (u', v'), r⟩, some ⟨g, 0, none⟩, c5) := by simpa using hy
            subst e
            intro _
            simp only [List.length_set]
            exact own_base (own_ext HO6.out HX7.out) (Nat.zero_le _))) (own_ext HOx.out HX7.out) hgrow7⟩)
        clear hown7 hgrow7
        go_wp2
        go_roundw
        case rel => exact ⟨k + 1, by omega, by go_num, HE7.out, HO7.out⟩
        case measure => simp [intOf]; omega
      · have HSz := Lib.hid (show afterK L i (a, b) (k + 1) = bk by rw [HSq.out, HOne.out, if_neg huv, List.append_nil])
        have HO8 := Lib.hid (HO.out.ext HX6.out)
        go_wp2_with fail
        go_quiet (fail)
        go_wp2
        go_roundw
        case rel => exact ⟨k + 1, by omega, by go_num, HE6.out.drewN _, by rw [HSz.out]; exact HO8.out.ext ((Ext.refl _).drewN _)⟩
        case measure => simp [intOf]; omega
    · obtain rfl : k = L.length := by omega
      clear hE hO
      go_wp2
      go_ret
      exact (show BoxesPost (afterB L i (a, b)) w (.returned (.slice A9 bk.length c9)) wr from ⟨HW.out.trans HE.out, _, rfl, by rw [HFl.out, HBe.out]; exact HO.out.mono HW.out.size⟩)
end Go.Proofs.Ytbpilgflejdhaaa
/-! Exams: the walks over the reference's Left, Next. -/
namespace Go.Proofs.Ytbpilgflejdhaaa
open Go.RowKit

theorem bounds_of {p : Paper} (hV : Valid p) {B : Box} (hne : neP B.pts) (hl : B.pts.length = p.items.length) (hin : ∀ t, inP t B.pts → isTruth p t = true) : ∀ j, j < p.items.length → 0 ≤ (B.pts.getD j (0, 0)).1 ∧ (B.pts.getD j (0, 0)).1 ≤ 30 ∧ 0 ≤ (B.pts.getD j (0, 0)).2 ∧ (B.pts.getD j (0, 0)).2 ≤ 30 := fun j hj => by
  have a := (isTruth_iff.1 (hin _ (corner_lo hne))).2 j (by simp; omega)
  have b := (isTruth_iff.1 (hin _ (corner_hi hne))).2 j (by simp; omega)
  have c := hV.it j hj
  have e1 : (B.pts.map Prod.fst).getD j 0 = (B.pts.getD j (0, 0)).1 := by simp [List.getD, show j < B.pts.length by omega]
  have e2 : (B.pts.map Prod.snd).getD j 0 = (B.pts.getD j (0, 0)).2 := by simp [List.getD, show j < B.pts.length by omega]
  rw [e1] at a
  rw [e2] at b
  omega
theorem left_res {p : Paper} (hV : Valid p) {i : Nat} (hi : i < p.items.length) (s : Int × Int) (hL : afterB (allM p p.wrong) i s ≠ []) : 0 ≤ (resB p (afterB (allM p p.wrong) i s)).1 ∧ (resB p (afterB (allM p p.wrong) i s)).1 ≤ 1200 ∧ 0 ≤ (resB p (afterB (allM p p.wrong) i s)).2 ∧ (resB p (afterB (allM p p.wrong) i s)).2 ≤ 1200 := by
  have hok := left_ok hV hi s
  obtain ⟨_, h2⟩ := res_hull hV _ hok
  obtain ⟨⟨B1, m1, t1, i1, e1⟩, ⟨B2, m2, t2, i2, e2⟩⟩ := h2 hL
  have b1 := result_bd hV ((hok B1 m1).2.2 t1 i1)
  have b2 := result_bd hV ((hok B2 m2).2.2 t2 i2)
  omega
theorem leftB_bd {p : Paper} (hV : Valid p) {i : Nat} (hi : i < p.items.length) {err : Int} : ∀ k, 0 ≤ leftB p (allM p p.wrong) i err k ∧ leftB p (allM p p.wrong) i err k ≤ 1200
  | 0 => by simp [leftB]
  | k + 1 => by
    have h1 := leftB_bd hV hi (err := err) k
    rw [leftB]
    have h2 : markB p (allM p p.wrong) i err (-err + k) ≤ 1200 := by
      unfold markB
      split
      · omega
      · rename_i hL
        have := left_res hV hi _ hL
        omega
    omega

set_option maxHeartbeats 8000000 in
set_option maxRecDepth 100000 in
theorem left_any (iA jA gA : Option Addr) (ic jc gc : Nat) (p : Paper) (hV : Valid p) (i : Nat) (ii err : Int) (w : World) (h : PaperAt w iA jA gA p) (hi : i < p.items.length) (hii : ii = i) (he0 : 0 ≤ err) (he1 : err ≤ 5) :
    Calls Try.prog 54 #[.agg #[.slice iA p.items.length ic, .slice jA p.judges.length jc, .int .i64 p.wrong, .slice gA p.grades.length gc], .int .i64 ii, .int .i64 err] w fun e w' => e = .returned (.int .i64 (leftP p i err)) ∧ Ext w w' := by
  obtain ⟨mo, hmo⟩ : ∃ mo, (p.items.getD i default).most = mo := ⟨_, rfl⟩
  have hit := hV.it i hi
  rw [hmo] at hit
  obtain ⟨_, _, hm0, hm1⟩ := hit
  have HMo := Lib.hid hmo
  have HIt := Lib.hid h.items
  have HA := Lib.hid (fun W (e : Ext w W) => all_any p hV iA jA gA ic jc gc p.wrong W (h.ext e) hV.wr.1 (by have := hV.wr.2; omega))
  have hll := Nat.le_trans (all_len hV p.wrong) (show 4096 ≤ 100000 by omega)
  have HPt := Lib.hid (show ∀ k, k < (allM p p.wrong).length → i < ((allM p p.wrong).getD k default).pts.length ∧ ((allM p p.wrong).getD k default).pts.length ≤ 4 from fun k hk => by
    have := (all_shape hV (show (allM p p.wrong).getD k default ∈ allM p p.wrong by rw [List.getD, List.getElem?_eq_getElem hk]; exact List.getElem_mem hk)).2
    have := hV.il.2
    omega)
  have HRs := Lib.hid (show ∀ (s : Int × Int) W A c base, Ext w W → BoxOwn W base (.slice A (afterB (allM p p.wrong) i s).length c) (afterB (allM p p.wrong) i s) → Calls Try.prog 66 #[.agg #[.slice iA p.items.length ic, .slice jA p.judges.length jc, .int .i64 p.wrong, .slice gA p.grades.length gc], .slice A (afterB (allM p p.wrong) i s).length c] W fun e w' => e = .returned (.agg #[.int .i64 (resB p (afterB (allM p p.wrong) i s)).1, .int .i64 (resB p (afterB (allM p p.wrong) i s)).2]) ∧ Ext W w' from fun s W A c base e hO =>
    results_any p hV iA jA gA A ic jc gc c base _ W (h.ext e) hO (Nat.le_trans (afterK_len _ _ _ _) hll) (fun B hB => by
      obtain ⟨a, b, d⟩ := left_ok hV hi s B hB
      exact ⟨b, bounds_of hV a b d⟩))
  have HBd := Lib.hid (fun k => leftB_bd hV hi (err := err) k)
  have HRb := Lib.hid (fun s => left_res hV hi s)
  have HMk := Lib.hid (show ∀ k : Nat, leftB p (allM p p.wrong) i err (k + 1) = max (leftB p (allM p p.wrong) i err k) (if afterB (allM p p.wrong) i (-err + k - err, -err + k + err) = [] then 0 else (resB p (afterB (allM p p.wrong) i (-err + k - err, -err + k + err))).2 - (resB p (afterB (allM p p.wrong) i (-err + k - err, -err + k + err))).1) from fun k => rfl)
  have HZ := Lib.hid (show leftB p (allM p p.wrong) i err 0 = 0 from rfl)
  have HFl := Lib.hid (show leftP p i err = leftB p (allM p p.wrong) i err (mo + 2 * err + 1).toNat by unfold leftP; rw [hmo])
  generalize allM p p.wrong = L at *
  subst hii
  obtain ⟨w0, hw0⟩ : ∃ w0, w.alloc (.cells #[.slice iA p.items.length ic, .slice jA p.judges.length jc, .int .i64 p.wrong, .slice gA p.grades.length gc] 26) = w0 := ⟨_, rfl⟩
  have HX := Lib.hid (show Ext w w0 by rw [← hw0]; exact Ext.of_alloc _ _)
  have HB := Lib.hid (show ∀ W, Ext w0 W → (W.cell? ⟨w.heap.size, 0, none⟩ = some (.slice iA p.items.length ic) ∧ W.cell? ⟨w.heap.size, 1, none⟩ = some (.slice jA p.judges.length jc) ∧ W.cell? ⟨w.heap.size, 2, none⟩ = some (.int .i64 p.wrong) ∧ W.cell? ⟨w.heap.size, 3, none⟩ = some (.slice gA p.grades.length gc) ∧ w.heap.size < W.heap.size) from fun W e => by
    rw [← hw0] at e
    exact ⟨e.box 0, e.box 1, e.box 2, e.box 3, e.lt⟩)
  obtain ⟨q0, q1, q2, q3, q4⟩ := HB.out w0 (Ext.refl _)
  clear h hmo
  go_enter Try.func54, Try.ntmps54
  go_wp2_with fail
  clear hw0
  refine (HA.out _ HX.out).mono ?_
  rintro e w1 ⟨hE1, v1, rfl, hO1⟩
  obtain ⟨A1, c1, rfl⟩ := hO1.form
  have HE1 := Lib.hid hE1
  have HO1 := Lib.hid hO1
  clear hE1 hO1 q0 q1 q2 q3 q4
  go_wp2_with fail
  go_loopw [8, 9] (fun v8 v9 wr => ∃ k : Nat, (k : Int) ≤ mo + 2 * err + 1 ∧ v9 = .int .i64 (-err + k) ∧ v8 = .int .i64 (leftB p L i err k) ∧ Ext w1 wr) (fun _ v9 _ => (mo + err + 1 - intOf v9).toNat)
  case atStart => exact ⟨0, by omega, by simp, by rw [HZ.out], Ext.refl _⟩
  case round =>
    obtain ⟨k, hk, rfl, rfl, hE⟩ := hrel
    have HE := Lib.hid hE
    obtain ⟨q0, q1, q2, q3, q4⟩ := HB.out _ (HE1.out.trans hE)
    obtain ⟨ib, ioff, wt, mo', rfl, hib, hi1, hi2, _, hmo'⟩ := (HIt.out.ext ((HX.out.trans HE1.out).trans hE)).get hi
    have hmm : mo' = mo := hmo'.out.symm.trans HMo.out
    subst hmm
    have hiI : (i : Int) < p.items.length := by omega
    have hbd := HBd.out k
    have HMk2 := Lib.hid (HMk.out k)
    by_cases hlt : (k : Int) < mo' + 2 * err + 1
    · have hle : -err + (k : Int) ≤ mo' + err := by omega
      have HAf := Lib.hid (after_any A1 c1 _ i i (-err + k - err) (-err + k + err) L wr (HO1.out.ext hE) hll rfl HPt.out)
      have HRs2 := Lib.hid (HRs.out (-err + k - err, -err + k + err))
      have HRb2 := Lib.hid (HRb.out (-err + k - err, -err + k + err))
      generalize leftB p L i err k = lk at *
      generalize afterB L i (-err + k - err, -err + k + err) = M at *
      obtain ⟨b0, b1⟩ := hbd
      clear hE
      by_cases hM : M = []
      · subst hM
        have HMk3 := Lib.hid (show leftB p L i err (k + 1) = lk by rw [HMk2.out, if_pos rfl]; omega)
        go_wp2_with fail
        refine HAf.out.mono ?_
        rintro e w2 ⟨hE2, v2, rfl, hO2⟩
        obtain ⟨A2, c2, rfl⟩ := hO2.form
        have HE2 := Lib.hid (HE.out.trans hE2)
        clear hE2 hO2
        go_wp2
        go_roundw
        case rel => exact ⟨k + 1, by omega, by simp [Int.add_assoc], by rw [HMk3.out], HE2.out⟩
        case measure => simp [intOf]; omega
      · have hpos : (0 : Int) < M.length := by have := List.length_pos_iff.2 hM; omega
        have hrb := HRb2.out hM
        have HMk3 := Lib.hid (show leftB p L i err (k + 1) = max lk ((resB p M).2 - (resB p M).1) by rw [HMk2.out, if_neg hM])
        obtain ⟨r1, hr1⟩ : ∃ r1, (resB p M).1 = r1 := ⟨_, rfl⟩
        obtain ⟨r2, hr2⟩ : ∃ r2, (resB p M).2 = r2 := ⟨_, rfl⟩
        rw [hr1, hr2] at hrb HRs2 HMk3
        obtain ⟨z0, z1, z2, z3⟩ := hrb
        obtain ⟨u, hu, hur⟩ := max2_run Try.prog lk (r2 - r1)
        have HMk4 := Lib.hid (show leftB p L i err (k + 1) = u by rw [HMk3.out, hu])
        clear hM hr1 hr2 hu
        go_wp2_with fail
        refine HAf.out.mono ?_
        rintro e w2 ⟨hE2, v2, rfl, hO2⟩
        obtain ⟨A2, c2, rfl⟩ := hO2.form
        have HE2 := Lib.hid (HE.out.trans hE2)
        have HO2 := Lib.hid hO2
        obtain ⟨q0, q1, q2, q3, q4⟩ := HB.out _ (HE1.out.trans HE2.out)
        clear hE2 hO2
        go_wp2_with fail
        refine (HRs2.out _ _ _ _ ((HX.out.trans HE1.out).trans HE2.out) HO2.out).mono ?_
        rintro e w3 ⟨rfl, hE3⟩
        have HE3 := Lib.hid (HE2.out.trans hE3)
        clear hE3
        go_wp2
        go_roundw
        case rel => exact ⟨k + 1, by omega, by simp [Int.add_assoc], by rw [HMk4.out], HE3.out.alloc _⟩
        case measure => simp [intOf]; omega
    · have hgt : mo' + err < -err + (k : Int) := by omega
      have HFk := Lib.hid (show leftP p i err = leftB p L i err k by rw [HFl.out]; congr 1; omega)
      generalize leftB p L i err k = lk at *
      clear hE
      go_wp2
      go_ret
      exact ⟨ret_int HFk.out.symm, ((HX.out.trans HE1.out).trans HE.out)⟩

def nextE (p : Paper) (err : Int) : Int := knownE p (wi err 0 5)
set_option maxHeartbeats 8000000 in
set_option maxRecDepth 100000 in
theorem nextR_any (iA jA gA : Option Addr) (ic jc gc : Nat) (p : Paper) (err a b c : Int) (w : World) (h : PaperAt w iA jA gA p) (hr : nextM p err = ((a, b), c)) :
    Calls Try.prog 17 #[.agg #[.slice iA p.items.length ic, .slice jA p.judges.length jc, .int .i64 p.wrong, .slice gA p.grades.length gc], .int .i64 err] w fun e w' => e = .returned (.tuple #[.int .i64 a, .int .i64 b, .int .i64 c]) ∧ Ext w w' := by
  have HX := Lib.hid (Ext.of_alloc w (.cells #[.slice iA p.items.length ic, .slice jA p.judges.length jc, .int .i64 p.wrong, .slice gA p.grades.length gc] 26))
  have HB := Lib.hid (show ∀ W, Ext (w.alloc (.cells #[.slice iA p.items.length ic, .slice jA p.judges.length jc, .int .i64 p.wrong, .slice gA p.grades.length gc] 26)) W → (W.cell? ⟨w.heap.size, 0, none⟩ = some (.slice iA p.items.length ic) ∧ W.cell? ⟨w.heap.size, 1, none⟩ = some (.slice jA p.judges.length jc) ∧ W.cell? ⟨w.heap.size, 2, none⟩ = some (.int .i64 p.wrong) ∧ W.cell? ⟨w.heap.size, 3, none⟩ = some (.slice gA p.grades.length gc)) from fun W e => ⟨e.box 0, e.box 1, e.box 2, e.box 3⟩)
  have HC := Lib.hid (checkR_any iA jA gA ic jc gc p _ (h.ext HX.out))
  unfold nextM at hr
  cases hv : validB p
  · rw [if_neg (by simp [knownE, hv])] at hr
    simp only [knownE, hv, Bool.false_eq_true, if_false] at hr
    injection hr with h1 h2
    injection h1 with h1 h3
    subst h1; subst h2; subst h3
    rw [show checkE p = 90 by simp [checkE, hv]] at HC
    clear h hv
    go_enter Try.func17, Try.ntmps17
    go_wp2_with fail
    refine HC.out.mono ?_
    rintro e w1 ⟨rfl, hE1⟩
    have HE1 := Lib.hid hE1
    clear hE1
    go_wp2
    go_ret3
    exact ⟨rfl, HX.out.trans HE1.out⟩
  · rw [show checkE p = 0 by simp [checkE, hv]] at HC
    have hV := valid_of hv
    cases hw : wi err 0 5
    · rw [if_neg (by simp [knownE, hv, hw])] at hr
      simp only [knownE, hv, hw, Bool.false_eq_true, if_false, if_true] at hr
      injection hr with h1 h2
      injection h1 with h1 h3
      subst h1; subst h2; subst h3
      have HW := Lib.hid (fun W => withinR err 0 5 W)
      rw [hw] at HW
      clear h hv hw
      go_enter Try.func17, Try.ntmps17
      go_wp2_with fail
      refine HC.out.mono ?_
      rintro e w1 ⟨rfl, hE1⟩
      have HE1 := Lib.hid hE1
      clear hE1
      go_wp2_with fail
      refine (HW.out _).mono ?_
      rintro e w2 ⟨rfl, rfl⟩
      go_wp2
      go_ret3
      exact ⟨rfl, HX.out.trans HE1.out⟩
    · have hwt := wi_true hw
      obtain ⟨he0, he1⟩ := hwt
      have HW := Lib.hid (fun W => withinR err 0 5 W)
      rw [hw] at HW
      have HA := Lib.hid (fun W (e : Ext w W) => all_any p hV iA jA gA ic jc gc p.wrong W (h.ext e) hV.wr.1 (by have := hV.wr.2; omega))
      by_cases hnil : allM p p.wrong = []
      · have hp := (all_nil_poss hV).1 hnil
        rw [if_neg (by simp [knownE, hv, hw, hp])] at hr
        simp only [knownE, hv, hw, hp, Bool.false_eq_true, if_false, if_true] at hr
        injection hr with h1 h2
        injection h1 with h1 h3
        subst h1; subst h2; subst h3
        rw [hnil] at HA
        clear h hv hw hnil hp
        go_enter Try.func17, Try.ntmps17
        go_wp2_with fail
        refine HC.out.mono ?_
        rintro e w1 ⟨rfl, hE1⟩
        have HE1 := Lib.hid hE1
        obtain ⟨k0, k1, k2, k3⟩ := HB.out _ hE1
        clear hE1
        go_wp2_with fail
        refine (HW.out _).mono ?_
        rintro e w2 ⟨rfl, rfl⟩
        go_wp2_with fail
        refine (HA.out _ (HX.out.trans HE1.out)).mono ?_
        rintro e w2 ⟨hE2, v2, rfl, hO2⟩
        obtain ⟨A2, c2, rfl⟩ := hO2.form
        have HE2 := Lib.hid (HE1.out.trans hE2)
        clear hE2 hO2
        go_wp2
        go_ret3
        exact ⟨rfl, HX.out.trans HE2.out⟩
      · have hp : (openM p).poss = true := by
          cases hq : (openM p).poss
          · exact absurd ((all_nil_poss hV).2 hq) hnil
          · rfl
        rw [if_pos (by simp [knownE, hv, hw, hp])] at hr
        injection hr with h1 h2
        subst h2
        have hpos : (((allM p p.wrong).length : Int) == 0) = false := by simp; exact hnil
        have hil := hV.il
        have HL := Lib.hid (fun W (i : Nat) (ii : Int) (e : Ext w W) hi hii => left_any iA jA gA ic jc gc p hV i ii err W (h.ext e) hi hii he0 he1)
        have HFin := Lib.hid ((next_boxes hV ⟨he0, he1⟩ p.items.length hil.1 (Nat.le_refl _)).trans h1)
        have HN := Lib.hid (show ∀ k, nextB p err (k + 1) = if leftP p k err < (nextB p err k).2 then ((k : Int), leftP p k err) else nextB p err k from fun k => rfl)
        have HN0 := Lib.hid (show nextB p err 0 = (0, leftP p 0 err) from rfl)
        generalize allM p p.wrong = L at *
        clear h hv hw hnil hp h1
        go_enter Try.func17, Try.ntmps17
        go_wp2_with fail
        refine HC.out.mono ?_
        rintro e w1 ⟨rfl, hE1⟩
        have HE1 := Lib.hid hE1
        obtain ⟨k0, k1, k2, k3⟩ := HB.out _ hE1
        clear hE1
        go_wp2_with fail
        refine (HW.out _).mono ?_
        rintro e w2 ⟨rfl, rfl⟩
        go_wp2_with fail
        refine (HA.out _ (HX.out.trans HE1.out)).mono ?_
        rintro e w2 ⟨hE2, v2, rfl, hO2⟩
        obtain ⟨A2, c2, rfl⟩ := hO2.form
        have HE2 := Lib.hid (HE1.out.trans hE2)
        clear k0 k1 k2 k3
        obtain ⟨k0, k1, k2, k3⟩ := HB.out _ HE2.out
        clear hE2 hO2
        go_wp2_with fail
        refine (HL.out _ 0 0 (HX.out.trans HE2.out) (by omega) rfl).mono ?_
        rintro e w3 ⟨rfl, hE3⟩
        have HE3 := Lib.hid (HE2.out.trans hE3)
        clear hE3 k0 k1 k2 k3
        go_wp2_with fail
        go_loopw [4, 5, 7] (fun v4 v5 v7 wr => ∃ k : Nat, k ≤ p.items.length ∧ v7 = .int .i64 k ∧ v4 = .int .i64 (nextB p err k).1 ∧ v5 = .int .i64 (nextB p err k).2 ∧ Ext w3 wr) (fun _ _ v7 _ => p.items.length - (intOf v7).toNat)
        case atStart => exact ⟨0, by omega, rfl, by rw [HN0.out], by rw [HN0.out], Ext.refl _⟩
        case round =>
          obtain ⟨k, hk, rfl, rfl, rfl, hE⟩ := hrel
          have HE := Lib.hid hE
          obtain ⟨k0, k1, k2, k3⟩ := HB.out _ (HE3.out.trans hE)
          have HNk := Lib.hid (HN.out k)
          by_cases hlt : (k : Int) < p.items.length
          · have HLk := Lib.hid (HL.out wr k k ((HX.out.trans HE3.out).trans hE) (by omega) rfl)
            clear hE
            obtain ⟨n1, n2, hn⟩ : ∃ n1 n2, nextB p err k = (n1, n2) := ⟨_, _, rfl⟩
            rw [hn] at HNk ⊢
            clear hn
            generalize leftP p k err = lk at *
            simp only at HNk
            by_cases hb : lk < n2
            · have HNl := Lib.hid (show nextB p err (k + 1) = ((k : Int), lk) by rw [HNk.out]; exact if_pos hb)
              go_wp2_with fail
              refine HLk.out.mono ?_
              rintro e w4 ⟨rfl, hE4⟩
              have HE4 := Lib.hid (HE.out.trans hE4)
              clear hE4
              go_wp2
              go_roundw
              case rel => exact ⟨k + 1, by omega, by go_num, by rw [HNl.out], by rw [HNl.out], HE4.out⟩
              case measure => simp [intOf]; omega
            · have HNl := Lib.hid (show nextB p err (k + 1) = (n1, n2) by rw [HNk.out]; exact if_neg hb)
              go_wp2_with fail
              refine HLk.out.mono ?_
              rintro e w4 ⟨rfl, hE4⟩
              have HE4 := Lib.hid (HE.out.trans hE4)
              clear hE4
              go_wp2
              go_roundw
              case rel => exact ⟨k + 1, by omega, by go_num, by rw [HNl.out], by rw [HNl.out], HE4.out⟩
              case measure => simp [intOf]; omega
          · obtain rfl : k = p.items.length := by omega
            rw [HFin.out]
            clear hE
            go_wp2
            go_ret3
            exact ⟨rfl, (HX.out.trans HE3.out).trans HE.out⟩
end Go.Proofs.Ytbpilgflejdhaaa
