/- Exams: the walks over the reference's results, Range, Grade. / Exams: the walks over the reference's Range, Grade. / Exams: the walk over the reference's Blame. / Exams: the walk over the reference's Points. / Exams: the walk over the reference's Grade. -/
import Derived.Test.YtbpilgflejdhaaaExYa
import Derived.Test.YtbpilgflejdhaaaBoxMem
import Derived.Test.YtbpilgflejdhaaaExU
import Derived.Test.YtbpilgflejdhaaaExT
import Derived.Deep.RegionHeld3
/-! Exams: the walks over the reference's results, Range, Grade. -/
namespace Go.Proofs.Ytbpilgflejdhaaa
open Go.RowKit

set_option maxHeartbeats 8000000 in
set_option maxRecDepth 100000 in
theorem results_any (p : Paper) (hV : Valid p) (iA jA gA lA : Option Addr) (ic jc gc lc base : Nat) (L : List Box) (w : World) (h : PaperAt w iA jA gA p) (hL : BoxOwn w base (.slice lA L.length lc) L) (hl : L.length ≤ 100000)
    (hok : ∀ B ∈ L, B.pts.length = p.items.length ∧ ∀ j, j < p.items.length → 0 ≤ (B.pts.getD j (0, 0)).1 ∧ (B.pts.getD j (0, 0)).1 ≤ 30 ∧ 0 ≤ (B.pts.getD j (0, 0)).2 ∧ (B.pts.getD j (0, 0)).2 ≤ 30) :
    Calls Try.prog 66 #[.agg #[.slice iA p.items.length ic, .slice jA p.judges.length jc, .int .i64 p.wrong, .slice gA p.grades.length gc], .slice lA L.length lc] w fun e w' => e = .returned (.agg #[.int .i64 (resB p L).1, .int .i64 (resB p L).2]) ∧ Ext w w' := by
  have hil := hV.il.2
  have H := Lib.hid h.items
  have HL := Lib.hid hL
  have HIt := Lib.hid hV.it
  have HOk := Lib.hid (show ∀ k, k < L.length → (L.getD k default).pts.length = p.items.length ∧ ∀ j, j < p.items.length → 0 ≤ ((L.getD k default).pts.getD j (0, 0)).1 ∧ ((L.getD k default).pts.getD j (0, 0)).1 ≤ 30 ∧ 0 ≤ ((L.getD k default).pts.getD j (0, 0)).2 ∧ ((L.getD k default).pts.getD j (0, 0)).2 ≤ 30 from fun k hk => hok _ (by rw [List.getD, List.getElem?_eq_getElem hk]; exact List.getElem_mem hk))
  have HSn := Lib.hid (resK_succ p L)
  have HLo := Lib.hid (fun B k => @loTo_succ p B k)
  have HHi := Lib.hid (fun B k => @hiTo_succ p B k)
  have H00 := Lib.hid (show ∀ B, loTo p B 0 = 0 ∧ hiTo p B 0 = 0 from fun B => ⟨rfl, rfl⟩)
  have HR0 := Lib.hid (show resK p L 0 = (1201, -1) from rfl)
  have HRe := Lib.hid (show resB p L = resK p L L.length from rfl)
  clear h hL hok
  obtain ⟨w1, hw1⟩ : ∃ w1, (w.alloc (.cells #[.slice iA p.items.length ic, .slice jA p.judges.length jc, .int .i64 p.wrong, .slice gA p.grades.length gc] 26)).alloc (.cells #[.int .i64 0, .int .i64 0] 35) = w1 := ⟨_, rfl⟩
  have HW := Lib.hid (show Ext w w1 by rw [← hw1]; exact (Ext.of_alloc _ _).alloc _)
  have HB := Lib.hid (show ∀ W, Ext w1 W → (W.cell? ⟨w.heap.size, 0, none⟩ = some (.slice iA p.items.length ic) ∧ w.heap.size + 1 < W.heap.size ∧ W.cell? ⟨w.heap.size + 1, 0, none⟩ = some (.int .i64 0) ∧ W.cell? ⟨w.heap.size + 1, 1, none⟩ = some (.int .i64 0) ∧ W.frozen? ⟨w.heap.size + 1, 0, none⟩ = false ∧ W.frozen? ⟨w.heap.size + 1, 1, none⟩ = false) from fun W e => by
    rw [← hw1] at e
    obtain ⟨b1, b2, _, b4, b3⟩ := box2 e
    exact ⟨b1 0, b3, b2 0, b2 1, b4 0, b4 1⟩)
  have HZ := Lib.hid (show ∀ W, Below w.heap.size w1 W → Ext w W from fun W hb => Below.trans HW.out hb)
  obtain ⟨q0, q1, _⟩ := HB.out w1 (Ext.refl _)
  go_enter Try.func66, Try.ntmps66
  go_wp2_with fail
  clear hw1
  go_loopw [6] (fun v6 wr => ∃ k : Nat, k ≤ L.length ∧ v6 = .int .i64 k ∧ Ext w1 wr ∧ Blk wr w1.heap.size 35 #[.int .i64 (resK p L k).1, .int .i64 (resK p L k).2]) (fun v6 _ => L.length - (intOf v6).toNat)
  case atStart => exact ⟨0, by omega, rfl, Ext.of_alloc _ _, by rw [HR0.out]; exact Blk.new _ _ _⟩
  case round =>
    obtain ⟨k, hk, rfl, hE, hBk⟩ := hrel
    have HE := Lib.hid hE
    have HBk := Lib.hid hBk
    by_cases hlt : (k : Int) < L.length
    · clear hE hBk
      obtain ⟨wo, rfl⟩ : ∃ wo : World, wo = wr := ⟨_, rfl⟩
      go_wp2_with fail
      go_loopw [7, 8, 9] (fun v7 v8 v9 wr => ∃ j : Nat, j ≤ p.items.length ∧ v9 = .int .i64 j ∧ v7 = .int .i64 (loTo p (L.getD k default) j) ∧ v8 = .int .i64 (hiTo p (L.getD k default) j) ∧ (0 ≤ loTo p (L.getD k default) j ∧ loTo p (L.getD k default) j ≤ 300 * j ∧ 0 ≤ hiTo p (L.getD k default) j ∧ hiTo p (L.getD k default) j ≤ 300 * j) ∧ Ext wo wr) (fun _ _ v9 _ => p.items.length - (intOf v9).toNat)
      case atStart => exact ⟨0, by omega, rfl, by rw [(H00.out _).1], by rw [(H00.out _).2], by rw [(H00.out _).1, (H00.out _).2]; omega, Ext.refl _⟩
      case round =>
        obtain ⟨j, hj, rfl, rfl, rfl, hbd, hEz⟩ := hrel
        obtain ⟨b1, b2, b3, b4⟩ := hbd
        have HEz := Lib.hid hEz
        have HEt := Lib.hid (HE.out.trans hEz)
        obtain ⟨q0, q1, _⟩ := HB.out wr HEt.out
        by_cases hlj : (j : Int) < p.items.length
        · obtain ⟨ib, ioff, wt, mo, rfl, hib, hi1, hi2, hwt, _⟩ := (H.out.ext (HW.out.trans HEt.out)).get (show j < p.items.length by omega)
          obtain ⟨bb, boff, pA, pc, pts, r, rfl, hbb, hc1, hc2, hrow, hget⟩ := (HL.out.ext (HW.out.trans HEt.out)).get (show k < L.length by omega)
          have hok := HOk.out k (by omega)
          have HSl := Lib.hid (HLo.out (L.getD k default) j)
          have HSh := Lib.hid (HHi.out (L.getD k default) j)
          rw [hget.out] at hok HSl HSh b1 b2 b3 b4 ⊢
          simp only at hok HSl HSh
          obtain ⟨hpl, hpo⟩ := hok
          have hjp : (j : Int) < pts.length := by omega
          obtain ⟨sb, soff, x, y, rfl, hsb, hs1, hs2, hxy⟩ := (hrow.spans rfl).get (show j < pts.length by omega)
          have hpj := hpo j (by omega)
          have hw := HIt.out j (by omega)
          rw [hxy.out] at hpj HSl HSh
          rw [hwt.out] at HSl HSh hw
          simp only at hpj HSl HSh
          obtain ⟨p1, p2, p3, p4⟩ := hpj
          obtain ⟨w1', w2', _, _⟩ := hw
          have m1 := Int.mul_le_mul p2 w2' w1' (by omega : (0:Int) ≤ 30)
          have m2 := Int.mul_nonneg p1 w1'
          have m3 := Int.mul_le_mul p4 w2' w1' (by omega : (0:Int) ≤ 30)
          have m4 := Int.mul_nonneg p3 w1'
          clear hpl hpo hrow hget hwt hxy hEz
          generalize loTo p ⟨pts, r⟩ j = lj at *
          generalize hiTo p ⟨pts, r⟩ j = hj' at *
          have HS1 := Lib.hid HSl.out
          go_wp2_with fail
          go_quiet (fail)
          go_wp2_with fail
          go_quiet (fail)
          go_wp2
          go_roundw
          case rel => exact ⟨j + 1, by omega, by go_num, by rw [HSl.out], by rw [HSh.out], by rw [HSl.out, HSh.out]; omega, HEz.out.drewN _⟩
          case measure => simp [intOf]; omega
        · obtain rfl : j = p.items.length := by omega
          have hBr := HBk.out.ext hEz
          have HBr := Lib.hid hBr
          have HSk := Lib.hid (HSn.out k (by omega))
          obtain ⟨o1, o2, ho⟩ : ∃ o1 o2, resK p L k = (o1, o2) := ⟨_, _, rfl⟩
          rw [ho] at HSk hBr HBr
          simp only at hBr HBr
          have g0 : wr.cell? ⟨w1.heap.size, 0, none⟩ = some (.int .i64 o1) := hBr.cell 0
          have g1 : wr.cell? ⟨w1.heap.size, 1, none⟩ = some (.int .i64 o2) := hBr.cell 1
          have f0 : wr.frozen? ⟨w1.heap.size, 0, none⟩ = false := hBr.free 0
          have f1 : wr.frozen? ⟨w1.heap.size, 1, none⟩ = false := hBr.free 1
          have HSe := Lib.hid (show resStep p (o1, o2) (L.getD k default) = (min o1 (loTo p (L.getD k default) p.items.length), max o2 (hiTo p (L.getD k default) p.items.length)) from rfl)
          generalize loTo p (L.getD k default) p.items.length = lj at *
          generalize hiTo p (L.getD k default) p.items.length = hj' at *
          obtain ⟨u, hu, hur⟩ := min2_run Try.prog o1 lj
          obtain ⟨v, hv, hvr⟩ := max2_run Try.prog o2 hj'
          have HSf := Lib.hid (show resK p L (k + 1) = (u, v) by rw [HSk.out, HSe.out, hu, hv])
          clear hEz hBr hu hv ho hlj
          go_wp2
          go_roundw
          case rel => exact ⟨k + 1, by omega, by go_num, (HEt.out.setCell (p := ⟨w1.heap.size, 0, none⟩) (Nat.le_refl _) _).setCell (p := ⟨w1.heap.size, 1, none⟩) (Nat.le_refl _) _, by rw [HSf.out]; exact (HBr.out.set 0 (.int .i64 u)).set 1 (.int .i64 v)⟩
          case measure => simp [intOf]; omega
    · obtain rfl : k = L.length := by omega
      obtain ⟨o1, o2, ho⟩ : ∃ o1 o2, resK p L L.length = (o1, o2) := ⟨_, _, rfl⟩
      have HRf := Lib.hid (show resB p L = (o1, o2) by rw [HRe.out, ho])
      rw [ho] at hBk
      simp only at hBk
      have g0 : wr.cell? ⟨w1.heap.size, 0, none⟩ = some (.int .i64 o1) := hBk.cell 0
      have g1 : wr.cell? ⟨w1.heap.size, 1, none⟩ = some (.int .i64 o2) := hBk.cell 1
      obtain ⟨q0, q1, z0, z1, zf0, zf1⟩ := HB.out _ hE
      have g2 : w1.heap.size < wr.heap.size := hBk.lt
      clear hE hBk ho HBk
      go_wp2
      refine bodyPost_ret (v := .agg #[.int .i64 o1, .int .i64 o2]) (by simp [results, Try.results66, go_sem, z0, z1]) rfl ⟨by rw [HRf.out], HZ.out _ ?_⟩
      exact ((HE.out.mono (by have := HW.out.size; omega)).setCell (p := ⟨w.heap.size + 1, 0, none⟩) (by simp) _).setCell (p := ⟨w.heap.size + 1, 1, none⟩) (by simp) _
end Go.Proofs.Ytbpilgflejdhaaa
/-! Exams: the walks over the reference's Range, Grade. -/
namespace Go.Proofs.Ytbpilgflejdhaaa
open Go.RowKit

theorem box_bounds {p : Paper} (hV : Valid p) {n : Int} (hn : 0 ≤ n) : ∀ B ∈ allM p n, B.pts.length = p.items.length ∧ ∀ j, j < p.items.length → 0 ≤ (B.pts.getD j (0, 0)).1 ∧ (B.pts.getD j (0, 0)).1 ≤ 30 ∧ 0 ≤ (B.pts.getD j (0, 0)).2 ∧ (B.pts.getD j (0, 0)).2 ≤ 30 := fun B hB => by
  obtain ⟨hne, hl, hin⟩ := all_ok hV hn B hB
  refine ⟨hl, fun j hj => ?_⟩
  have a := (isTruth_iff.1 (hin _ (corner_lo hne))).2 j (by simp; omega)
  have b := (isTruth_iff.1 (hin _ (corner_hi hne))).2 j (by simp; omega)
  have c := hV.it j hj
  have e1 : (B.pts.map Prod.fst).getD j 0 = (B.pts.getD j (0, 0)).1 := by simp [List.getD, show j < B.pts.length by omega]
  have e2 : (B.pts.map Prod.snd).getD j 0 = (B.pts.getD j (0, 0)).2 := by simp [List.getD, show j < B.pts.length by omega]
  rw [e1] at a
  rw [e2] at b
  omega

set_option maxHeartbeats 4000000 in
theorem rangeB_any (iA jA gA : Option Addr) (ic jc gc : Nat) (p : Paper) (lo hi c : Int) (w : World) (h : PaperAt w iA jA gA p) (hr : rangeM p = ((lo, hi), c)) :
    Calls Try.prog 40 #[.agg #[.slice iA p.items.length ic, .slice jA p.judges.length jc, .int .i64 p.wrong, .slice gA p.grades.length gc]] w fun e w' => e = .returned (.tuple #[.agg #[.int .i64 lo, .int .i64 hi], .int .i64 c]) ∧ Ext w w' := by
  have HX := Lib.hid ((Ext.of_alloc w (.cells #[.slice iA p.items.length ic, .slice jA p.judges.length jc, .int .i64 p.wrong, .slice gA p.grades.length gc] 26)).alloc (.cells #[.int .i64 0, .int .i64 0] 35))
  unfold rangeM at hr
  by_cases hk : knownE p true = 0
  · rw [if_pos hk] at hr
    have HO := Lib.hid (knownB_ok iA jA gA ic jc gc p _ (h.ext HX.out) hk)
    obtain ⟨hv, _, hp⟩ := knownE_ok hk
    have hV := valid_of hv
    injection hr with hr hc
    subst hc
    have hrb := (range_boxes hV hp).trans hr
    have h1 : (resB p (allM p p.wrong)).1 = lo := by rw [hrb]
    have h2 : (resB p (allM p p.wrong)).2 = hi := by rw [hrb]
    have HRs := Lib.hid (show ∀ W A c base, Ext w W → BoxOwn W base (.slice A (allM p p.wrong).length c) (allM p p.wrong) → Calls Try.prog 66 #[.agg #[.slice iA p.items.length ic, .slice jA p.judges.length jc, .int .i64 p.wrong, .slice gA p.grades.length gc], .slice A (allM p p.wrong).length c] W fun e w' => e = .returned (.agg #[.int .i64 lo, .int .i64 hi]) ∧ Ext W w' from fun W A c base e hO => by
      have := results_any p hV iA jA gA A ic jc gc c base (allM p p.wrong) W (h.ext e) hO (Nat.le_trans (all_len hV p.wrong) (by omega)) (box_bounds hV hV.wr.1)
      rw [h1, h2] at this
      exact this)
    generalize allM p p.wrong = L at *
    clear hk hr h hv hp hrb h1 h2
    go_enter Try.func40, Try.ntmps40
    go_wp2_with fail
    refine HO.out.mono ?_
    rintro e w1 ⟨A1, c1, rfl, hO1, hE1⟩
    have HE1 := Lib.hid (HX.out.trans hE1)
    have HO1 := Lib.hid hO1
    obtain ⟨b1, b2, f1, f2, hlt⟩ := box2 hE1
    have d0 := b1 0
    have d1 := b1 1
    have d2 := b1 2
    have d3 := b1 3
    have HXX := Lib.hid hE1
    clear hE1 hO1 b1 b2 f1 f2
    go_wp2_with fail
    refine (HRs.out _ _ _ _ HE1.out HO1.out).mono ?_
    rintro e w2 ⟨rfl, hE2⟩
    obtain ⟨b1, b2, f1, f2, hlt⟩ := box2 (HXX.out.trans hE2)
    have HF := Lib.hid (show ∀ W, Below w.heap.size w2 W → Ext w W from fun W hb => Below.trans (HE1.out.trans hE2) hb)
    clear hE2
    go_wp2
    refine bodyPost_ret (v := .tuple #[.agg #[.int .i64 lo, .int .i64 hi], .int .i64 0]) (by simp [results, Try.results40, go_sem, b2]) rfl ⟨rfl, HF.out _ ?_⟩
    exact ((Below.refl _ _).setCell (by simp) _).setCell (by simp) _
  · rw [if_neg hk] at hr
    have HO := Lib.hid (knownB_err iA jA gA ic jc gc p _ _ (h.ext HX.out) rfl hk)
    injection hr with hr hc
    injection hr with h1 h2
    subst h1; subst h2
    rw [hc] at HO hk
    have hc0 : (c != 0) = true := by simpa using hk
    clear hk hc h
    go_enter Try.func40, Try.ntmps40
    go_wp2_with fail
    refine HO.out.mono ?_
    rintro e w1 ⟨rfl, hE1⟩
    have HE1 := Lib.hid hE1
    obtain ⟨b1, b2, f1, f2, hlt⟩ := box2 hE1
    have HF := Lib.hid (show ∀ W, Below w.heap.size w1 W → Ext w W from fun W hb => Below.trans (HX.out.trans hE1) hb)
    clear hE1
    go_wp2
    refine bodyPost_ret (v := .tuple #[.agg #[.int .i64 0, .int .i64 0], .int .i64 c]) (by simp [results, Try.results40, go_sem, b2]) rfl ⟨rfl, HF.out _ ?_⟩
    exact ((Below.refl _ _).setCell (by simp) _).setCell (by simp) _
end Go.Proofs.Ytbpilgflejdhaaa
/-! Exams: the walk over the reference's Blame. -/
namespace Go.Proofs.Ytbpilgflejdhaaa
open Go.RowKit

theorem bit_or2 (r s : Nat) (hr : r < 16) (hs : s < 16) : bits .or .i64 (r : Int) (s : Int) = ((r ||| s : Nat) : Int) := by
  have h : ∀ r : Fin 16, ∀ s : Fin 16, bits .or .i64 (r.val : Int) (s.val : Int) = ((r.val ||| s.val : Nat) : Int) := by decide +kernel
  exact h ⟨r, hr⟩ ⟨s, hs⟩
theorem bit_test (r j : Nat) (hr : r < 16) (hj : j < 4) : (bits .and .i64 ((r : Int) / 2 ^ j) 1 == 0) = !r.testBit j := by
  have h : ∀ r : Fin 16, ∀ j : Fin 4, (bits .and .i64 ((r.val : Int) / 2 ^ j.val) 1 == 0) = !r.val.testBit j.val := by decide +kernel
  exact h ⟨r, hr⟩ ⟨j, hj⟩
theorem all_right_lt {p : Paper} (hV : Valid p) {n : Int} : ∀ B ∈ allM p n, B.right < 16 := fun B hB =>
  boxes_right_lt p.judges 0 n (box0 p) B 4 (by have := hV.jl; omega) (by simp [box0]) hB
theorem orK_lt {L : List Box} (h : ∀ B ∈ L, B.right < 16) : ∀ k, orK L k < 16 := by
  have key : ∀ (l : List Box) (r : Nat), r < 16 → (∀ B ∈ l, B.right < 16) → l.foldl (fun r B => r ||| B.right) r < 16 := by
    intro l
    induction l with
    | nil => intro r hr _; exact hr
    | cons B l ih => intro r hr hl; exact ih _ (or_lt (n := 4) hr (hl B List.mem_cons_self)) (fun B' hB' => hl B' (List.mem_cons_of_mem _ hB'))
  intro k
  exact key _ 0 (by omega) (fun B hB => h B (List.mem_of_mem_take hB))

set_option maxHeartbeats 8000000 in
set_option maxRecDepth 100000 in
theorem blameR_any (iA jA gA : Option Addr) (ic jc gc : Nat) (p : Paper) (l : List Int) (c : Int) (w : World) (h : PaperAt w iA jA gA p) (hr : blameM p = (l, c)) :
    Calls Try.prog 43 #[.agg #[.slice iA p.items.length ic, .slice jA p.judges.length jc, .int .i64 p.wrong, .slice gA p.grades.length gc]] w fun e w' => ∃ A cc, e = .returned (.tuple #[.slice A l.length cc, .int .i64 c]) ∧ Ints w' A l ∧ Ext w w' := by
  have HX := Lib.hid (Ext.of_alloc w (.cells #[.slice iA p.items.length ic, .slice jA p.judges.length jc, .int .i64 p.wrong, .slice gA p.grades.length gc] 26))
  unfold blameM at hr
  by_cases hk : knownE p true = 0
  · rw [if_pos hk] at hr
    have HO := Lib.hid (knownB_ok iA jA gA ic jc gc p _ (h.ext HX.out) hk)
    obtain ⟨hv, _, hp⟩ := knownE_ok hk
    have hV := valid_of hv
    injection hr with hr hc
    subst hc
    have HR := Lib.hid ((blame_boxes hV).trans hr)
    have hjl := hV.jl
    have HLt := Lib.hid (orK_lt (all_right_lt hV (n := p.wrong)))
    have HLb := Lib.hid (all_right_lt hV (n := p.wrong))
    have hll := Nat.le_trans (all_len hV p.wrong) (show 4096 ≤ 100000 by omega)
    obtain ⟨i0, hi0, hz0, hz1, hz2⟩ := info_parts int_info
    have HSn := Lib.hid (blameB_succ (allM p p.wrong))
    have HOn := Lib.hid (orK_succ (allM p p.wrong))
    have HO0 := Lib.hid (show orK (allM p p.wrong) 0 = 0 from rfl)
    have HB0 := Lib.hid (show blameB (allM p p.wrong) 0 = [] from rfl)
    have HBl := Lib.hid (show ∀ k, (blameB (allM p p.wrong) k).length ≤ k from fun k => by
      unfold blameB
      rw [List.length_map]
      exact Nat.le_trans (List.length_filter_le _ _) (by simp))
    generalize allM p p.wrong = L at *
    clear hk hr h hv hp
    go_enter Try.func43, Try.ntmps43
    go_wp2_with fail
    refine HO.out.mono ?_
    rintro e w1 ⟨A1, c1, rfl, hO1, hE1⟩
    have HE1 := Lib.hid (HX.out.trans hE1)
    have HO1 := Lib.hid hO1
    have HBx := Lib.hid (show ∀ W, Ext w1 W → (W.cell? ⟨w.heap.size, 1, none⟩ = some (.slice jA p.judges.length jc)) from fun W e => (hE1.trans e).box 1)
    clear hE1 hO1
    go_wp2_with fail
    go_loop [6, 7] (fun v6 v7 => ∃ k : Nat, k ≤ L.length ∧ v7 = .int .i64 k ∧ v6 = .int .i64 (orK L k : Nat)) (fun _ v7 => L.length - (intOf v7).toNat)
    case atStart => exact ⟨0, by omega, rfl, by rw [HO0.out]; rfl⟩
    case round =>
      obtain ⟨k, hk, rfl, rfl⟩ := hrel
      by_cases hlt : (k : Int) < L.length
      · obtain ⟨bb, boff, pA, pc, pts, r, rfl, hbb, hc1, hc2, hrow, hget⟩ := HO1.out.get (show k < L.length by omega)
        have HSk := Lib.hid (HOn.out k (by omega))
        have hr16 : r < 16 := by
          have := HLb.out (L.getD k default) (by rw [List.getD, List.getElem?_eq_getElem (by omega)]; exact List.getElem_mem _)
          rw [hget.out] at this
          exact this
        have HBo := Lib.hid (bit_or2 _ _ (HLt.out k) hr16)
        have HSk2 := Lib.hid (show orK L (k + 1) = orK L k ||| r by rw [HSk.out, hget.out])
        clear hrow hget hr16
        generalize orK L k = ok at *
        go_wp2
        go_round
        case rel => exact ⟨k + 1, by omega, by go_num, by rw [HSk2.out, ← HBo.out]⟩
        case measure => simp [intOf]; omega
      · obtain rfl : k = L.length := by omega
        obtain ⟨q, hq⟩ : ∃ q, orK L L.length = q := ⟨_, rfl⟩
        have hq16 := HLt.out L.length
        rw [hq] at hq16 ⊢
        rw [hq] at HSn
        clear hq
        go_wp2_with fail
        go_loopw [8, 9] (fun v8 v9 wr => ∃ j : Nat, j ≤ p.judges.length ∧ v9 = .int .i64 j ∧ Ext w1 wr ∧ wr.ownsRow w1.heap.size 3 1 v8 (blameB L j).length ((blameB L j).map (Value.int .i64))) (fun _ v9 _ => p.judges.length - (intOf v9).toNat)
        case atStart => exact ⟨0, by omega, rfl, Ext.refl _, by rw [HB0.out]; exact World.ownsRow_nil _ _ _ _⟩
        case round =>
          obtain ⟨j, hj, rfl, hE, hown⟩ := hrel
          have HE := Lib.hid hE
          have Hown := Lib.hid hown
          have b1 := HBx.out _ hE
          have HSk := Lib.hid (HSn.out j)
          have hbl := HBl.out j
          by_cases hlj : (j : Int) < p.judges.length
          · have hbt := bit_test q j hq16 (by omega)
            cases hb : q.testBit j
            · rw [hb] at hbt HSk
              simp only [Bool.not_false] at hbt
              have HO2 := Lib.hid (Hown.out.alloc (.cells #[.int .i64 j] 3))
              have HE3 := Lib.hid (HE.out.alloc (.cells #[.int .i64 j] 3))
              have HNews := Lib.hid (Blk.new wr 3 #[.int .i64 j]).news
              have H63 := Lib.hid (show (blameB L j).length + 1 ≤ maxLen by simp [maxLen]; omega)
              have HSz2 := Lib.hid HE3.out.size
              clear hE hb hown
              generalize blameB L j = bk at *
              go_wp2_with (at_builtin; refine wpList_append_own _ rfl _ _ 24 rfl w1.heap.size 3 i0 _ 1 8 Try.underlying24 hi0 hz0 hz1 hz2 rfl (by decide) _ _ _ rfl HO2.out ⟨wr.heap.size, 0, none⟩ 1 1 [.int .i64 j] rfl rfl HNews.out (by simp [Value.oneCell']) H63.out (by omega) HSz2.out ?_; intro v' w5 hown5 hgrow5 _)
              have HO5 := Lib.hid hown5
              have HE5 := Lib.hid (ext_append HE3.out HO2.out hgrow5)
              clear hown5 hgrow5
              go_wp2
              go_roundw
              case rel => exact ⟨j + 1, by omega, by go_num, HE5.out, by rw [HSk.out]; simp only [Bool.false_eq_true, if_false]; rw [ints_snoc, List.length_append]; exact HO5.out⟩
              case measure => simp [intOf]; omega
            · rw [hb] at hbt HSk
              simp only [Bool.not_true] at hbt
              clear hE hb hown
              go_wp2
              go_roundw
              case rel => exact ⟨j + 1, by omega, by go_num, HE.out, by rw [HSk.out]; simp only [if_true]; exact Hown.out⟩
              case measure => simp [intOf]; omega
          · obtain rfl : j = p.judges.length := by omega
            obtain ⟨A, cc, rfl, _⟩ := own_form hown
            clear hE hown
            go_wp2
            go_ret2
            have hI := (Ints.of_own Hown.out).2
            rw [HR.out] at hI
            exact ⟨A, ⟨cc, by rw [HR.out]; rfl⟩, hI, HE1.out.trans HE.out⟩
  · rw [if_neg hk] at hr
    have HO := Lib.hid (knownB_err iA jA gA ic jc gc p _ _ (h.ext HX.out) rfl hk)
    injection hr with h1 h2
    subst h1
    rw [h2] at HO hk
    have hc0 : (c != 0) = true := by simpa using hk
    clear hk h2 h
    go_enter Try.func43, Try.ntmps43
    go_wp2_with fail
    refine HO.out.mono ?_
    rintro e w1 ⟨rfl, hE1⟩
    have HE1 := Lib.hid hE1
    clear hE1
    go_wp2
    go_ret2
    exact ⟨none, 0, rfl, fun k hk => by simp at hk, HX.out.trans HE1.out⟩
end Go.Proofs.Ytbpilgflejdhaaa
/-! Exams: the walk over the reference's Points. -/
namespace Go.Proofs.Ytbpilgflejdhaaa
open Go.RowKit

set_option maxHeartbeats 8000000 in
set_option maxRecDepth 100000 in
theorem pointsR_any (iA jA gA : Option Addr) (ic jc gc : Nat) (p : Paper) (l : List (Int × Int)) (c : Int) (w : World) (h : PaperAt w iA jA gA p) (hr : pointsM p = (l, c)) :
    Calls Try.prog 41 #[.agg #[.slice iA p.items.length ic, .slice jA p.judges.length jc, .int .i64 p.wrong, .slice gA p.grades.length gc]] w fun e w' => ∃ A cc, e = .returned (.tuple #[.slice A l.length cc, .int .i64 c]) ∧ Spans w' A l ∧ Ext w w' := by
  have HX := Lib.hid (Ext.of_alloc w (.cells #[.slice iA p.items.length ic, .slice jA p.judges.length jc, .int .i64 p.wrong, .slice gA p.grades.length gc] 26))
  unfold pointsM at hr
  by_cases hk : knownE p true = 0
  · rw [if_pos hk] at hr
    have HO := Lib.hid (knownB_ok iA jA gA ic jc gc p _ (h.ext HX.out) hk)
    obtain ⟨hv, _, hp⟩ := knownE_ok hk
    have hV := valid_of hv
    injection hr with hr hc
    subst hc
    have HR := Lib.hid ((points_boxes hV hp).trans hr)
    have hil := hV.il
    have hpos : 0 < (allM p p.wrong).length := List.length_pos_iff.2 fun e => by rw [(all_nil_poss hV).1 e] at hp; cases hp
    have hll := Nat.le_trans (all_len hV p.wrong) (show 4096 ≤ 100000 by omega)
    have HBd := Lib.hid (show ∀ k, k < (allM p p.wrong).length → ((allM p p.wrong).getD k default).pts.length = p.items.length from fun k hk => (box_bounds hV hV.wr.1 _ (by rw [List.getD, List.getElem?_eq_getElem hk]; exact List.getElem_mem hk)).1)
    obtain ⟨i0, hi0, hz0, hz1, hz2⟩ := info_parts span_info
    have HPB := Lib.hid (show ptsB (allM p p.wrong) = hullK (allM p p.wrong) ((allM p p.wrong).getD 0 default).pts (allM p p.wrong).length from rfl)
    generalize allM p p.wrong = L at *
    clear hk hr h hv hp
    have hposI : (0 : Int) < L.length := by omega
    go_enter Try.func41, Try.ntmps41
    go_wp2_with fail
    refine HO.out.mono ?_
    rintro e w1 ⟨A1, c1, rfl, hO1, hE1⟩
    have HE1 := Lib.hid (HX.out.trans hE1)
    have HO1 := Lib.hid hO1
    obtain ⟨bb, boff, pA, pc, pts, r, rfl, hbb, hc1, hc2, hrow, hget⟩ := hO1.get hpos
    have hpl := HBd.out 0 hpos
    rw [hget.out] at hpl HPB
    simp only at hpl HPB
    have hc1' : w1.cell? ⟨bb, boff, none⟩ = some (.slice pA pts.length pc) := by simpa using hc1
    have HRow := Lib.hid (hrow (by omega))
    have HNil := Lib.hid (fun e => (own_none HRow.out e).1)
    have HCel := Lib.hid (fun W (e : Ext w1 W) => own_cells (own_ext HRow.out e))
    have HPl := Lib.hid hpl
    have hp1 : 1 ≤ pts.length := by omega
    have hp4 : pts.length ≤ 4 := by omega
    have H63 := Lib.hid (show pts.length ≤ maxLen by simp [maxLen]; omega)
    have hHl := hullK_len L pts
    have HHl := Lib.hid hHl
    have HHs := Lib.hid (hullK_succ L pts)
    have HH0 := Lib.hid (show hullK L pts 0 = pts from rfl)
    clear hE1 hO1 hrow hpl hc1 hc2 hget hHl
    go_wp2_with (at_builtin; refine wpList_append_fresh rfl _ _ 58 rfl 35 i0 _ 2 16 Try.underlying58 hi0 hz0 hz1 hz2 rfl _ (by rfl) pA pts.length pc (by rfl) (spanCells pts) HNil.out (spanCells_length pts) (HCel.out _ (by repeat (first | with_reducible exact Ext.refl _ | with_reducible refine Ext.drew ?_ | with_reducible refine Ext.alloc ?_ _))) H63.out (by omega) ?_; intro A5 c5 w5 hF5; have HE5 := Lib.hid (Ext.trans (show Ext w1 _ by repeat (first | with_reducible exact Ext.refl _ | with_reducible refine Ext.drew ?_ | with_reducible refine Ext.alloc ?_ _)) hF5.1); have HO5 := Lib.hid (own_base (b' := w1.heap.size) (hF5.2 (by omega)) (Ext.le (show Ext w1 _ by repeat (first | with_reducible exact Ext.refl _ | with_reducible refine Ext.drew ?_ | with_reducible refine Ext.alloc ?_ _)))); clear hF5)
    obtain ⟨A6, c6, hv5, _, _, hg5⟩ := own_form HO5.out
    injection hv5 with ha hb hc
    subst ha
    clear hb hc
    obtain ⟨g, rfl⟩ := hg5 (by omega)
    clear hg5
    go_loopw [7] (fun v7 wr => ∃ k : Nat, k ≤ L.length ∧ v7 = .int .i64 k ∧ Ext w1 wr ∧ wr.ownsRow w1.heap.size 35 2 (.slice (some ⟨g, 0, none⟩) pts.length c5) pts.length (spanCells (hullK L pts k))) (fun v7 _ => L.length - (intOf v7).toNat)
    case atStart => exact ⟨0, by omega, rfl, HE5.out, by rw [HH0.out]; exact HO5.out⟩
    case round =>
      obtain ⟨k, hk, rfl, hE, hown⟩ := hrel
      have HE := Lib.hid hE
      have Hown := Lib.hid hown
      by_cases hlt : (k : Int) < L.length
      · have HHk := Lib.hid (HHs.out k (by omega))
        have HLk := Lib.hid (HHl.out k)
        have HBk := Lib.hid (HBd.out k (by omega))
        generalize hullK L pts k = hk0 at *
        obtain ⟨wo, rfl⟩ : ∃ wo : World, wo = wr := ⟨_, rfl⟩
        clear hE hown
        go_wp2_with fail
        go_loopw [8] (fun v8 wr => ∃ j : Nat, j ≤ pts.length ∧ v8 = .int .i64 j ∧ Ext w1 wr ∧ wr.ownsRow w1.heap.size 35 2 (.slice (some ⟨g, 0, none⟩) pts.length c5) pts.length (spanCells (hullStep hk0 (L.getD k default) j))) (fun v8 _ => pts.length - (intOf v8).toNat)
        case atStart => exact ⟨0, by omega, rfl, HE.out, by rw [hullStep_zero]; exact Hown.out⟩
        case round =>
          obtain ⟨j, hj, rfl, hE2, hown2⟩ := hrel
          have HE2 := Lib.hid hE2
          have Hown2 := Lib.hid hown2
          by_cases hlj : (j : Int) < pts.length
          · obtain ⟨bb', boff', pA2, pc2, pts2, r2, he, hbb2, hd1, hd2, hrow2, hget2⟩ := (HO1.out.ext hE2).get (show k < L.length by omega)
            injection he with he
            injection he with he1 he2
            subst he1
            subst he2
            have hpl2 := HBk.out
            rw [hget2.out] at hpl2
            simp only at hpl2
            have hjp : (j : Int) < pts2.length := by have := HPl.out; omega
            obtain ⟨sb, soff, x, y, rfl, hsb, hs1, hs2, hxy⟩ := (hrow2.spans rfl).get (show j < pts2.length by omega)
            obtain ⟨hg1, hg2⟩ := own_block hown2
            obtain ⟨x0, y0, hl1, hl2, hlx⟩ := ownSpans_get hown2 (k := j) (by omega)
            have hfr1 := (hown2.frozenAt (j * 2))
            have hfr2 := (hown2.frozenAt (j * 2 + 1))
            have HSt := Lib.hid (show hullStep hk0 (L.getD k default) (j + 1) = (hullStep hk0 (L.getD k default) j).set j (min x0 x, max y0 y) by
              rw [hullStep_succ (by rw [HLk.out]; omega), hlx.out, hget2.out, hxy.out])
            obtain ⟨u, hu, hur⟩ := min2_run Try.prog x0 x
            obtain ⟨v, hv, hvr⟩ := max2_run Try.prog y0 y
            have HSt2 := Lib.hid (show hullStep hk0 (L.getD k default) (j + 1) = (hullStep hk0 (L.getD k default) j).set j (u, v) by rw [HSt.out, hu, hv])
            clear hE2 hown2 hrow2 hget2 hpl2 hlx hxy hu hv
            go_wp2_with fail
            refine wp_region_tail2 34 (by kernel_rfl) (by kernel_rfl) (fun T HT => ?_)
            simp only [List.take_succ_cons, List.take_zero]
            repeat (go_big_quiet_step (fail))
            with_reducible refine wpQuiet_nil ?_
            with_reducible refine HT.out _ ?_
            simp only [List.drop_succ_cons, List.drop_zero]
            clear HT T
            go_wp2
            go_roundw
            case rel => exact ⟨j + 1, by omega, by go_num, ((HE2.out.setCell (p := ⟨g, j * 2, none⟩) hg1 _).setCell (p := ⟨g, j * 2 + 1, none⟩) hg1 _).drew, by rw [HSt2.out]; exact (ownSpans_set (k := j) Hown2.out _ _).drew⟩
            case measure => simp [intOf]; omega
          · obtain rfl : j = pts.length := by omega
            clear hE2 hown2
            go_wp2
            go_roundw
            case rel => exact ⟨k + 1, by omega, by go_num, HE2.out, by rw [HHk.out, HLk.out]; exact Hown2.out⟩
            case measure => simp [intOf]; omega
      · obtain rfl : k = L.length := by omega
        clear hE hown
        go_wp2
        go_ret2
        have hI := (Spans.of_own Hown.out).2
        rw [← HPB.out, HR.out] at hI
        have hlen : l.length = pts.length := by rw [← HR.out, HPB.out, HHl.out]
        exact ⟨some ⟨g, 0, none⟩, ⟨c5, by rw [hlen]; rfl⟩, hI, HE1.out.trans HE.out⟩
  · rw [if_neg hk] at hr
    have HO := Lib.hid (knownB_err iA jA gA ic jc gc p _ _ (h.ext HX.out) rfl hk)
    injection hr with h1 h2
    subst h1
    rw [h2] at HO hk
    have hc0 : (c != 0) = true := by simpa using hk
    clear hk h2 h
    go_enter Try.func41, Try.ntmps41
    go_wp2_with fail
    refine HO.out.mono ?_
    rintro e w1 ⟨rfl, hE1⟩
    have HE1 := Lib.hid hE1
    clear hE1
    go_wp2
    go_ret2
    exact ⟨none, 0, rfl, fun k hk => by simp at hk, HX.out.trans HE1.out⟩
end Go.Proofs.Ytbpilgflejdhaaa
/-! Exams: the walk over the reference's Grade. -/
namespace Go.Proofs.Ytbpilgflejdhaaa
open Go.RowKit

set_option maxHeartbeats 4000000 in
set_option maxRecDepth 100000 in
theorem gradeR_any (iA jA gA : Option Addr) (ic jc gc : Nat) (p : Paper) (lo hi c : Int) (w : World) (h : PaperAt w iA jA gA p) (hr : gradeMod p = ((lo, hi), c)) :
    Calls Try.prog 42 #[.agg #[.slice iA p.items.length ic, .slice jA p.judges.length jc, .int .i64 p.wrong, .slice gA p.grades.length gc]] w fun e w' => e = .returned (.tuple #[.agg #[.int .i64 lo, .int .i64 hi], .int .i64 c]) ∧ Ext w w' := by
  have HX := Lib.hid ((Ext.of_alloc w (.cells #[.slice iA p.items.length ic, .slice jA p.judges.length jc, .int .i64 p.wrong, .slice gA p.grades.length gc] 26)).alloc (.cells #[.int .i64 0, .int .i64 0] 35))
  unfold gradeMod at hr
  by_cases hk : knownE p true = 0
  · rw [if_pos hk] at hr
    obtain ⟨r1, r2, hres⟩ : ∃ r1 r2, (openM p).res = (r1, r2) := ⟨_, _, rfl⟩
    have HO := Lib.hid (rangeB_any iA jA gA ic jc gc p r1 r2 0 _ (h.ext HX.out) (by unfold rangeM; rw [if_pos hk, hres]))
    have hV := valid_of (knownE_ok hk).1
    injection hr with hr hc
    injection hr with h1 h2
    subst hc
    rw [hres, gradeP_gradeOf hV] at h1 h2
    simp only at h1 h2
    have HC1 := Lib.hid (show ∀ W, Ext w W → Calls Try.prog 29 #[.agg #[.slice iA p.items.length ic, .slice jA p.judges.length jc, .int .i64 p.wrong, .slice gA p.grades.length gc], .int .i64 r1] W fun e w' => e = .returned (.int .i64 lo) ∧ Ext W w' from fun W e => by
      rw [← h1]; exact gradeOf_any iA jA gA ic jc gc p r1 W (h.ext e))
    have HC2 := Lib.hid (show ∀ W, Ext w W → Calls Try.prog 29 #[.agg #[.slice iA p.items.length ic, .slice jA p.judges.length jc, .int .i64 p.wrong, .slice gA p.grades.length gc], .int .i64 r2] W fun e w' => e = .returned (.int .i64 hi) ∧ Ext W w' from fun W e => by
      rw [← h2]; exact gradeOf_any iA jA gA ic jc gc p r2 W (h.ext e))
    clear hk h1 h2 h hres
    go_enter Try.func42, Try.ntmps42
    go_wp2_with fail
    refine HO.out.mono ?_
    rintro e w1 ⟨rfl, hE1⟩
    have HX2 := Lib.hid (Ext.of_alloc w1 (.cells #[.int .i64 r1, .int .i64 r2] 35))
    obtain ⟨w2, hw2⟩ : ∃ w2, w1.alloc (.cells #[.int .i64 r1, .int .i64 r2] 35) = w2 := ⟨_, rfl⟩
    rw [hw2] at HX2
    have HE2 := Lib.hid ((HX.out.trans hE1).trans HX2.out)
    have hbk : Blk w2 w1.heap.size 35 #[.int .i64 r1, .int .i64 r2] := by rw [← hw2]; exact Blk.new _ _ _
    have HK := Lib.hid (show ∀ W, Ext w2 W → ((W.cell? ⟨w.heap.size, 0, none⟩ = some (.slice iA p.items.length ic) ∧ W.cell? ⟨w.heap.size, 1, none⟩ = some (.slice jA p.judges.length jc) ∧ W.cell? ⟨w.heap.size, 2, none⟩ = some (.int .i64 p.wrong) ∧ W.cell? ⟨w.heap.size, 3, none⟩ = some (.slice gA p.grades.length gc) ∧ W.cell? ⟨w1.heap.size, 0, none⟩ = some (.int .i64 r1) ∧ W.cell? ⟨w1.heap.size, 1, none⟩ = some (.int .i64 r2)) ∧
        W.cell? ⟨w.heap.size + 1, 0, none⟩ = some (.int .i64 0) ∧ W.cell? ⟨w.heap.size + 1, 1, none⟩ = some (.int .i64 0) ∧ W.frozen? ⟨w.heap.size + 1, 0, none⟩ = false ∧ W.frozen? ⟨w.heap.size + 1, 1, none⟩ = false) from fun W e => by
      obtain ⟨b1, b2, _, f2, _⟩ := box2 ((hE1.trans HX2.out).trans e)
      exact ⟨⟨b1 0, b1 1, b1 2, b1 3, (hbk.ext e).cell 0, (hbk.ext e).cell 1⟩, b2 0, b2 1, f2 0, f2 1⟩)
    have HF := Lib.hid (show ∀ W W', Ext w2 W → Below w.heap.size W W' → Ext w W' from fun W W' e hb => Below.trans (HE2.out.trans e) hb)
    have hlt2 : w.heap.size + 1 < w1.heap.size := by have := hE1.size; simp at this; omega
    have hne1 : ¬ w1.heap.size = w.heap.size + 1 := by omega
    have hne2 : ¬ w.heap.size + 1 = w1.heap.size := by omega
    clear hE1 hbk
    go_wp2_with fail
    go_region_held3 (fun W => W.cell? ⟨w.heap.size, 0, none⟩ = some (.slice iA p.items.length ic) ∧ W.cell? ⟨w.heap.size, 1, none⟩ = some (.slice jA p.judges.length jc) ∧ W.cell? ⟨w.heap.size, 2, none⟩ = some (.int .i64 p.wrong) ∧ W.cell? ⟨w.heap.size, 3, none⟩ = some (.slice gA p.grades.length gc) ∧ W.cell? ⟨w1.heap.size, 0, none⟩ = some (.int .i64 r1) ∧ W.cell? ⟨w1.heap.size, 1, none⟩ = some (.int .i64 r2))
      (first | (refine (HK.out _ ?_).1; ((repeat (first | with_reducible exact Ext.refl _ | with_reducible exact HE5.out | with_reducible exact HE6.out | with_reducible refine Ext.drew ?_ | with_reducible refine Ext.alloc ?_ _)); done)) | go_keep)
      (first
        | ((with_reducible refine (HC1.out _ (HE2.out.trans (by repeat (first | with_reducible exact Ext.refl _ | with_reducible exact HE5.out | with_reducible exact HE6.out | with_reducible refine Ext.drew ?_ | with_reducible refine Ext.alloc ?_ _)))).mono ?_); rintro e w5 ⟨rfl, hE5⟩; have HE5 : Hid (Ext w2 w5) := Lib.hid (Ext.trans (by repeat (first | with_reducible exact Ext.refl _ | with_reducible exact HE5.out | with_reducible exact HE6.out | with_reducible refine Ext.drew ?_ | with_reducible refine Ext.alloc ?_ _)) hE5); obtain ⟨⟨a0, a1, a2, a3, a4, a5⟩, z0, z1, zf0, zf1⟩ := HK.out _ HE5.out; clear hE5)
        | ((with_reducible refine (HC2.out _ (HE2.out.trans (by repeat (first | with_reducible exact Ext.refl _ | with_reducible exact HE5.out | with_reducible exact HE6.out | with_reducible refine Ext.drew ?_ | with_reducible refine Ext.alloc ?_ _)))).mono ?_); rintro e w6 ⟨rfl, hE6⟩; have HE6 : Hid (Ext w2 w6) := Lib.hid (Ext.trans (by repeat (first | with_reducible exact Ext.refl _ | with_reducible exact HE5.out | with_reducible exact HE6.out | with_reducible refine Ext.drew ?_ | with_reducible refine Ext.alloc ?_ _)) hE6); obtain ⟨⟨a0, a1, a2, a3, a4, a5⟩, z0, z1, zf0, zf1⟩ := HK.out _ HE6.out; clear hE6))
    all_goals
      go_wp2
      refine bodyPost_ret (v := .tuple #[.agg #[.int .i64 lo, .int .i64 hi], .int .i64 0]) (by simp [results, Try.results42, go_sem, z0, z1]) rfl ⟨rfl, ?_⟩
      first
        | exact HF.out _ _ HE5.out (((Below.refl _ _).setCell (by simp) _).setCell (by simp) _)
        | exact HF.out _ _ HE6.out (((Below.refl _ _).setCell (by simp) _).setCell (by simp) _)
        | exact HF.out _ _ HE5.out (((Below.refl _ _).setCell (by simp) _).setCell (by simp) _).drew
        | exact HF.out _ _ HE6.out (((Below.refl _ _).setCell (by simp) _).setCell (by simp) _).drew
  · rw [if_neg hk] at hr
    have HO := Lib.hid (rangeB_any iA jA gA ic jc gc p 0 0 c _ (h.ext HX.out) (by unfold rangeM; rw [if_neg hk]; injection hr with _ hc; rw [hc]))
    injection hr with hr hc
    injection hr with h1 h2
    subst h1; subst h2
    rw [hc] at hk
    have hc0 : (c != 0) = true := by simpa using hk
    clear hk hc h
    go_enter Try.func42, Try.ntmps42
    go_wp2_with fail
    refine HO.out.mono ?_
    rintro e w1 ⟨rfl, hE1⟩
    have HE1 := Lib.hid hE1
    obtain ⟨b1, b2, f1, f2, hlt⟩ := box2 (hE1.trans (Ext.of_alloc w1 (.cells #[.int .i64 0, .int .i64 0] 35)))
    have HF := Lib.hid (show ∀ W, Below w.heap.size (w1.alloc (.cells #[.int .i64 0, .int .i64 0] 35)) W → Ext w W from fun W hb => Below.trans ((HX.out.trans hE1).alloc _) hb)
    clear hE1
    go_wp2
    refine bodyPost_ret (v := .tuple #[.agg #[.int .i64 0, .int .i64 0], .int .i64 c]) (by simp [results, Try.results42, go_sem, b2]) rfl ⟨rfl, HF.out _ ?_⟩
    exact ((Below.refl _ _).setCell (by simp) _).setCell (by simp) _
end Go.Proofs.Ytbpilgflejdhaaa
