/- Exams: the reference's Check. -/
import Derived.Test.YtbpilgflejdhaaaExD
namespace Go.Proofs.Ytbpilgflejdhaaa
open Go.RowKit

set_option maxHeartbeats 2000000 in
theorem checkR_head (iA jA gA : Option Addr) (ic jc gc : Nat) (p : Paper) (w : World) (_hil : p.items.length ≤ 9223372036854775807) (_hjl : p.judges.length ≤ 9223372036854775807) (_hgl : p.grades.length ≤ 9223372036854775807) (hh : headOk p = false) :
    Calls Try.prog 20 #[.agg #[.slice iA p.items.length ic, .slice jA p.judges.length jc, .int .i64 p.wrong, .slice gA p.grades.length gc]] w fun e w' => e = .returned (.int .i64 90) ∧ Ext w w' := by
  rcases headOk_false hh with h | ⟨h, h2⟩ | ⟨h, h2, h3⟩ | ⟨h, h2, h3, h4⟩
  all_goals
    clear hh
    generalize p.wrong = W at *
    generalize p.items.length = il at *
    generalize p.judges.length = jl at *
    generalize p.grades.length = gl at *
    go_enter Try.func20, Try.ntmps20
    go_wp2_with (go_at_call 52; refine (withinR' _ _ _ _).mono ?_; rintro e w' ⟨rfl, rfl⟩)
    go_ret
    exact ⟨rfl, Ext.of_alloc _ _⟩

set_option maxHeartbeats 8000000 in
set_option maxRecDepth 100000 in
theorem checkR_any (iA jA gA : Option Addr) (ic jc gc : Nat) (p : Paper) (w : World) (h : PaperAt w iA jA gA p) :
    Calls Try.prog 20 #[.agg #[.slice iA p.items.length ic, .slice jA p.judges.length jc, .int .i64 p.wrong, .slice gA p.grades.length gc]] w fun e w' => e = .returned (.int .i64 (checkE p)) ∧ Ext w w' := by
  cases hh : headOk p
  · rw [checkE_head hh]
    exact checkR_head iA jA gA ic jc gc p w h.il h.jl h.gl hh
  have hi := h.items
  have hj := h.judges
  have hg := h.grades
  obtain ⟨hh1, hh2, hh3, hh4⟩ := headOk_true hh
  have hil : p.items.length ≤ 4 := by have := wi_true hh1; omega
  have HHH := Lib.hid hh
  have hJ4 : (p.judges.length : Int) ≤ 4 := by omega
  have hG5 : (p.grades.length : Int) ≤ 5 := by omega
  clear h hh
  have HE1 := Lib.hid (fun k => checkE_item (p := p) (k := k))
  have HE2 := Lib.hid (fun k => checkE_judge (p := p) (k := k))
  have HE3 := Lib.hid (fun k => checkE_grade (p := p) (k := k))
  have HE4 := Lib.hid (checkE_ok (p := p) HHH.out)
  generalize checkE p = ce at *
  obtain ⟨I, J, W, G⟩ := p
  simp only at *
  go_enter Try.func20, Try.ntmps20
  go_wp2_with (go_at_call 52; refine (withinR' _ _ _ _).mono ?_; rintro e w' ⟨rfl, rfl⟩)
  -- the items
  go_loopw [3] (fun i wr' => ∃ k : Nat, k ≤ I.length ∧ i = .int .i64 k ∧ Ext (w.alloc (.cells #[.slice iA I.length ic, .slice jA J.length jc, .int .i64 W, .slice gA G.length gc] 26)) wr' ∧ allTo (fun j => itemOk (I.getD j default)) k) (fun i _ => I.length - (intOf i).toNat)
  case atStart => exact ⟨0, by omega, rfl, Ext.refl _, allTo_zero _⟩
  case round =>
    obtain ⟨k, hk, rfl, hE, hs⟩ := hrel
    have HS := Lib.hid hs
    have HE := Lib.hid hE
    have hbox := hE.box
    have hir := hi.ext hE.unalloc
    clear hs hE
    by_cases hlt : k < I.length
    · obtain ⟨b, off, x, y, rfl, hb, hc1, hc2, hx, hy⟩ := hir.get hlt
      have HI := Lib.hid (show itemOk (I.getD k default) = (wi x 0 10 && wi y 0 30) by unfold itemOk; rw [hx.out, hy.out])
      cases h1 : wi x 0 10
      · rw [h1] at HI
        go_wp2_with (go_at_call 52; refine (withinR' _ _ _ _).mono ?_; rintro e w' ⟨rfl, rfl⟩)
        go_ret
        exact ⟨ret_int (HE1.out k hlt HI.out).symm, HE.out.unalloc⟩
      · rw [h1] at HI
        cases h2 : wi y 0 30
        · rw [h2] at HI
          go_wp2_with (go_at_call 52; refine (withinR' _ _ _ _).mono ?_; rintro e w' ⟨rfl, rfl⟩)
          go_ret
          exact ⟨ret_int (HE1.out k hlt HI.out).symm, HE.out.unalloc⟩
        · rw [h2] at HI
          go_wp2_with (go_at_call 52; refine (withinR' _ _ _ _).mono ?_; rintro e w' ⟨rfl, rfl⟩)
          go_roundw
          case rel => exact ⟨k + 1, by omega, by go_num, HE.out, allTo_succ HS.out HI.out⟩
          case measure => simp [intOf]; omega
    · have HA1 := Lib.hid (show allTo (fun j => itemOk (I.getD j default)) I.length from fun j hj => HS.out j (by omega))
      clear HS hir hi
      go_wp2
      -- the judges
      obtain ⟨w1, hw1⟩ : ∃ w1 : World, w1 = wr := ⟨_, rfl⟩
      subst hw1
      go_loopw [4, 5, 6] (fun i _ _ wr' => ∃ k : Nat, k ≤ J.length ∧ i = .int .i64 k ∧ Ext (w.alloc (.cells #[.slice iA I.length ic, .slice jA J.length jc, .int .i64 W, .slice gA G.length gc] 26)) wr' ∧ allTo (fun j => judgeOk I.length (J.getD j default)) k) (fun i _ _ _ => J.length - (intOf i).toNat)
      case atStart => exact ⟨0, by omega, rfl, HE.out, allTo_zero _⟩
      case round =>
        clear hbox HE hlt hk
        obtain ⟨k, hk, rfl, hE, hs⟩ := hrel
        have HS := Lib.hid hs
        have HE := Lib.hid hE
        have hbox := hE.box
        have hjr := hj.ext hE.unalloc
        have hwl := hE.lt
        clear hs hE
        by_cases hlt : k < J.length
        · obtain ⟨b, off, lo, hi', err, ma, mA, mc, rfl, hb, hc1, hc2, hc3, hc4, hma, hml, hx⟩ := hjr.get hlt
          cases hj1 : judgeOk1 I.length ⟨lo, hi', err, ma⟩
          · have HF := Lib.hid (show judgeOk I.length (J.getD k default) = false by rw [hx.out, judgeOk, hj1]; rfl)
            rcases judgeOk1_false hj1 with q | ⟨q, q2⟩ | ⟨q, q2, q3⟩ | ⟨q, q2, q3, q4⟩ | ⟨q, q2, q3, q4, q5, q6⟩
            all_goals
              clear hj1
              try clear q6
              go_wp2_with (go_at_call 52; refine (withinR' _ _ _ _).mono ?_; rintro e w' ⟨rfl, rfl⟩)
              go_ret
              exact ⟨ret_int (HE2.out k hlt HF.out).symm, (HE.out.unalloc).alloc _⟩
          · obtain ⟨q, q2, q3, q4, q5, q6⟩ := judgeOk1_true hj1
            clear q6
            have HJ1 := Lib.hid hj1
            clear hj1
            go_wp2_with (go_at_call 52; refine (withinR' _ _ _ _).mono ?_; rintro e w' ⟨rfl, rfl⟩)
            obtain ⟨w2, hw2⟩ : ∃ w2 : World, w2 = wr := ⟨_, rfl⟩
            subst hw2
            go_loopw [6] (fun i wr' => ∃ m : Nat, m ≤ ma.length ∧ i = .int .i64 m ∧ Ext (w2.alloc (.cells #[.int .i64 lo, .int .i64 hi', .int .i64 err, .slice mA ma.length mc] 37)) wr' ∧ allTo (fun j => markOk (ma.getD j 0)) m) (fun i _ => ma.length - (intOf i).toNat)
            case atStart => exact ⟨0, by omega, rfl, Ext.refl _, allTo_zero _⟩
            case round =>
              obtain ⟨m, hm, rfl, hE2, hs2⟩ := hrel
              have HS2 := Lib.hid hs2
              have HE2' := Lib.hid hE2
              have hbox2 := hE2.box
              have hbox1 := (HE.out.trans hE2.unalloc).box
              have hmr := hma.ext hE2.unalloc
              clear hs2 hE2 hbox
              by_cases hlm : m < ma.length
              · obtain ⟨b2, o2, x, rfl, _, hcm, hxm⟩ := hmr.get hlm
                cases hx1 : wi x (-1) 50
                · have HX := Lib.hid (show markOk (ma.getD m 0) = false by rw [hxm.out]; exact hx1)
                  go_wp2_with (go_at_call 52; refine (withinR' _ _ _ _).mono ?_; rintro e w' ⟨rfl, rfl⟩)
                  go_ret
                  exact ⟨ret_int (HE2.out k hlt (by rw [hx.out, judgeOk, HJ1.out]; exact all_getD_false hlm HX.out)).symm, HE.out.unalloc.trans HE2'.out.unalloc⟩
                · have HX := Lib.hid (show markOk (ma.getD m 0) = true by rw [hxm.out]; exact hx1)
                  go_wp2_with (go_at_call 52; refine (withinR' _ _ _ _).mono ?_; rintro e w' ⟨rfl, rfl⟩)
                  go_roundw
                  case rel => exact ⟨m + 1, by omega, by go_num, HE2'.out, allTo_succ HS2.out HX.out⟩
                  case measure => simp [intOf]; omega
              · have HX := Lib.hid (show judgeOk I.length (J.getD k default) = true by rw [hx.out, judgeOk, HJ1.out]; exact (all_getD _ 0 _).2 (fun j hj => HS2.out j (by have : j < ma.length := hj; omega)))
                go_wp2
                go_roundw
                case rel => exact ⟨k + 1, by omega, by go_num, HE.out.trans HE2'.out.unalloc, allTo_succ HS.out HX.out⟩
                case measure => simp [intOf]; omega
        · have HA2 := Lib.hid (show allTo (fun j => judgeOk I.length (J.getD j default)) J.length from fun j hj => HS.out j (by omega))
          clear HS hjr hj
          go_wp2
          obtain ⟨w2, hw2⟩ : ∃ w2 : World, w2 = wr := ⟨_, rfl⟩
          subst hw2
          -- the grades
          go_loopw [7] (fun i wr' => ∃ k : Nat, k ≤ G.length ∧ i = .int .i64 k ∧ Ext (w.alloc (.cells #[.slice iA I.length ic, .slice jA J.length jc, .int .i64 W, .slice gA G.length gc] 26)) wr' ∧ allTo (gradeOk G) k) (fun i _ => G.length - (intOf i).toNat)
          case atStart => exact ⟨0, by omega, rfl, HE.out, allTo_zero _⟩
          case round =>
            clear hbox HE hlt hk
            obtain ⟨k, hk, rfl, hE, hs⟩ := hrel
            have HS := Lib.hid hs
            have HE := Lib.hid hE
            have hbox := hE.box
            have hgr := hg.ext hE.unalloc
            clear hs hE
            by_cases hlt : k < G.length
            · obtain ⟨b, off, x, rfl, hb, hc1, hx⟩ := hgr.get hlt
              cases h1 : wi x 0 1200
              · have HF := Lib.hid (show gradeOk G k = false by rw [gradeOk, hx.out, h1]; rfl)
                go_wp2
                go_quiet ((go_at_call 52; exact Calls.quiet_of_same (withinR _ _ _ _)))
                go_wp2
                go_ret
                exact ⟨ret_int (HE3.out k hlt HF.out).symm, HE.out.unalloc.drewN _⟩
              · by_cases hk0 : 0 < k
                · obtain ⟨b', off', x', hA', hb', hc1', hx'⟩ := hgr.get (show k - 1 < G.length by omega)
                  simp only [Option.some.injEq, Addr.mk.injEq, and_true] at hA'
                  obtain ⟨rfl, rfl⟩ := hA'
                  have hkk : (0 : Int) < (k : Int) := by omega
                  have e2 : IntKind.i64.wrap ((k : Int) - 1) = (k : Int) - 1 := IntWalk.i64_in _ (by omega)
                  have e3 : ((k : Int) - 1).toNat = k - 1 := by omega
                  have e4 : (0 : Int) ≤ (k : Int) - 1 := by omega
                  have e5 : (k : Int) - 1 < (G.length : Int) := by omega
                  by_cases hlx : x' < x
                  · have HX := Lib.hid (show gradeOk G k = true by rw [gradeOk, hx.out, hx'.out, h1]; simp [hlx])
                    go_wp2
                    go_quiet ((go_at_call 52; exact Calls.quiet_of_same (withinR _ _ _ _)))
                    clear e2 e3
                    go_wp2
                    go_roundw
                    case rel => exact ⟨k + 1, by omega, by go_num, HE.out.drewN _, allTo_succ HS.out HX.out⟩
                    case measure => simp [intOf]; omega
                  · have HX := Lib.hid (show gradeOk G k = false by rw [gradeOk, hx.out, hx'.out, h1]; simp [hlx]; omega)
                    go_wp2
                    go_quiet ((go_at_call 52; exact Calls.quiet_of_same (withinR _ _ _ _)))
                    clear e2 e3
                    go_wp2
                    go_ret
                    exact ⟨ret_int (HE3.out k hlt HX.out).symm, HE.out.unalloc.drewN _⟩
                · have HX := Lib.hid (show gradeOk G k = true by rw [gradeOk, hx.out, h1, show k = 0 by omega]; rfl)
                  have hd : decide ((0 : Int) < (k : Int)) = false := by simp; omega
                  go_wp2
                  go_quiet ((go_at_call 52; exact Calls.quiet_of_same (withinR _ _ _ _)))
                  go_wp2
                  go_roundw
                  case rel => exact ⟨k + 1, by omega, by go_num, HE.out.drewN _, allTo_succ HS.out HX.out⟩
                  case measure => simp [intOf]; omega
            · go_wp2
              go_ret
              exact ⟨ret_int (HE4.out HA1.out HA2.out (fun j hj => HS.out j (by omega))).symm, HE.out.unalloc⟩
end Go.Proofs.Ytbpilgflejdhaaa
