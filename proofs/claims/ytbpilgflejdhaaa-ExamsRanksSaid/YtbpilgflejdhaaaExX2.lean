/- Exams: the walks over Far, ready, Example. -/
import Derived.Test.YtbpilgflejdhaaaExX
namespace Go.Proofs.Ytbpilgflejdhaaa
open Go.RowKit

set_option maxHeartbeats 2000000 in
theorem far_any (iA jA gA : Option Addr) (ic jc gc : Nat) (p : Paper) (w : World) (h : PaperAt w iA jA gA p) :
    Calls Try.prog 13 #[.agg #[.slice iA p.items.length ic, .slice jA p.judges.length jc, .int .i64 p.wrong, .slice gA p.grades.length gc]] w fun e w' => e = .returned (.bool (farM p)) ∧ Ext w w' := by
  have HX := Lib.hid ((Ext.of_alloc w (.cells #[.slice iA p.items.length ic, .slice jA p.judges.length jc, .int .i64 p.wrong, .slice gA p.grades.length gc] 26)))
  have hil := h.il
  have hjl := h.jl
  have hgl := h.gl
  have HT := Lib.hid (farM_true (p := p))
  have HF := Lib.hid (farM_false (p := p))
  have HC := Lib.hid (fun W (e : Ext w W) => checkR_any iA jA gA ic jc gc p W (h.ext e))
  have HJ := Lib.hid (fun W (e : Ext w W) => (h.judges.ext e))
  generalize farM p = fm at *
  clear h
  by_cases h1 : 20 < p.items.length
  · have h1' : (20 : Int) < p.items.length := by omega
    go_enter Try.func13, Try.ntmps13
    go_wp2
    go_ret
    exact ⟨ret_bool (HT.out (.inl h1)).symm, HX.out⟩
  · have h1' : (p.items.length : Int) ≤ 20 := by omega
    by_cases h2 : 20 < p.judges.length
    · have h2' : (20 : Int) < p.judges.length := by omega
      go_enter Try.func13, Try.ntmps13
      go_wp2
      go_ret
      exact ⟨ret_bool (HT.out (.inr (.inl h2))).symm, HX.out⟩
    · have h2' : (p.judges.length : Int) ≤ 20 := by omega
      by_cases h3 : 20 < p.grades.length
      · have h3' : (20 : Int) < p.grades.length := by omega
        go_enter Try.func13, Try.ntmps13
        go_wp2
        go_ret
        exact ⟨ret_bool (HT.out (.inr (.inr (.inl h3)))).symm, HX.out⟩
      · have h3' : (p.grades.length : Int) ≤ 20 := by omega
        go_enter Try.func13, Try.ntmps13
        go_wp2_with fail
        go_loop [3] (fun cn => ∃ k : Nat, k ≤ p.judges.length ∧ cn = .int .i64 k ∧ ∀ j, j < k → ¬ 20 < (p.judges.getD j default).marks.length) (fun cn => p.judges.length - (intOf cn).toNat)
        case atStart => exact ⟨0, by omega, rfl, fun j h => by omega⟩
        case round =>
          obtain ⟨k, hk, rfl, hs⟩ := hrel
          have HS := Lib.hid hs
          clear hs
          by_cases hlt : k < p.judges.length
          · obtain ⟨b, off, lo, hi, err, ma, mA, mc, rfl, hb, hc1, hc2, hc3, hc4, hma, hml, hx⟩ := (HJ.out _ HX.out).get hlt
            clear hma
            by_cases hm : 20 < ma.length
            · have hm' : (20 : Int) < ma.length := by omega
              go_wp2
              go_ret
              exact ⟨ret_bool (HT.out (.inr (.inr (.inr (.inl ⟨k, hlt, by rw [hx.out]; exact hm⟩))))).symm, HX.out⟩
            · have hm' : (ma.length : Int) ≤ 20 := by omega
              go_wp2
              go_round
              case rel => exact ⟨k + 1, by omega, by go_num, fun j hj => by
                by_cases e : j = k
                · rw [e, hx.out]; exact hm
                · exact HS.out j (by omega)⟩
              case measure => simp [intOf]; omega
          · obtain rfl : k = p.judges.length := by omega
            cases hv : validB p
            · have HV := Lib.hid hv
              have HCk := Lib.hid (HC.out _ HX.out)
              rw [show checkE p = 90 by simp [checkE, hv]] at HCk
              clear hv
              go_wp2_with fail
              refine HCk.out.mono ?_
              rintro e w1 ⟨rfl, hE1⟩
              have hbox := hE1.box
              have HE1 := Lib.hid (HX.out.trans hE1)
              clear hE1
              go_wp2
              go_ret
              exact ⟨ret_bool (HF.out h1 h2 h3 HS.out (by rw [HV.out]; intro h; cases h)).symm, HE1.out⟩
            · have HV := Lib.hid hv
              have HCk := Lib.hid (HC.out _ HX.out)
              rw [show checkE p = 0 by simp [checkE, hv]] at HCk
              clear hv
              by_cases h5 : 3 < p.judges.length
              · have h5' : (3 : Int) < p.judges.length := by omega
                go_wp2_with fail
                refine HCk.out.mono ?_
                rintro e w1 ⟨rfl, hE1⟩
                have hbox := hE1.box
                have HE1 := Lib.hid (HX.out.trans hE1)
                clear hE1
                go_wp2
                go_ret
                exact ⟨ret_bool (HT.out (.inr (.inr (.inr (.inr ⟨HV.out, h5⟩))))).symm, HE1.out⟩
              · have h5' : (p.judges.length : Int) ≤ 3 := by omega
                go_wp2_with fail
                refine HCk.out.mono ?_
                rintro e w1 ⟨rfl, hE1⟩
                have hbox := hE1.box
                have HE1 := Lib.hid (HX.out.trans hE1)
                clear hE1
                go_wp2
                go_ret
                exact ⟨ret_bool ((decide_eq_false (by omega)).trans (HF.out h1 h2 h3 HS.out (fun _ => h5)).symm), HE1.out⟩

def readyM (p : Paper) : Bool := !farM p && validB p
set_option maxHeartbeats 1000000 in
theorem ready_any (iA jA gA : Option Addr) (ic jc gc : Nat) (p : Paper) (w : World) (h : PaperAt w iA jA gA p) :
    Calls Try.prog 18 #[.agg #[.slice iA p.items.length ic, .slice jA p.judges.length jc, .int .i64 p.wrong, .slice gA p.grades.length gc]] w fun e w' => e = .returned (.bool (readyM p)) ∧ Ext w w' := by
  have HX := Lib.hid ((Ext.of_alloc w (.cells #[.slice iA p.items.length ic, .slice jA p.judges.length jc, .int .i64 p.wrong, .slice gA p.grades.length gc] 26)))
  have HFa := Lib.hid (far_any iA jA gA ic jc gc p _ (h.ext HX.out))
  have HC := Lib.hid (fun W (e : Ext w W) => checkR_any iA jA gA ic jc gc p W (h.ext e))
  have HR := Lib.hid (show readyM p = (!farM p && validB p) from rfl)
  generalize readyM p = rm at *
  clear h
  cases hf : farM p
  · rw [hf] at HFa HR
    clear hf
    cases hv : validB p
    · rw [hv] at HR
      have HCk := HC.out
      rw [show checkE p = 90 by simp [checkE, hv]] at HCk
      have HCk := Lib.hid HCk
      clear hv
      go_enter Try.func18, Try.ntmps18
      go_wp2_with fail
      refine HFa.out.mono ?_
      rintro e w1 ⟨rfl, hE1⟩
      have hbox := hE1.box
      have HE1 := Lib.hid (HX.out.trans hE1)
      clear hE1
      go_wp2_with fail
      refine (HCk.out _ HE1.out).mono ?_
      rintro e w2 ⟨rfl, hE2⟩
      have HE2 := Lib.hid (HE1.out.trans hE2)
      clear hE2
      go_wp2
      go_ret
      exact ⟨ret_bool HR.out.symm, HE2.out⟩
    · rw [hv] at HR
      have HCk := HC.out
      rw [show checkE p = 0 by simp [checkE, hv]] at HCk
      have HCk := Lib.hid HCk
      clear hv
      go_enter Try.func18, Try.ntmps18
      go_wp2_with fail
      refine HFa.out.mono ?_
      rintro e w1 ⟨rfl, hE1⟩
      have hbox := hE1.box
      have HE1 := Lib.hid (HX.out.trans hE1)
      clear hE1
      go_wp2_with fail
      refine (HCk.out _ HE1.out).mono ?_
      rintro e w2 ⟨rfl, hE2⟩
      have HE2 := Lib.hid (HE1.out.trans hE2)
      clear hE2
      go_wp2
      go_ret
      exact ⟨ret_bool HR.out.symm, HE2.out⟩
  · rw [hf] at HFa HR
    clear hf
    go_enter Try.func18, Try.ntmps18
    go_wp2_with fail
    refine HFa.out.mono ?_
    rintro e w1 ⟨rfl, hE1⟩
    have hbox := hE1.box
    have HE1 := Lib.hid (HX.out.trans hE1)
    clear hE1
    go_wp2
    go_ret
    exact ⟨ret_bool HR.out.symm, HE1.out⟩
end Go.Proofs.Ytbpilgflejdhaaa
