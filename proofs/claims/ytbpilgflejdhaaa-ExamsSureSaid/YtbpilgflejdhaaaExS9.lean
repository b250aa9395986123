/- Exams: the walk over ExamsSure. -/
import Derived.Test.YtbpilgflejdhaaaExX2
import Derived.Test.YtbpilgflejdhaaaExX4
import Derived.Test.YtbpilgflejdhaaaExRv
import Derived.Test.YtbpilgflejdhaaaExLawS
import Derived.Test.YtbpilgflejdhaaaExPts2
import Derived.Test.YtbpilgflejdhaaaExU
import Derived.Test.YtbpilgflejdhaaaQuiet
namespace Go.Proofs.Ytbpilgflejdhaaa
open Go.RowKit

set_option maxHeartbeats 8000000 in
set_option maxRecDepth 100000 in
theorem sure_early (iA jA gA tA : Option Addr) (ic jc gc tc : Nat) (p : Paper) (pts : List Int) (w : World) (h : PaperAt w iA jA gA p) (hT : Ints w tA pts) (hl : pts.length ≤ 9223372036854775807) (hc : readyM p = false ∨ 20 < pts.length ∨ isPossible p pts = false) :
    Calls Try.prog 9 #[.agg #[.slice iA p.items.length ic, .slice jA p.judges.length jc, .int .i64 p.wrong, .slice gA p.grades.length gc], .slice tA pts.length tc] w fun e w' => e = .returned (.bool true) ∧ Ext w w' := by
  have HX := Lib.hid (Ext.of_alloc w (.cells #[.slice iA p.items.length ic, .slice jA p.judges.length jc, .int .i64 p.wrong, .slice gA p.grades.length gc] 26))
  have HB := Lib.hid (show ∀ W, Ext (w.alloc (.cells #[.slice iA p.items.length ic, .slice jA p.judges.length jc, .int .i64 p.wrong, .slice gA p.grades.length gc] 26)) W → (W.cell? ⟨w.heap.size, 0, none⟩ = some (.slice iA p.items.length ic) ∧ W.cell? ⟨w.heap.size, 1, none⟩ = some (.slice jA p.judges.length jc) ∧ W.cell? ⟨w.heap.size, 2, none⟩ = some (.int .i64 p.wrong) ∧ W.cell? ⟨w.heap.size, 3, none⟩ = some (.slice gA p.grades.length gc)) from fun W e => ⟨e.box 0, e.box 1, e.box 2, e.box 3⟩)
  have HR := ready_any iA jA gA ic jc gc p _ (h.ext HX.out)
  cases hr : readyM p
  · rw [hr] at HR
    have HR := Lib.hid HR
    clear hr hc h hT
    go_enter Try.func9, Try.ntmps9
    go_wp2_with fail
    refine (HR.out).mono ?_
    rintro e w1 ⟨rfl, hE1⟩
    have HE1 := Lib.hid (Ext.trans (Ext.refl (w.alloc (.cells #[.slice iA p.items.length ic, .slice jA p.judges.length jc, .int .i64 p.wrong, .slice gA p.grades.length gc] 26))) hE1)
    obtain ⟨k0, k1, k2, k3⟩ := HB.out _ HE1.out
    clear hE1
    go_wp2_with fail
    refine (works_any _).mono ?_
    rintro e w2 ⟨rfl, hE2⟩
    have HE2 := Lib.hid (Ext.trans HE1.out hE2)
    obtain ⟨k0, k1, k2, k3⟩ := HB.out _ HE2.out
    clear hE2
    go_wp2
    go_ret
    exact ⟨rfl, HX.out.trans HE2.out⟩
  · rw [hr] at HR hc
    have HR := Lib.hid HR
    by_cases h20 : 20 < pts.length
    · have hc' : (20 : Int) < pts.length := by omega
      clear hr hc h hT h20
      go_enter Try.func9, Try.ntmps9
      go_wp2_with fail
      refine (HR.out).mono ?_
      rintro e w1 ⟨rfl, hE1⟩
      have HE1 := Lib.hid (Ext.trans (Ext.refl (w.alloc (.cells #[.slice iA p.items.length ic, .slice jA p.judges.length jc, .int .i64 p.wrong, .slice gA p.grades.length gc] 26))) hE1)
      obtain ⟨k0, k1, k2, k3⟩ := HB.out _ HE1.out
      clear hE1
      go_wp2_with fail
      refine (works_any _).mono ?_
      rintro e w2 ⟨rfl, hE2⟩
      have HE2 := Lib.hid (Ext.trans HE1.out hE2)
      obtain ⟨k0, k1, k2, k3⟩ := HB.out _ HE2.out
      clear hE2
      go_wp2
      go_ret
      exact ⟨rfl, HX.out.trans HE2.out⟩
    · have hip : isPossible p pts = false := by
        rcases hc with hc | hc | hc
        · cases hc
        · exact absurd hc h20
        · exact hc
      have hV := valid_of (ready_valid hr).1
      have HIP := Lib.hid (fun W (e : Ext w W) => isPossible_any iA jA gA tA ic jc gc tc p pts W (h.ext e) hV (hT.ext e) hl)
      rw [hip] at HIP
      have ho' : (pts.length : Int) ≤ 20 := by omega
      clear hr hc h hT h20 hip hV
      go_enter Try.func9, Try.ntmps9
      go_wp2_with fail
      refine (HR.out).mono ?_
      rintro e w1 ⟨rfl, hE1⟩
      have HE1 := Lib.hid (Ext.trans (Ext.refl (w.alloc (.cells #[.slice iA p.items.length ic, .slice jA p.judges.length jc, .int .i64 p.wrong, .slice gA p.grades.length gc] 26))) hE1)
      obtain ⟨k0, k1, k2, k3⟩ := HB.out _ HE1.out
      clear hE1
      go_wp2_with fail
      refine (HIP.out _ (HX.out.trans HE1.out)).mono ?_
      rintro e w2 ⟨rfl, hE2⟩
      have HE2 := Lib.hid (Ext.trans HE1.out hE2)
      obtain ⟨k0, k1, k2, k3⟩ := HB.out _ HE2.out
      clear hE2
      go_wp2_with fail
      refine (works_any _).mono ?_
      rintro e w3 ⟨rfl, hE3⟩
      have HE3 := Lib.hid (Ext.trans HE2.out hE3)
      obtain ⟨k0, k1, k2, k3⟩ := HB.out _ HE3.out
      clear hE3
      go_wp2
      go_ret
      exact ⟨rfl, HX.out.trans HE3.out⟩

set_option maxHeartbeats 8000000 in
set_option maxRecDepth 100000 in
theorem sure_main (iA jA gA tA : Option Addr) (ic jc gc tc : Nat) (p : Paper) (pts : List Int) (w : World) (h : PaperAt w iA jA gA p) (hT : Ints w tA pts) (hl : pts.length ≤ 9223372036854775807) (hr : readyM p = true) (ho : pts.length ≤ 20) (q1 : isPossible p pts = true) :
    Calls Try.prog 9 #[.agg #[.slice iA p.items.length ic, .slice jA p.judges.length jc, .int .i64 p.wrong, .slice gA p.grades.length gc], .slice tA pts.length tc] w fun e w' => e = .returned (.bool true) ∧ Ext w w' := by
  have HX := Lib.hid (Ext.of_alloc w (.cells #[.slice iA p.items.length ic, .slice jA p.judges.length jc, .int .i64 p.wrong, .slice gA p.grades.length gc] 26))
  have HB := Lib.hid (show ∀ W, Ext (w.alloc (.cells #[.slice iA p.items.length ic, .slice jA p.judges.length jc, .int .i64 p.wrong, .slice gA p.grades.length gc] 26)) W → (W.cell? ⟨w.heap.size, 0, none⟩ = some (.slice iA p.items.length ic) ∧ W.cell? ⟨w.heap.size, 1, none⟩ = some (.slice jA p.judges.length jc) ∧ W.cell? ⟨w.heap.size, 2, none⟩ = some (.int .i64 p.wrong) ∧ W.cell? ⟨w.heap.size, 3, none⟩ = some (.slice gA p.grades.length gc)) from fun W e => ⟨e.box 0, e.box 1, e.box 2, e.box 3⟩)
  have HR := ready_any iA jA gA ic jc gc p _ (h.ext HX.out)
  rw [hr] at HR
  have HR := Lib.hid HR
  have hv := (ready_valid hr).1
  have hV := valid_of hv
  have hp : (openM p).poss = true := (open_poss hV).2 ⟨pts, q1⟩
  have hk : knownE p true = 0 := by rw [known_true hv, hp]; rfl
  have hil4 := hV.il.2
  have htr := isTruth_iff.1 (possible_truth q1)
  have hres := open_res_in hV q1
  have hgl0 := gradeP_mono p.grades hres.1
  have hgl1 := gradeP_mono p.grades hres.2
  have hgg := gradeP_gradeOf hV (resultOf p pts)
  have HPin := Lib.hid (points_in hV q1)
  have HBl := Lib.hid (blame_not_right hV q1)
  have hpl : (ptsTo (openM p) p.items.length).length = pts.length := by rw [ptsTo_len]; omega
  obtain ⟨r1, hr1⟩ : ∃ r1 : Int, (openM p).res.1 = r1 := ⟨_, rfl⟩
  obtain ⟨r2, hr2⟩ : ∃ r2 : Int, (openM p).res.2 = r2 := ⟨_, rfl⟩
  obtain ⟨lo, hlo⟩ : ∃ lo : Int, (gradeP p.grades (openM p).res.1 : Int) = lo := ⟨_, rfl⟩
  obtain ⟨hi, hhi⟩ : ∃ hi : Int, (gradeP p.grades (openM p).res.2 : Int) = hi := ⟨_, rfl⟩
  have HIP := Lib.hid (fun W (e : Ext w W) => isPossible_any iA jA gA tA ic jc gc tc p pts W (h.ext e) hV (hT.ext e) hl)
  rw [q1] at HIP
  have HRg := Lib.hid (fun W (e : Ext w W) => range_any iA jA gA ic jc gc p r1 r2 0 W (h.ext e) (by unfold rangeM; rw [if_pos hk, ← hr1, ← hr2]))
  have HPt := Lib.hid (fun W (e : Ext w W) => points_any iA jA gA ic jc gc p (ptsTo (openM p) p.items.length) 0 W (h.ext e) (by unfold pointsM; rw [if_pos hk]))
  have HGr := Lib.hid (fun W (e : Ext w W) => grade_any iA jA gA ic jc gc p lo hi 0 W (h.ext e) (by unfold gradeMod; rw [if_pos hk, hlo, hhi]))
  have HBm := Lib.hid (fun W (e : Ext w W) => blame_any iA jA gA ic jc gc p (blameTo (openM p).right p.judges.length) 0 W (h.ext e) (by unfold blameM; rw [if_pos hk]))
  have HRs := Lib.hid (fun W (e : Ext w W) => result_any iA jA gA tA ic jc gc tc p.judges.length p.grades.length p.wrong p pts W (h.items.ext e) hil4 (hT.ext e) htr.1 (fun k hk => ⟨(hV.it k (by omega)).1, (hV.it k (by omega)).2.1⟩) (fun k hk => by have a := htr.2 k hk; have b := hV.it k (by omega); omega))
  have HGo := Lib.hid (fun W (e : Ext w W) => gradeOf_any iA jA gA ic jc gc p (resultOf p pts) W (h.ext e))
  rw [← hgg] at HGo
  have HIn := Lib.hid (fun W => inside_any (resultOf p pts) r1 r2 W)
  rw [wi_of ⟨by omega, by omega⟩] at HIn
  have HIg := Lib.hid (fun W => inside_any (gradeP p.grades (resultOf p pts) : Int) lo hi W)
  rw [wi_of ⟨by omega, by omega⟩] at HIg
  have hbl : (blameTo (openM p).right p.judges.length).length ≤ p.judges.length := blameTo_len _ _
  generalize ptsTo (openM p) p.items.length = L at *
  generalize blameTo (openM p).right p.judges.length = B at *
  generalize (gradeP p.grades (resultOf p pts) : Int) = gq at *
  generalize resultOf p pts = rs at *
  have HV := Lib.hid hV
  have H := Lib.hid h
  have HTt := Lib.hid hT
  have HTr := Lib.hid htr
  have ho' : (pts.length : Int) ≤ 20 := by omega
  have hlL : ¬ ((L.length : Int) ≠ pts.length) := by omega
  clear h hr hv hV hp hk q1 hlo hhi hr1 hr2 hres hgl0 hgl1 hgg htr
  go_enter Try.func9, Try.ntmps9
  go_wp2_with fail
  refine (HR.out).mono ?_
  rintro e w1 ⟨rfl, hE1⟩
  have HE1 := Lib.hid (Ext.trans (Ext.refl (w.alloc (.cells #[.slice iA p.items.length ic, .slice jA p.judges.length jc, .int .i64 p.wrong, .slice gA p.grades.length gc] 26))) hE1)
  obtain ⟨k0, k1, k2, k3⟩ := HB.out _ HE1.out
  clear hE1
  go_wp2_with fail
  refine (HIP.out _ (HX.out.trans HE1.out)).mono ?_
  rintro e w2 ⟨rfl, hE2⟩
  have HE2 := Lib.hid (Ext.trans HE1.out hE2)
  obtain ⟨k0, k1, k2, k3⟩ := HB.out _ HE2.out
  clear hE2
  go_wp2_with fail
  refine (HRg.out _ (HX.out.trans HE2.out)).mono ?_
  rintro e w3 ⟨rfl, hE3⟩
  have HE3 := Lib.hid (Ext.trans HE2.out hE3)
  obtain ⟨k0, k1, k2, k3⟩ := HB.out _ HE3.out
  have HE3b := Lib.hid (HE3.out.alloc (.cells #[.int .i64 r1, .int .i64 r2] 35))
  obtain ⟨k0, k1, k2, k3⟩ := HB.out _ HE3b.out
  have HSa := Lib.hid (Blk.new w3 35 #[.int .i64 r1, .int .i64 r2])
  clear hE3
  go_wp2_with fail
  refine (HPt.out _ (HX.out.trans HE3b.out)).mono ?_
  rintro e w4 ⟨lA, lc, rfl, hL, hE4⟩
  have HE4 := Lib.hid (Ext.trans HE3b.out hE4)
  obtain ⟨k0, k1, k2, k3⟩ := HB.out _ HE4.out
  have HL4 := Lib.hid hL
  have HSa4 := Lib.hid (HSa.out.ext hE4)
  clear hL
  clear hE4
  go_wp2_with fail
  refine (HGr.out _ (HX.out.trans HE4.out)).mono ?_
  rintro e w5 ⟨rfl, hE5⟩
  have HE5 := Lib.hid (Ext.trans HE4.out hE5)
  obtain ⟨k0, k1, k2, k3⟩ := HB.out _ HE5.out
  have HE5b := Lib.hid (HE5.out.alloc (.cells #[.int .i64 lo, .int .i64 hi] 35))
  obtain ⟨k0, k1, k2, k3⟩ := HB.out _ HE5b.out
  have HSg := Lib.hid (Blk.new w5 35 #[.int .i64 lo, .int .i64 hi])
  have HSa5 := Lib.hid ((HSa4.out.ext hE5).alloc (.cells #[.int .i64 lo, .int .i64 hi] 35))
  have HL5 := Lib.hid (HL4.out.ext (hE5.alloc (.cells #[.int .i64 lo, .int .i64 hi] 35)))
  clear hE5
  go_wp2_with fail
  refine (HBm.out _ (HX.out.trans HE5b.out)).mono ?_
  rintro e w6 ⟨bA, bc, rfl, hBm, hE6⟩
  have HE6 := Lib.hid (Ext.trans HE5b.out hE6)
  obtain ⟨k0, k1, k2, k3⟩ := HB.out _ HE6.out
  have HBm6 := Lib.hid hBm
  have HSa6 := Lib.hid (HSa5.out.ext hE6)
  have HSg6 := Lib.hid (HSg.out.ext hE6)
  have HL6 := Lib.hid (HL5.out.ext hE6)
  clear hBm
  clear hE6
  go_wp2_with fail
  refine (HRs.out _ (HX.out.trans HE6.out)).mono ?_
  rintro e w7 ⟨rfl, hE7⟩
  have HE7 := Lib.hid (Ext.trans HE6.out hE7)
  obtain ⟨k0, k1, k2, k3⟩ := HB.out _ HE7.out
  have HBm7 := Lib.hid (HBm6.out.ext hE7)
  have HSa7 := Lib.hid (HSa6.out.ext hE7)
  have HSg7 := Lib.hid (HSg6.out.ext hE7)
  have HL7 := Lib.hid (HL6.out.ext hE7)
  have s0 : w7.cell? ⟨w3.heap.size, 0, none⟩ = some (.int .i64 r1) := HSa7.out.cell 0
  have s1 : w7.cell? ⟨w3.heap.size, 1, none⟩ = some (.int .i64 r2) := HSa7.out.cell 1
  have s2 : w7.cell? ⟨w5.heap.size, 0, none⟩ = some (.int .i64 lo) := HSg7.out.cell 0
  have s3 : w7.cell? ⟨w5.heap.size, 1, none⟩ = some (.int .i64 hi) := HSg7.out.cell 1
  clear hE7
  go_wp2_with fail
  obtain ⟨C, hC⟩ : ∃ C : World → Prop, ∀ W, C W ↔ Ext w7 W := ⟨_, fun W => Iff.rfl⟩
  have HC := Lib.hid hC
  have HBx := Lib.hid (show ∀ W, C W → (W.cell? ⟨w.heap.size, 0, none⟩ = some (.slice iA p.items.length ic) ∧ W.cell? ⟨w.heap.size, 1, none⟩ = some (.slice jA p.judges.length jc) ∧ W.cell? ⟨w.heap.size, 2, none⟩ = some (.int .i64 p.wrong) ∧ W.cell? ⟨w.heap.size, 3, none⟩ = some (.slice gA p.grades.length gc) ∧ W.cell? ⟨w3.heap.size, 0, none⟩ = some (.int .i64 r1) ∧ W.cell? ⟨w3.heap.size, 1, none⟩ = some (.int .i64 r2) ∧ W.cell? ⟨w5.heap.size, 0, none⟩ = some (.int .i64 lo) ∧ W.cell? ⟨w5.heap.size, 1, none⟩ = some (.int .i64 hi)) from fun W hW => by
    obtain ⟨k0, k1, k2, k3⟩ := HB.out _ (HE7.out.trans ((hC W).1 hW))
    exact ⟨k0, k1, k2, k3, (HSa7.out.ext ((hC W).1 hW)).cell 0, (HSa7.out.ext ((hC W).1 hW)).cell 1, (HSg7.out.ext ((hC W).1 hW)).cell 0, (HSg7.out.ext ((hC W).1 hW)).cell 1⟩)
  have HP1 := Lib.hid (fun W hW => ((HIn.out W).mono fun e w1 ⟨he, hE1⟩ => (⟨he, (hC _).2 (((hC W).1 hW).trans hE1)⟩ : e = Ending.returned (.bool true) ∧ C w1)))
  have HP2 := Lib.hid (fun W hW => ((HIg.out W).mono fun e w1 ⟨he, hE1⟩ => (⟨he, (hC _).2 (((hC W).1 hW).trans hE1)⟩ : e = Ending.returned (.bool true) ∧ C w1)))
  have HP3 := Lib.hid (fun W hW => ((HGo.out W (HX.out.trans (HE7.out.trans ((hC W).1 hW)))).mono fun e w1 ⟨he, hE1⟩ => (⟨he, (hC _).2 (((hC W).1 hW).trans hE1)⟩ : e = Ending.returned (.int .i64 gq) ∧ C w1)))
  clear hC k0 k1 k2 k3 s0 s1 s2 s3
  with_reducible refine wp_region_class C (by kernel_rfl) (by kernel_rfl) ((HC.out _).2 (Ext.refl _).drew) ?_
  repeat
    first
    | ((with_reducible refine wpQuiet_step (fun K hK => ?_))
       go_simp
       first
       | ((with_reducible refine hK _ ?_); clear hK K)
       | (with_reducible apply Exists.intro
          (with_reducible refine ⟨fun W hW => ?_, hK _ ?_⟩)
          · first | (with_reducible exact HP1.out W hW) | (with_reducible exact HP2.out W hW) | (with_reducible exact HP3.out W hW) | (obtain ⟨k0, k1, k2, k3, s0, s1, s2, s3⟩ := HBx.out W hW; go_simp <;> rfl)
          clear hK K))
    | ((with_reducible refine wpQuiet_skip ?_ (fun K hK => ?_))
       · kernel_rfl
       go_simp
       (with_reducible refine hK _ ?_)
       clear hK K)
  with_reducible refine wpQuiet_nil ?_
  intro w8 hw8
  have HE8 := Lib.hid (HE7.out.trans ((HC.out _).1 hw8))
  have HL8 := Lib.hid (HL7.out.ext ((HC.out _).1 hw8))
  have HBm8 := Lib.hid (HBm7.out.ext ((HC.out _).1 hw8))
  clear hw8
  go_wp2_with fail
  go_loopw [14] (fun v14 wr => ∃ k : Nat, k ≤ pts.length ∧ v14 = .int .i64 k ∧ Ext w8 wr) (fun v14 _ => pts.length - (intOf v14).toNat)
  case atStart => exact ⟨0, by omega, rfl, Ext.refl _⟩
  case round =>
    obtain ⟨k, hk, rfl, hE⟩ := hrel
    have HEr := Lib.hid hE
    by_cases hlt : k < pts.length
    · obtain ⟨tb, toff, rfl, htb, htc⟩ := (HTt.out.ext (HX.out.trans (HE8.out.trans hE))) k hlt
      obtain ⟨lb, loff, x, y, rfl, hlb, hlx, hly, hxy⟩ := (HL8.out.ext hE).get (show k < L.length by omega)
      have hin := HPin.out k hlt
      rw [hxy.out] at hin
      obtain ⟨pk, hpk⟩ : ∃ x, pts.getD k 0 = x := ⟨_, rfl⟩
      rw [hpk] at htc hin
      have HInk := Lib.hid (fun W => inside_any pk x y W)
      rw [hin] at HInk
      have HTc := Lib.hid htc
      have HLx := Lib.hid hlx
      have HLy := Lib.hid hly
      have hkI : (k : Int) < pts.length := by omega
      have hkL : (k : Int) < L.length := by omega
      obtain ⟨C, hC⟩ : ∃ C : World → Prop, ∀ W, C W ↔ Ext wr W := ⟨_, fun W => Iff.rfl⟩
      have HC := Lib.hid hC
      have HBx := Lib.hid (show ∀ W, C W → (W.cell? ⟨tb, toff + k, none⟩ = some (.int .i64 pk) ∧ W.cell? ⟨lb, loff + k * 2, none⟩ = some (.int .i64 x) ∧ W.cell? ⟨lb, loff + k * 2 + 1, none⟩ = some (.int .i64 y)) from fun W hW =>
        ⟨(((hC W).1 hW).cellOf (p := ⟨tb, _, none⟩) htb).trans HTc.out, (((hC W).1 hW).cellOf (p := ⟨lb, _, none⟩) hlb).trans HLx.out, (((hC W).1 hW).cellOf (p := ⟨lb, _, none⟩) hlb).trans HLy.out⟩)
      have HP1 := Lib.hid (fun W hW => ((HInk.out W).mono fun e w1 ⟨he, hE1⟩ => (⟨he, (hC _).2 (((hC W).1 hW).trans hE1)⟩ : e = Ending.returned (.bool true) ∧ C w1)))
      clear hC htc hlx hly hin hxy hE hpk
      go_wp2_with fail
      with_reducible refine wp_region_class C (by kernel_rfl) (by kernel_rfl) ((HC.out _).2 (Ext.refl _).drew) ?_
      repeat
        ((with_reducible refine wpQuiet_step (fun K hK => ?_))
         go_simp
         first
         | ((with_reducible refine hK _ ?_); clear hK K)
         | (with_reducible apply Exists.intro
            (with_reducible refine ⟨fun W hW => ?_, hK _ ?_⟩)
            · first | (with_reducible exact HP1.out W hW) | (obtain ⟨c0, c1, c2⟩ := HBx.out W hW; go_simp <;> rfl)
            clear hK K))
      with_reducible refine wpQuiet_nil ?_
      intro w9 hw9
      have HE9 := Lib.hid (HEr.out.trans ((HC.out _).1 hw9))
      clear hw9
      go_wp2
      go_roundw
      case rel => exact ⟨k + 1, by omega, by go_num, HE9.out⟩
      case measure => simp [intOf]; omega
    · go_wp2_with fail
      go_loopw [15] (fun v15 wr2 => ∃ j : Nat, j ≤ p.judges.length ∧ v15 = .int .i64 j ∧ Ext w8 wr2) (fun v15 _ => p.judges.length - (intOf v15).toNat)
      case atStart => exact ⟨0, by omega, rfl, HEr.out⟩
      case round =>
        obtain ⟨j, hj, rfl, hE2⟩ := hrel
        have HEs := Lib.hid hE2
        obtain ⟨k0, k1, k2, k3⟩ := HB.out _ (HE8.out.trans hE2)
        by_cases hltj : j < p.judges.length
        · have HLT := Lib.hid hltj
          have hjl4 : p.judges.length ≤ 4 := HV.out.jl
          by_cases hjb : (j : Int) ∈ B
          · obtain ⟨b, off, jl, jh, je, ma, mA, mc, rfl, hb, hc1, hc2, hc3, hc4, hma, hml, hx⟩ := (H.out.judges.ext (HX.out.trans (HE8.out.trans hE2))).get hltj
            have hju := HV.out.ju j hltj
            have hmk := HV.out.ma j hltj
            have hir := HBl.out j hltj hjb
            rw [hx.out] at hju hmk hir
            simp only at hju
            obtain ⟨hj1, hj2, hj3, hj4, hj5, hj6⟩ := hju
            have hln : ma.length = pts.length := by have := HTr.out.1; omega
            have hp4 : pts.length ≤ 4 := by have := HTr.out.1; have := HV.out.il.2; omega
            have HIr := Lib.hid (fun W (e : Ext wr W) => isRight_any mA tA mc tc ⟨jl, jh, je, ma⟩ pts W (hma.ext e) (HTt.out.ext ((HX.out.trans (HE8.out.trans hE2)).trans e)) hln hp4 (fun k hk => hmk k (by have := HTr.out.1; omega)) (fun k hk => by have a := HTr.out.2 k hk; have b := HV.out.it k (by have := HTr.out.1; omega); omega) hj1 hj2 hj3 hj4 hj5)
            rw [hir] at HIr
            have HJc := Lib.hid (show ∀ W, Ext wr W → (W.cell? ⟨b, off + j * 4, none⟩ = some (.int .i64 jl) ∧ W.cell? ⟨b, off + j * 4 + 1, none⟩ = some (.int .i64 jh) ∧ W.cell? ⟨b, off + j * 4 + 2, none⟩ = some (.int .i64 je) ∧ W.cell? ⟨b, off + j * 4 + 3, none⟩ = some (.slice mA ma.length mc)) from fun W e =>
              ⟨(e.cellOf (p := ⟨b, _, none⟩) hb).trans hc1, (e.cellOf (p := ⟨b, _, none⟩) hb).trans hc2, (e.cellOf (p := ⟨b, _, none⟩) hb).trans hc3, (e.cellOf (p := ⟨b, _, none⟩) hb).trans hc4⟩)
            have hjI : (j : Int) < p.judges.length := by omega
            have HBj := Lib.hid (in_any bA bc B j _ (HBm8.out.ext hE2) (by have := H.out.jl; omega))
            rw [decide_eq_true hjb] at HBj
            clear hln hp4 hmk hir hc1 hc2 hc3 hc4 hma hml hx hE2 hj1 hj2 hj3 hj4 hj5 hj6 hjb
            go_wp2_with fail
            refine HBj.out.mono ?_
            rintro e w10 ⟨rfl, hE10⟩
            obtain ⟨k0, k1, k2, k3⟩ := HB.out _ (HE8.out.trans (HEs.out.trans hE10))
            obtain ⟨c0, c1, c2, c3⟩ := HJc.out _ hE10
            have HE10 := Lib.hid hE10
            clear hE10
            go_wp2_with fail
            refine (HIr.out _ HE10.out).mono ?_
            rintro e w11 ⟨rfl, hE11⟩
            have HE11 := Lib.hid (HEs.out.trans (HE10.out.trans hE11))
            clear hE11
            go_wp2
            go_roundw
            case rel => exact ⟨j + 1, by have := HLT.out; omega, by go_num, HE11.out⟩
            case measure => have := HLT.out; simp [intOf]; omega
          · have HBj := Lib.hid (in_any bA bc B j _ (HBm8.out.ext hE2) (by have := H.out.jl; omega))
            rw [decide_eq_false hjb] at HBj
            clear hE2 hjb
            go_wp2_with fail
            refine HBj.out.mono ?_
            rintro e w10 ⟨rfl, hE10⟩
            have HE10 := Lib.hid (HEs.out.trans hE10)
            clear hE10
            have hjI : (j : Int) < p.judges.length := by have := HLT.out; omega
            go_wp2
            go_roundw
            case rel => exact ⟨j + 1, by have := HLT.out; omega, by go_num, HE10.out⟩
            case measure => have := HLT.out; simp [intOf]; omega
        · go_wp2_with fail
          refine (works_any _).mono ?_
          rintro e w12 ⟨rfl, hE12⟩
          have HE12 := Lib.hid ((HE8.out.trans HEs.out).trans hE12)
          clear hE12
          go_wp2
          go_ret
          exact ⟨rfl, HX.out.trans HE12.out⟩

theorem sure_law (iA jA gA tA : Option Addr) (ic jc gc tc : Nat) (p : Paper) (pts : List Int) (w : World) (h : PaperAt w iA jA gA p) (hT : Ints w tA pts) (hl : pts.length ≤ 9223372036854775807) :
    Calls Try.prog 9 #[.agg #[.slice iA p.items.length ic, .slice jA p.judges.length jc, .int .i64 p.wrong, .slice gA p.grades.length gc], .slice tA pts.length tc] w fun e w' => e = .returned (.bool true) ∧ Ext w w' := by
  by_cases hc : readyM p = false ∨ 20 < pts.length ∨ isPossible p pts = false
  · exact sure_early iA jA gA tA ic jc gc tc p pts w h hT hl hc
  · have hr : readyM p = true := by
      cases hq : readyM p
      · exact absurd (.inl hq) hc
      · rfl
    have ho : pts.length ≤ 20 := by
      rcases Nat.lt_or_ge 20 pts.length with hq | hq
      · exact absurd (.inr (.inl hq)) hc
      · exact hq
    have q1 : isPossible p pts = true := by
      cases hq : isPossible p pts
      · exact absurd (.inr (.inr hq)) hc
      · rfl
    exact sure_main iA jA gA tA ic jc gc tc p pts w h hT hl hr ho q1
end Go.Proofs.Ytbpilgflejdhaaa
