/- Exams: the walk over ExamsShown. -/
import Derived.Test.YtbpilgflejdhaaaExX2
import Derived.Test.YtbpilgflejdhaaaExX4
import Derived.Test.YtbpilgflejdhaaaExS5b
import Derived.Test.YtbpilgflejdhaaaExLawG
import Derived.Test.YtbpilgflejdhaaaQuiet
namespace Go.Proofs.Ytbpilgflejdhaaa
open Go.RowKit

set_option maxHeartbeats 4000000 in
set_option maxRecDepth 100000 in
theorem shown_early (iA jA gA : Option Addr) (ic jc gc : Nat) (p : Paper) (g : Int) (w : World) (h : PaperAt w iA jA gA p) (hc : readyM p = false ∨ g < 0 ∨ (p.grades.length : Int) < g) :
    Calls Try.prog 8 #[.agg #[.slice iA p.items.length ic, .slice jA p.judges.length jc, .int .i64 p.wrong, .slice gA p.grades.length gc], .int .i64 g] w fun e w' => e = .returned (.bool true) ∧ Ext w w' := by
  have HX := Lib.hid (Ext.of_alloc w (.cells #[.slice iA p.items.length ic, .slice jA p.judges.length jc, .int .i64 p.wrong, .slice gA p.grades.length gc] 26))
  have HB := Lib.hid (show ∀ W, Ext (w.alloc (.cells #[.slice iA p.items.length ic, .slice jA p.judges.length jc, .int .i64 p.wrong, .slice gA p.grades.length gc] 26)) W → (W.cell? ⟨w.heap.size, 0, none⟩ = some (.slice iA p.items.length ic) ∧ W.cell? ⟨w.heap.size, 1, none⟩ = some (.slice jA p.judges.length jc) ∧ W.cell? ⟨w.heap.size, 2, none⟩ = some (.int .i64 p.wrong) ∧ W.cell? ⟨w.heap.size, 3, none⟩ = some (.slice gA p.grades.length gc)) from fun W e => ⟨e.box 0, e.box 1, e.box 2, e.box 3⟩)
  have HR := ready_any iA jA gA ic jc gc p _ (h.ext HX.out)
  have hgl := h.gl
  cases hr : readyM p
  · rw [hr] at HR
    have HR := Lib.hid HR
    clear hr hc h
    go_enter Try.func8, Try.ntmps8
    go_wp2_with fail
    refine (HR.out).mono ?_
    rintro e w1 ⟨rfl, hE1⟩
    have HE1 := Lib.hid (Ext.trans (Ext.refl (w.alloc (.cells #[.slice iA p.items.length ic, .slice jA p.judges.length jc, .int .i64 p.wrong, .slice gA p.grades.length gc] 26))) hE1)
    obtain ⟨k0, k1, k2, k3⟩ := HB.out _ HE1.out
    clear hE1
    go_wp2_with fail
    refine (works_any _).mono ?_
    rintro e w2 ⟨rfl, hE2⟩
    have HE2 := Lib.hid (Ext.trans HE1.out hE2)
    obtain ⟨k0, k1, k2, k3⟩ := HB.out _ HE2.out
    clear hE2
    go_wp2
    go_ret
    exact ⟨rfl, HX.out.trans HE2.out⟩
  · rw [hr] at HR hc
    have HR := Lib.hid HR
    by_cases hg0 : g < 0
    · clear hr hc h
      go_enter Try.func8, Try.ntmps8
      go_wp2_with fail
      refine (HR.out).mono ?_
      rintro e w1 ⟨rfl, hE1⟩
      have HE1 := Lib.hid (Ext.trans (Ext.refl (w.alloc (.cells #[.slice iA p.items.length ic, .slice jA p.judges.length jc, .int .i64 p.wrong, .slice gA p.grades.length gc] 26))) hE1)
      obtain ⟨k0, k1, k2, k3⟩ := HB.out _ HE1.out
      clear hE1
      go_wp2_with fail
      refine (works_any _).mono ?_
      rintro e w2 ⟨rfl, hE2⟩
      have HE2 := Lib.hid (Ext.trans HE1.out hE2)
      obtain ⟨k0, k1, k2, k3⟩ := HB.out _ HE2.out
      clear hE2
      go_wp2
      go_ret
      exact ⟨rfl, HX.out.trans HE2.out⟩
    · have hg1 : (p.grades.length : Int) < g := by
        rcases hc with hc | hc | hc
        · cases hc
        · omega
        · exact hc
      clear hr hc h
      go_enter Try.func8, Try.ntmps8
      go_wp2_with fail
      refine (HR.out).mono ?_
      rintro e w1 ⟨rfl, hE1⟩
      have HE1 := Lib.hid (Ext.trans (Ext.refl (w.alloc (.cells #[.slice iA p.items.length ic, .slice jA p.judges.length jc, .int .i64 p.wrong, .slice gA p.grades.length gc] 26))) hE1)
      obtain ⟨k0, k1, k2, k3⟩ := HB.out _ HE1.out
      clear hE1
      go_wp2_with fail
      refine (works_any _).mono ?_
      rintro e w2 ⟨rfl, hE2⟩
      have HE2 := Lib.hid (Ext.trans HE1.out hE2)
      obtain ⟨k0, k1, k2, k3⟩ := HB.out _ HE2.out
      clear hE2
      go_wp2
      go_ret
      exact ⟨rfl, HX.out.trans HE2.out⟩

set_option maxHeartbeats 4000000 in
set_option maxRecDepth 100000 in
theorem shown_none (iA jA gA : Option Addr) (ic jc gc : Nat) (p : Paper) (g : Int) (w : World) (h : PaperAt w iA jA gA p) (hr : readyM p = true) (hg0 : 0 ≤ g) (hg1 : g ≤ p.grades.length) (hp : (openM p).poss = false) :
    Calls Try.prog 8 #[.agg #[.slice iA p.items.length ic, .slice jA p.judges.length jc, .int .i64 p.wrong, .slice gA p.grades.length gc], .int .i64 g] w fun e w' => e = .returned (.bool true) ∧ Ext w w' := by
  have HX := Lib.hid (Ext.of_alloc w (.cells #[.slice iA p.items.length ic, .slice jA p.judges.length jc, .int .i64 p.wrong, .slice gA p.grades.length gc] 26))
  have HB := Lib.hid (show ∀ W, Ext (w.alloc (.cells #[.slice iA p.items.length ic, .slice jA p.judges.length jc, .int .i64 p.wrong, .slice gA p.grades.length gc] 26)) W → (W.cell? ⟨w.heap.size, 0, none⟩ = some (.slice iA p.items.length ic) ∧ W.cell? ⟨w.heap.size, 1, none⟩ = some (.slice jA p.judges.length jc) ∧ W.cell? ⟨w.heap.size, 2, none⟩ = some (.int .i64 p.wrong) ∧ W.cell? ⟨w.heap.size, 3, none⟩ = some (.slice gA p.grades.length gc)) from fun W e => ⟨e.box 0, e.box 1, e.box 2, e.box 3⟩)
  have HR := ready_any iA jA gA ic jc gc p _ (h.ext HX.out)
  have hgl := h.gl
  rw [hr] at HR
  have HR := Lib.hid HR
  have hv := (ready_valid hr).1
  have hV := valid_of hv
  have hwi : wi g 0 p.grades.length = true := wi_of ⟨hg0, hg1⟩
  have hk : knownE p true = 3 := by rw [known_true hv, hp]; rfl
  have HG := Lib.hid (fun W (e : Ext w W) => grade_any iA jA gA ic jc gc p 0 0 3 W (h.ext e) (by unfold gradeMod; rw [hk]; rfl))
  have HS := Lib.hid (fun W (e : Ext w W) => show_err iA jA gA ic jc gc p g 3 W (h.ext e) (by rw [hwi]; exact hk) (by decide))
  clear h hr hv hV hwi hp hk
  go_enter Try.func8, Try.ntmps8
  go_wp2_with fail
  refine (HR.out).mono ?_
  rintro e w1 ⟨rfl, hE1⟩
  have HE1 := Lib.hid (Ext.trans (Ext.refl (w.alloc (.cells #[.slice iA p.items.length ic, .slice jA p.judges.length jc, .int .i64 p.wrong, .slice gA p.grades.length gc] 26))) hE1)
  obtain ⟨k0, k1, k2, k3⟩ := HB.out _ HE1.out
  clear hE1
  go_wp2_with fail
  refine (HG.out _ (HX.out.trans HE1.out)).mono ?_
  rintro e w2 ⟨rfl, hE2⟩
  have HE2 := Lib.hid (Ext.trans HE1.out hE2)
  obtain ⟨k0, k1, k2, k3⟩ := HB.out _ HE2.out
  have HE2b := Lib.hid (HE2.out.alloc (.cells #[.int .i64 0, .int .i64 0] 35))
  obtain ⟨k0, k1, k2, k3⟩ := HB.out _ HE2b.out
  clear hE2
  go_wp2_with fail
  refine (HS.out _ (HX.out.trans HE2b.out)).mono ?_
  rintro e w3 ⟨rfl, hE3⟩
  have HE3 := Lib.hid (Ext.trans HE2b.out hE3)
  obtain ⟨k0, k1, k2, k3⟩ := HB.out _ HE3.out
  clear hE3
  go_wp2_with fail
  refine (works_any _).mono ?_
  rintro e w4 ⟨rfl, hE4⟩
  have HE4 := Lib.hid (Ext.trans HE3.out hE4)
  obtain ⟨k0, k1, k2, k3⟩ := HB.out _ HE4.out
  clear hE4
  go_wp2
  go_ret
  exact ⟨rfl, HX.out.trans HE4.out⟩

set_option maxHeartbeats 4000000 in
set_option maxRecDepth 100000 in
theorem shown_some (iA jA gA : Option Addr) (ic jc gc : Nat) (p : Paper) (g : Int) (w : World) (h : PaperAt w iA jA gA p) (v : List Int) (hr : readyM p = true) (hg0 : 0 ≤ g) (hg1 : g ≤ p.grades.length) (hp : (openM p).poss = true) (hs : getS (openM p).shown g = some v) :
    Calls Try.prog 8 #[.agg #[.slice iA p.items.length ic, .slice jA p.judges.length jc, .int .i64 p.wrong, .slice gA p.grades.length gc], .int .i64 g] w fun e w' => e = .returned (.bool true) ∧ Ext w w' := by
  have HX := Lib.hid (Ext.of_alloc w (.cells #[.slice iA p.items.length ic, .slice jA p.judges.length jc, .int .i64 p.wrong, .slice gA p.grades.length gc] 26))
  have HB := Lib.hid (show ∀ W, Ext (w.alloc (.cells #[.slice iA p.items.length ic, .slice jA p.judges.length jc, .int .i64 p.wrong, .slice gA p.grades.length gc] 26)) W → (W.cell? ⟨w.heap.size, 0, none⟩ = some (.slice iA p.items.length ic) ∧ W.cell? ⟨w.heap.size, 1, none⟩ = some (.slice jA p.judges.length jc) ∧ W.cell? ⟨w.heap.size, 2, none⟩ = some (.int .i64 p.wrong) ∧ W.cell? ⟨w.heap.size, 3, none⟩ = some (.slice gA p.grades.length gc)) from fun W e => ⟨e.box 0, e.box 1, e.box 2, e.box 3⟩)
  have HR := ready_any iA jA gA ic jc gc p _ (h.ext HX.out)
  have hgl := h.gl
  rw [hr] at HR
  have HR := Lib.hid HR
  have hv := (ready_valid hr).1
  have hV := valid_of hv
  have hwi : wi g 0 p.grades.length = true := wi_of ⟨hg0, hg1⟩
  have hk : knownE p true = 0 := by rw [known_true hv, hp]; rfl
  obtain ⟨lo, hlo⟩ : ∃ lo : Int, (gradeP p.grades (openM p).res.1 : Int) = lo := ⟨_, rfl⟩
  obtain ⟨hi, hhi⟩ : ∃ hi : Int, (gradeP p.grades (openM p).res.2 : Int) = hi := ⟨_, rfl⟩
  have hb1 : 0 ≤ lo ∧ lo ≤ hi ∧ hi ≤ p.grades.length := by
    obtain ⟨t, ht⟩ := (open_poss hV).1 hp
    have hr := open_res_in hV ht
    have m := gradeP_mono p.grades (Int.le_trans hr.1 hr.2)
    have m2 := gradeP_le p.grades (openM p).res.2
    omega
  have HG := Lib.hid (fun W (e : Ext w W) => grade_any iA jA gA ic jc gc p lo hi 0 W (h.ext e) (by unfold gradeMod; rw [if_pos hk, hlo, hhi]))
  obtain ⟨hl0, hl1, hl2⟩ := hb1
  obtain ⟨q1, q2, q3, q4⟩ := show_some hV hs
  obtain ⟨l, hl⟩ : ∃ l, v.take p.items.length = l := ⟨_, rfl⟩
  rw [hl] at q1 q2
  rw [hlo] at q3
  rw [hhi] at q4
  have hll := (isTruth_iff.1 (possible_truth q1)).1
  have hil4 := hV.il.2
  have HS := Lib.hid (fun W (e : Ext w W) => show_ok iA jA gA ic jc gc p g 0 l W (h.ext e) (by rw [hwi]; exact hk) (by unfold showM; rw [hwi, if_pos hk, hs, ← hl]))
  have HIP := Lib.hid (fun A c W (e : Ext w W) (hI : Ints W A l) => isPossible_any iA jA gA A ic jc gc c p l W (h.ext e) hV hI (by omega))
  have HRs := Lib.hid (fun A c W (e : Ext w W) (hI : Ints W A l) => result_any iA jA gA A ic jc gc c p.judges.length p.grades.length p.wrong p l W (h.items.ext e) hil4 hI hll (fun k hk => ⟨(hV.it k (by omega)).1, (hV.it k (by omega)).2.1⟩) (fun k hk => by have a := (isTruth_iff.1 (possible_truth q1)).2 k hk; have b := hV.it k (by omega); omega))
  have HGo := Lib.hid (fun W (e : Ext w W) => gradeOf_any iA jA gA ic jc gc p (resultOf p l) W (h.ext e))
  rw [q1] at HIP
  rw [q2] at HGo
  have HIn := Lib.hid (fun W => inside_any g lo hi W)
  rw [wi_of ⟨q3, q4⟩] at HIn
  generalize resultOf p l = rs at *
  clear h hr hv hV hwi hp hk hs q1 q2 hlo hhi hl hll
  go_enter Try.func8, Try.ntmps8
  go_wp2_with fail
  refine (HR.out).mono ?_
  rintro e w1 ⟨rfl, hE1⟩
  have HE1 := Lib.hid (Ext.trans (Ext.refl (w.alloc (.cells #[.slice iA p.items.length ic, .slice jA p.judges.length jc, .int .i64 p.wrong, .slice gA p.grades.length gc] 26))) hE1)
  obtain ⟨k0, k1, k2, k3⟩ := HB.out _ HE1.out
  clear hE1
  go_wp2_with fail
  refine (HG.out _ (HX.out.trans HE1.out)).mono ?_
  rintro e w2 ⟨rfl, hE2⟩
  have HE2 := Lib.hid (Ext.trans HE1.out hE2)
  obtain ⟨k0, k1, k2, k3⟩ := HB.out _ HE2.out
  have HE2b := Lib.hid (HE2.out.alloc (.cells #[.int .i64 lo, .int .i64 hi] 35))
  obtain ⟨k0, k1, k2, k3⟩ := HB.out _ HE2b.out
  have HSb := Lib.hid (Blk.new w2 35 #[.int .i64 lo, .int .i64 hi])
  clear hE2
  go_wp2_with fail
  refine (HS.out _ (HX.out.trans HE2b.out)).mono ?_
  rintro e w3 ⟨A, cc, rfl, hI, hE3⟩
  have HE3 := Lib.hid (Ext.trans HE2b.out hE3)
  obtain ⟨k0, k1, k2, k3⟩ := HB.out _ HE3.out
  have HI := Lib.hid hI
  have HSb3 := Lib.hid (HSb.out.ext hE3)
  have s0 : w3.cell? ⟨w2.heap.size, 0, none⟩ = some (.int .i64 lo) := HSb3.out.cell 0
  have s1 : w3.cell? ⟨w2.heap.size, 1, none⟩ = some (.int .i64 hi) := HSb3.out.cell 1
  clear hI
  clear hE3
  go_wp2_with fail
  obtain ⟨C, hC⟩ : ∃ C : World → Prop, ∀ W, C W ↔ Ext w3 W := ⟨_, fun W => Iff.rfl⟩
  have HC := Lib.hid hC
  have HBx := Lib.hid (show ∀ W, C W → (W.cell? ⟨w.heap.size, 0, none⟩ = some (.slice iA p.items.length ic) ∧ W.cell? ⟨w.heap.size, 1, none⟩ = some (.slice jA p.judges.length jc) ∧ W.cell? ⟨w.heap.size, 2, none⟩ = some (.int .i64 p.wrong) ∧ W.cell? ⟨w.heap.size, 3, none⟩ = some (.slice gA p.grades.length gc) ∧ W.cell? ⟨w2.heap.size, 0, none⟩ = some (.int .i64 lo) ∧ W.cell? ⟨w2.heap.size, 1, none⟩ = some (.int .i64 hi)) from fun W hW => by
    obtain ⟨k0, k1, k2, k3⟩ := HB.out _ (HE3.out.trans ((hC W).1 hW))
    exact ⟨k0, k1, k2, k3, (HSb3.out.ext ((hC W).1 hW)).cell 0, (HSb3.out.ext ((hC W).1 hW)).cell 1⟩)
  have HP1 := Lib.hid (fun W hW => ((HIn.out W).mono fun e w1 ⟨he, hE1⟩ => (⟨he, (hC _).2 (((hC W).1 hW).trans hE1)⟩ : e = Ending.returned (.bool true) ∧ C w1)))
  have HP2 := Lib.hid (fun W hW => ((HIP.out A cc W (HX.out.trans (HE3.out.trans ((hC W).1 hW))) (HI.out.ext ((hC W).1 hW))).mono fun e w1 ⟨he, hE1⟩ => (⟨he, (hC _).2 (((hC W).1 hW).trans hE1)⟩ : e = Ending.returned (.bool true) ∧ C w1)))
  have HP3 := Lib.hid (fun W hW => ((HRs.out A cc W (HX.out.trans (HE3.out.trans ((hC W).1 hW))) (HI.out.ext ((hC W).1 hW))).mono fun e w1 ⟨he, hE1⟩ => (⟨he, (hC _).2 (((hC W).1 hW).trans hE1)⟩ : e = Ending.returned (.int .i64 rs) ∧ C w1)))
  have HP4 := Lib.hid (fun W hW => ((HGo.out W (HX.out.trans (HE3.out.trans ((hC W).1 hW)))).mono fun e w1 ⟨he, hE1⟩ => (⟨he, (hC _).2 (((hC W).1 hW).trans hE1)⟩ : e = Ending.returned (.int .i64 g) ∧ C w1)))
  clear hC k0 k1 k2 k3 s0 s1
  with_reducible refine wp_region_class C (by kernel_rfl) (by kernel_rfl) ((HC.out _).2 (Ext.refl _).drew) ?_
  repeat
    first
    | ((with_reducible refine wpQuiet_step (fun K hK => ?_))
       go_simp
       first
       | ((with_reducible refine hK _ ?_); clear hK K)
       | (with_reducible apply Exists.intro
          (with_reducible refine ⟨fun W hW => ?_, hK _ ?_⟩)
          · first | (with_reducible exact HP1.out W hW) | (with_reducible exact HP2.out W hW) | (with_reducible exact HP3.out W hW) | (with_reducible exact HP4.out W hW) | (obtain ⟨k0, k1, k2, k3, s0, s1⟩ := HBx.out W hW; go_simp <;> rfl)
          clear hK K))
    | ((with_reducible refine wpQuiet_skip ?_ (fun K hK => ?_))
       · kernel_rfl
       go_simp
       (with_reducible refine hK _ ?_)
       clear hK K)
  with_reducible refine wpQuiet_nil ?_
  intro w4 hw4
  have HE4 := Lib.hid (HE3.out.trans ((HC.out _).1 hw4))
  clear hw4
  go_wp2_with fail
  refine (works_any _).mono ?_
  rintro e w5 ⟨rfl, hE5⟩
  have HE5 := Lib.hid (Ext.trans HE4.out hE5)
  obtain ⟨k0, k1, k2, k3⟩ := HB.out _ HE5.out
  clear hE5
  go_wp2
  go_ret
  exact ⟨rfl, HX.out.trans HE5.out⟩

set_option maxHeartbeats 4000000 in
set_option maxRecDepth 100000 in
theorem shown_no (iA jA gA : Option Addr) (ic jc gc : Nat) (p : Paper) (g : Int) (w : World) (h : PaperAt w iA jA gA p) (hr : readyM p = true) (hg0 : 0 ≤ g) (hg1 : g ≤ p.grades.length) (hp : (openM p).poss = true) (hs : getS (openM p).shown g = none) :
    Calls Try.prog 8 #[.agg #[.slice iA p.items.length ic, .slice jA p.judges.length jc, .int .i64 p.wrong, .slice gA p.grades.length gc], .int .i64 g] w fun e w' => e = .returned (.bool true) ∧ Ext w w' := by
  have HX := Lib.hid (Ext.of_alloc w (.cells #[.slice iA p.items.length ic, .slice jA p.judges.length jc, .int .i64 p.wrong, .slice gA p.grades.length gc] 26))
  have HB := Lib.hid (show ∀ W, Ext (w.alloc (.cells #[.slice iA p.items.length ic, .slice jA p.judges.length jc, .int .i64 p.wrong, .slice gA p.grades.length gc] 26)) W → (W.cell? ⟨w.heap.size, 0, none⟩ = some (.slice iA p.items.length ic) ∧ W.cell? ⟨w.heap.size, 1, none⟩ = some (.slice jA p.judges.length jc) ∧ W.cell? ⟨w.heap.size, 2, none⟩ = some (.int .i64 p.wrong) ∧ W.cell? ⟨w.heap.size, 3, none⟩ = some (.slice gA p.grades.length gc)) from fun W e => ⟨e.box 0, e.box 1, e.box 2, e.box 3⟩)
  have HR := ready_any iA jA gA ic jc gc p _ (h.ext HX.out)
  have hgl := h.gl
  rw [hr] at HR
  have HR := Lib.hid HR
  have hv := (ready_valid hr).1
  have hV := valid_of hv
  have hwi : wi g 0 p.grades.length = true := wi_of ⟨hg0, hg1⟩
  have hk : knownE p true = 0 := by rw [known_true hv, hp]; rfl
  obtain ⟨lo, hlo⟩ : ∃ lo : Int, (gradeP p.grades (openM p).res.1 : Int) = lo := ⟨_, rfl⟩
  obtain ⟨hi, hhi⟩ : ∃ hi : Int, (gradeP p.grades (openM p).res.2 : Int) = hi := ⟨_, rfl⟩
  have hb1 : 0 ≤ lo ∧ lo ≤ hi ∧ hi ≤ p.grades.length := by
    obtain ⟨t, ht⟩ := (open_poss hV).1 hp
    have hr := open_res_in hV ht
    have m := gradeP_mono p.grades (Int.le_trans hr.1 hr.2)
    have m2 := gradeP_le p.grades (openM p).res.2
    omega
  have HG := Lib.hid (fun W (e : Ext w W) => grade_any iA jA gA ic jc gc p lo hi 0 W (h.ext e) (by unfold gradeMod; rw [if_pos hk, hlo, hhi]))
  obtain ⟨hl0, hl1, hl2⟩ := hb1
  obtain ⟨q1, q2⟩ := show_none hV hp hs
  rw [hlo] at q1
  rw [hhi] at q2
  have hq1 : (g == lo) = false := by simpa using q1
  have hq2 : (g == hi) = false := by simpa using q2
  have HS := Lib.hid (fun W (e : Ext w W) => show_ok iA jA gA ic jc gc p g 3 [] W (h.ext e) (by rw [hwi]; exact hk) (by unfold showM; rw [hwi, if_pos hk, hs]))
  clear h hr hv hV hwi hp hk hs q1 q2 hlo hhi
  go_enter Try.func8, Try.ntmps8
  go_wp2_with fail
  refine (HR.out).mono ?_
  rintro e w1 ⟨rfl, hE1⟩
  have HE1 := Lib.hid (Ext.trans (Ext.refl (w.alloc (.cells #[.slice iA p.items.length ic, .slice jA p.judges.length jc, .int .i64 p.wrong, .slice gA p.grades.length gc] 26))) hE1)
  obtain ⟨k0, k1, k2, k3⟩ := HB.out _ HE1.out
  clear hE1
  go_wp2_with fail
  refine (HG.out _ (HX.out.trans HE1.out)).mono ?_
  rintro e w2 ⟨rfl, hE2⟩
  have HE2 := Lib.hid (Ext.trans HE1.out hE2)
  obtain ⟨k0, k1, k2, k3⟩ := HB.out _ HE2.out
  have HE2b := Lib.hid (HE2.out.alloc (.cells #[.int .i64 lo, .int .i64 hi] 35))
  obtain ⟨k0, k1, k2, k3⟩ := HB.out _ HE2b.out
  have HSb := Lib.hid (Blk.new w2 35 #[.int .i64 lo, .int .i64 hi])
  clear hE2
  go_wp2_with fail
  refine (HS.out _ (HX.out.trans HE2b.out)).mono ?_
  rintro e w3 ⟨A, cc, rfl, _, hE3⟩
  have HE3 := Lib.hid (Ext.trans HE2b.out hE3)
  obtain ⟨k0, k1, k2, k3⟩ := HB.out _ HE3.out
  have HSb3 := Lib.hid (HSb.out.ext hE3)
  have s0 : w3.cell? ⟨w2.heap.size, 0, none⟩ = some (.int .i64 lo) := HSb3.out.cell 0
  have s1 : w3.cell? ⟨w2.heap.size, 1, none⟩ = some (.int .i64 hi) := HSb3.out.cell 1
  clear hE3
  go_wp2_with fail
  obtain ⟨C, hC⟩ : ∃ C : World → Prop, ∀ W, C W ↔ Ext w3 W := ⟨_, fun W => Iff.rfl⟩
  have HC := Lib.hid hC
  have HBx := Lib.hid (show ∀ W, C W → (W.cell? ⟨w2.heap.size, 0, none⟩ = some (.int .i64 lo) ∧ W.cell? ⟨w2.heap.size, 1, none⟩ = some (.int .i64 hi)) from fun W hW => by
    exact ⟨(HSb3.out.ext ((hC W).1 hW)).cell 0, (HSb3.out.ext ((hC W).1 hW)).cell 1⟩)
  clear hC k0 k1 k2 k3 s0 s1
  with_reducible refine wp_region_class C (by kernel_rfl) (by kernel_rfl) ((HC.out _).2 (Ext.refl _).drew) ?_
  repeat
    first
    | ((with_reducible refine wpQuiet_step (fun K hK => ?_))
       go_simp
       first
       | ((with_reducible refine hK _ ?_); clear hK K)
       | (with_reducible apply Exists.intro
          (with_reducible refine ⟨fun W hW => ?_, hK _ ?_⟩)
          · first | (obtain ⟨s0, s1⟩ := HBx.out W hW; go_simp <;> rfl)
          clear hK K))
    | ((with_reducible refine wpQuiet_skip ?_ (fun K hK => ?_))
       · kernel_rfl
       go_simp
       (with_reducible refine hK _ ?_)
       clear hK K)
  with_reducible refine wpQuiet_nil ?_
  intro w4 hw4
  have HE4 := Lib.hid (HE3.out.trans ((HC.out _).1 hw4))
  clear hw4
  go_wp2_with fail
  refine (works_any _).mono ?_
  rintro e w5 ⟨rfl, hE5⟩
  have HE5 := Lib.hid (Ext.trans HE4.out hE5)
  obtain ⟨k0, k1, k2, k3⟩ := HB.out _ HE5.out
  clear hE5
  go_wp2
  go_ret
  exact ⟨rfl, HX.out.trans HE5.out⟩

theorem shown_any (iA jA gA : Option Addr) (ic jc gc : Nat) (p : Paper) (g : Int) (w : World) (h : PaperAt w iA jA gA p) :
    Calls Try.prog 8 #[.agg #[.slice iA p.items.length ic, .slice jA p.judges.length jc, .int .i64 p.wrong, .slice gA p.grades.length gc], .int .i64 g] w fun e w' => e = .returned (.bool true) ∧ Ext w w' := by
  by_cases hc : readyM p = false ∨ g < 0 ∨ (p.grades.length : Int) < g
  · exact shown_early iA jA gA ic jc gc p g w h hc
  · have hr : readyM p = true := by
      cases hq : readyM p
      · exact absurd (.inl hq) hc
      · rfl
    rw [hr] at hc
    cases hp : (openM p).poss
    · exact shown_none iA jA gA ic jc gc p g w h hr (by omega) (by omega) hp
    · cases hs : getS (openM p).shown g with
      | none => exact shown_no iA jA gA ic jc gc p g w h hr (by omega) (by omega) hp hs
      | some v => exact shown_some iA jA gA ic jc gc p g w h v hr (by omega) (by omega) hp hs
end Go.Proofs.Ytbpilgflejdhaaa
