/- Exams: the walk over ExamsFewest. -/
import Derived.Test.YtbpilgflejdhaaaExX2
import Derived.Test.YtbpilgflejdhaaaExX4
import Derived.Test.YtbpilgflejdhaaaExLawN
import Derived.Test.YtbpilgflejdhaaaExS5
import Derived.Test.YtbpilgflejdhaaaExS5b
import Derived.Test.YtbpilgflejdhaaaExW
namespace Go.Proofs.Ytbpilgflejdhaaa
open Go.RowKit

theorem valid_wrong {p : Paper} (h : validB p = true) {n : Int} (hn : 0 ≤ n ∧ n ≤ 2) : validB { p with wrong := n } = true := by
  unfold validB headOk at h ⊢
  simp only [Bool.and_eq_true] at h ⊢
  obtain ⟨⟨⟨⟨⟨⟨a, b⟩, _⟩, d⟩, e⟩, f⟩, g⟩ := h
  exact ⟨⟨⟨⟨⟨⟨a, b⟩, wi_of hn⟩, d⟩, e⟩, f⟩, g⟩
theorem possible_wrong (p : Paper) (n : Int) (t : List Int) : isPossible { p with wrong := n } t = (isTruth p t && decide ((wrongs p t : Int) ≤ n)) := rfl
theorem poss_fewest {p : Paper} (hv : validB p = true) {n : Int} (hn : 0 ≤ n ∧ n ≤ 2) : (openM { p with wrong := n }).poss = decide ((openM p).fewest ≤ n) := by
  have hV := valid_of hv
  have hV' := valid_of (valid_wrong hv hn)
  obtain ⟨h1, t, ht, h2⟩ := open_fewest hV
  rw [Bool.eq_iff_iff, open_poss hV', decide_eq_true_eq]
  constructor
  · rintro ⟨u, hu⟩
    rw [possible_wrong] at hu
    simp only [Bool.and_eq_true, decide_eq_true_eq] at hu
    have := h1 u hu.1
    omega
  · intro h
    refine ⟨t, ?_⟩
    rw [possible_wrong]
    simp only [Bool.and_eq_true, decide_eq_true_eq]
    exact ⟨ht, by omega⟩
theorem known_wrong {p : Paper} (hv : validB p = true) {n : Int} (hn : 0 ≤ n ∧ n ≤ 2) : knownE { p with wrong := n } true = if (openM p).fewest ≤ n then 0 else 3 := by
  rw [known_true (valid_wrong hv hn), poss_fewest hv hn]
  by_cases h : (openM p).fewest ≤ n <;> simp [h]
theorem fewest_bd {p : Paper} (hV : Valid p) : 0 ≤ (openM p).fewest ∧ (openM p).fewest ≤ p.judges.length := by
  obtain ⟨_, t, _, h2⟩ := open_fewest hV
  have := wrongsTo_le p t p.judges.length
  unfold wrongs at h2
  omega

set_option maxHeartbeats 4000000 in
set_option maxRecDepth 100000 in
theorem fewest_early (iA jA gA tA : Option Addr) (ic jc gc tc : Nat) (p : Paper) (pts : List Int) (less : Int) (w : World) (h : PaperAt w iA jA gA p) (_hT : Ints w tA pts) (hl : pts.length ≤ 9223372036854775807) (hc : readyM p = false ∨ 20 < pts.length) :
    Calls Try.prog 6 #[.agg #[.slice iA p.items.length ic, .slice jA p.judges.length jc, .int .i64 p.wrong, .slice gA p.grades.length gc], .slice tA pts.length tc, .int .i64 less] w fun e w' => e = .returned (.bool true) ∧ Ext w w' := by
  have HX := Lib.hid (Ext.of_alloc w (.cells #[.slice iA p.items.length ic, .slice jA p.judges.length jc, .int .i64 p.wrong, .slice gA p.grades.length gc] 26))
  have HB := Lib.hid (show ∀ W, Ext (w.alloc (.cells #[.slice iA p.items.length ic, .slice jA p.judges.length jc, .int .i64 p.wrong, .slice gA p.grades.length gc] 26)) W → (W.cell? ⟨w.heap.size, 0, none⟩ = some (.slice iA p.items.length ic) ∧ W.cell? ⟨w.heap.size, 1, none⟩ = some (.slice jA p.judges.length jc) ∧ W.cell? ⟨w.heap.size, 2, none⟩ = some (.int .i64 p.wrong) ∧ W.cell? ⟨w.heap.size, 3, none⟩ = some (.slice gA p.grades.length gc)) from fun W e => ⟨e.box 0, e.box 1, e.box 2, e.box 3⟩)
  have HR := ready_any iA jA gA ic jc gc p _ (h.ext HX.out)
  cases hr : readyM p
  · rw [hr] at HR
    have HR := Lib.hid HR
    clear hr hc h _hT
    go_enter Try.func6, Try.ntmps6
    go_wp2_with fail
    refine (HR.out).mono ?_
    rintro e w1 ⟨rfl, hE1⟩
    have HE1 := Lib.hid ((Ext.refl (w.alloc (.cells #[.slice iA p.items.length ic, .slice jA p.judges.length jc, .int .i64 p.wrong, .slice gA p.grades.length gc] 26))).trans hE1)
    obtain ⟨k0, k1, k2, k3⟩ := HB.out _ HE1.out
    clear hE1
    go_wp2_with fail
    refine (works_any _).mono ?_
    rintro e w2 ⟨rfl, hE2⟩
    have HE2 := Lib.hid (HE1.out.trans hE2)
    obtain ⟨k0, k1, k2, k3⟩ := HB.out _ HE2.out
    clear hE2
    go_wp2
    go_ret
    exact ⟨rfl, HX.out.trans HE2.out⟩
  · rw [hr] at HR hc
    have HR := Lib.hid HR
    have hc' : (20 : Int) < pts.length := by
      rcases hc with hc | hc
      · cases hc
      · omega
    clear hr hc h _hT
    go_enter Try.func6, Try.ntmps6
    go_wp2_with fail
    refine (HR.out).mono ?_
    rintro e w1 ⟨rfl, hE1⟩
    have HE1 := Lib.hid ((Ext.refl (w.alloc (.cells #[.slice iA p.items.length ic, .slice jA p.judges.length jc, .int .i64 p.wrong, .slice gA p.grades.length gc] 26))).trans hE1)
    obtain ⟨k0, k1, k2, k3⟩ := HB.out _ HE1.out
    clear hE1
    go_wp2_with fail
    refine (works_any _).mono ?_
    rintro e w2 ⟨rfl, hE2⟩
    have HE2 := Lib.hid (HE1.out.trans hE2)
    obtain ⟨k0, k1, k2, k3⟩ := HB.out _ HE2.out
    clear hE2
    go_wp2
    go_ret
    exact ⟨rfl, HX.out.trans HE2.out⟩

set_option maxHeartbeats 4000000 in
set_option maxRecDepth 100000 in
theorem fewest_f1a (iA jA gA tA : Option Addr) (ic jc gc tc : Nat) (p : Paper) (pts : List Int) (less : Int) (w : World) (h : PaperAt w iA jA gA p) (hT : Ints w tA pts) (hl : pts.length ≤ 9223372036854775807) (hr : readyM p = true) (ho : pts.length ≤ 20) (ht : isTruth p pts = false) (hn2 : (openM p).fewest ≤ 2) (hls : less < 1) :
    Calls Try.prog 6 #[.agg #[.slice iA p.items.length ic, .slice jA p.judges.length jc, .int .i64 p.wrong, .slice gA p.grades.length gc], .slice tA pts.length tc, .int .i64 less] w fun e w' => e = .returned (.bool true) ∧ Ext w w' := by
  have HX := Lib.hid (Ext.of_alloc w (.cells #[.slice iA p.items.length ic, .slice jA p.judges.length jc, .int .i64 p.wrong, .slice gA p.grades.length gc] 26))
  have HB := Lib.hid (show ∀ W, Ext (w.alloc (.cells #[.slice iA p.items.length ic, .slice jA p.judges.length jc, .int .i64 p.wrong, .slice gA p.grades.length gc] 26)) W → (W.cell? ⟨w.heap.size, 0, none⟩ = some (.slice iA p.items.length ic) ∧ W.cell? ⟨w.heap.size, 1, none⟩ = some (.slice jA p.judges.length jc) ∧ W.cell? ⟨w.heap.size, 2, none⟩ = some (.int .i64 p.wrong) ∧ W.cell? ⟨w.heap.size, 3, none⟩ = some (.slice gA p.grades.length gc)) from fun W e => ⟨e.box 0, e.box 1, e.box 2, e.box 3⟩)
  have HR := ready_any iA jA gA ic jc gc p _ (h.ext HX.out)
  rw [hr] at HR
  have HR := Lib.hid HR
  obtain ⟨hv, hj3, hi20, hj20, hg20⟩ := ready_valid hr
  have hV := valid_of hv
  obtain ⟨n, hn⟩ : ∃ n, (openM p).fewest = n := ⟨_, rfl⟩
  have hbd := fewest_bd hV
  rw [hn] at hbd
  obtain ⟨hb0, hb1⟩ := hbd
  have HF := Lib.hid (fun W (e : Ext w W) => fewest_any iA jA gA ic jc gc p n 0 W (h.ext e) (by unfold fewestM; rw [hv, ← hn]; rfl))
  have HIT := Lib.hid (fun W (e : Ext w W) => isTruth_any iA jA gA tA ic jc gc tc p.judges.length p.grades.length p.wrong p pts W (h.items.ext e) h.il (hT.ext e) hl)
  have hmk : ∀ k, k < p.judges.length → (p.judges.getD k default).marks.length ≤ 20 := fun k hk => by
    have h1 := (hV.ju k hk).2.2.2.2.2
    have h2 := hV.il.2
    omega
  have HCp := Lib.hid (fun W (e : Ext w W) => copy_any iA jA gA ic jc gc p W (h.ext e) hi20 hj20 hg20 hmk)
  have HRng := Lib.hid (show ∀ (k c : Int), 0 ≤ k ∧ k ≤ 2 → c = (if n ≤ k then 0 else 3) → ∃ lo hi : Int, ∀ iA jA gA ic jc gc ms B W, CopyAt W B iA jA gA ic jc gc p ms → Calls Try.prog 19 #[.agg #[.slice iA p.items.length ic, .slice jA p.judges.length jc, .int .i64 k, .slice gA p.grades.length gc]] W fun e w' => e = .returned (.tuple #[.agg #[.int .i64 lo, .int .i64 hi], .int .i64 c]) ∧ Ext W w' from fun k c hk hc => by
    have hkn := known_wrong hv hk
    rw [hn, ← hc] at hkn
    refine ⟨(rangeM { p with wrong := k }).1.1, (rangeM { p with wrong := k }).1.2, fun iA jA gA ic jc gc ms B W hcp => ?_⟩
    refine range_any iA jA gA ic jc gc { p with wrong := k } _ _ c W ((hcp.wrong k).paper (by show p.items.length ≤ _; omega) (by show p.judges.length ≤ _; omega) (by show p.grades.length ≤ _; omega) (fun q hq => by have := hmk q hq; show (p.judges.getD q default).marks.length ≤ _; omega)) ?_
    unfold rangeM
    rw [hkn]
    by_cases h0 : c = 0
    · rw [h0]; rfl
    · rw [if_neg h0])
  have ho' : (pts.length : Int) ≤ 20 := by omega
  have hjl : (n : Int) ≤ p.judges.length := hb1
  rw [hn] at hn2
  have HTr := HIT.out
  rw [ht] at HTr
  have HTr := Lib.hid HTr
  obtain ⟨lo1, hi1, hR1⟩ := HRng.out n 0 ⟨hb0, hn2⟩ (by rw [if_pos (Int.le_refl n)])
  have HR1 := Lib.hid hR1
  clear hR1
  clear h hT hr ht hV hv hn HRng HIT hmk
  go_enter Try.func6, Try.ntmps6
  go_wp2_with fail
  refine (HR.out).mono ?_
  rintro e w1 ⟨rfl, hE1⟩
  have HE1 := Lib.hid ((Ext.refl (w.alloc (.cells #[.slice iA p.items.length ic, .slice jA p.judges.length jc, .int .i64 p.wrong, .slice gA p.grades.length gc] 26))).trans hE1)
  obtain ⟨k0, k1, k2, k3⟩ := HB.out _ HE1.out
  clear hE1
  go_wp2_with fail
  refine (HF.out _ (HX.out.trans HE1.out)).mono ?_
  rintro e w2 ⟨rfl, hE2⟩
  have HE2 := Lib.hid (HE1.out.trans hE2)
  obtain ⟨k0, k1, k2, k3⟩ := HB.out _ HE2.out
  clear hE2
  go_wp2_with fail
  refine (HTr.out _ (HX.out.trans HE2.out)).mono ?_
  rintro e w3 ⟨rfl, hE3⟩
  have HE3 := Lib.hid (HE2.out.trans hE3)
  obtain ⟨k0, k1, k2, k3⟩ := HB.out _ HE3.out
  clear hE3
  go_wp2_with fail
  refine (HCp.out _ (HX.out.trans HE3.out)).mono ?_
  rintro e w4 ⟨iA4, jA4, gA4, ic4, jc4, gc4, rfl, hE4, ms4, hcp4⟩
  have HE4 := Lib.hid (HE3.out.trans hE4)
  obtain ⟨k0, k1, k2, k3⟩ := HB.out _ HE4.out
  have HCp4 := Lib.hid hcp4
  clear hcp4
  clear hE4
  go_wp2_with fail
  refine (HR1.out _ _ _ _ _ _ _ _ _ (HCp4.out.ext (Ext.of_alloc w4 (.cells #[.slice iA4 p.items.length ic4, .slice jA4 p.judges.length jc4, .int .i64 n, .slice gA4 p.grades.length gc4] 26)))).mono ?_
  rintro e w5 ⟨rfl, hE5⟩
  have HE5 := Lib.hid ((HE4.out.trans (Ext.of_alloc w4 (.cells #[.slice iA4 p.items.length ic4, .slice jA4 p.judges.length jc4, .int .i64 n, .slice gA4 p.grades.length gc4] 26))).trans hE5)
  have HE5b := Lib.hid (HE5.out.alloc (.cells #[.int .i64 lo1, .int .i64 hi1] 35))
  obtain ⟨k0, k1, k2, k3⟩ := HB.out _ HE5b.out
  clear hE5
  go_wp2_with fail
  refine (works_any _).mono ?_
  rintro e w6 ⟨rfl, hE6⟩
  have HE6 := Lib.hid (HE5b.out.trans hE6)
  obtain ⟨k0, k1, k2, k3⟩ := HB.out _ HE6.out
  clear hE6
  go_wp2
  go_ret
  exact ⟨rfl, HX.out.trans HE6.out⟩

set_option maxHeartbeats 4000000 in
set_option maxRecDepth 100000 in
theorem fewest_f1b (iA jA gA tA : Option Addr) (ic jc gc tc : Nat) (p : Paper) (pts : List Int) (less : Int) (w : World) (h : PaperAt w iA jA gA p) (hT : Ints w tA pts) (hl : pts.length ≤ 9223372036854775807) (hr : readyM p = true) (ho : pts.length ≤ 20) (ht : isTruth p pts = false) (hn2 : (openM p).fewest ≤ 2) (hls : 1 ≤ less) (hls2 : (openM p).fewest < less) :
    Calls Try.prog 6 #[.agg #[.slice iA p.items.length ic, .slice jA p.judges.length jc, .int .i64 p.wrong, .slice gA p.grades.length gc], .slice tA pts.length tc, .int .i64 less] w fun e w' => e = .returned (.bool true) ∧ Ext w w' := by
  have HX := Lib.hid (Ext.of_alloc w (.cells #[.slice iA p.items.length ic, .slice jA p.judges.length jc, .int .i64 p.wrong, .slice gA p.grades.length gc] 26))
  have HB := Lib.hid (show ∀ W, Ext (w.alloc (.cells #[.slice iA p.items.length ic, .slice jA p.judges.length jc, .int .i64 p.wrong, .slice gA p.grades.length gc] 26)) W → (W.cell? ⟨w.heap.size, 0, none⟩ = some (.slice iA p.items.length ic) ∧ W.cell? ⟨w.heap.size, 1, none⟩ = some (.slice jA p.judges.length jc) ∧ W.cell? ⟨w.heap.size, 2, none⟩ = some (.int .i64 p.wrong) ∧ W.cell? ⟨w.heap.size, 3, none⟩ = some (.slice gA p.grades.length gc)) from fun W e => ⟨e.box 0, e.box 1, e.box 2, e.box 3⟩)
  have HR := ready_any iA jA gA ic jc gc p _ (h.ext HX.out)
  rw [hr] at HR
  have HR := Lib.hid HR
  obtain ⟨hv, hj3, hi20, hj20, hg20⟩ := ready_valid hr
  have hV := valid_of hv
  obtain ⟨n, hn⟩ : ∃ n, (openM p).fewest = n := ⟨_, rfl⟩
  have hbd := fewest_bd hV
  rw [hn] at hbd
  obtain ⟨hb0, hb1⟩ := hbd
  have HF := Lib.hid (fun W (e : Ext w W) => fewest_any iA jA gA ic jc gc p n 0 W (h.ext e) (by unfold fewestM; rw [hv, ← hn]; rfl))
  have HIT := Lib.hid (fun W (e : Ext w W) => isTruth_any iA jA gA tA ic jc gc tc p.judges.length p.grades.length p.wrong p pts W (h.items.ext e) h.il (hT.ext e) hl)
  have hmk : ∀ k, k < p.judges.length → (p.judges.getD k default).marks.length ≤ 20 := fun k hk => by
    have h1 := (hV.ju k hk).2.2.2.2.2
    have h2 := hV.il.2
    omega
  have HCp := Lib.hid (fun W (e : Ext w W) => copy_any iA jA gA ic jc gc p W (h.ext e) hi20 hj20 hg20 hmk)
  have HRng := Lib.hid (show ∀ (k c : Int), 0 ≤ k ∧ k ≤ 2 → c = (if n ≤ k then 0 else 3) → ∃ lo hi : Int, ∀ iA jA gA ic jc gc ms B W, CopyAt W B iA jA gA ic jc gc p ms → Calls Try.prog 19 #[.agg #[.slice iA p.items.length ic, .slice jA p.judges.length jc, .int .i64 k, .slice gA p.grades.length gc]] W fun e w' => e = .returned (.tuple #[.agg #[.int .i64 lo, .int .i64 hi], .int .i64 c]) ∧ Ext W w' from fun k c hk hc => by
    have hkn := known_wrong hv hk
    rw [hn, ← hc] at hkn
    refine ⟨(rangeM { p with wrong := k }).1.1, (rangeM { p with wrong := k }).1.2, fun iA jA gA ic jc gc ms B W hcp => ?_⟩
    refine range_any iA jA gA ic jc gc { p with wrong := k } _ _ c W ((hcp.wrong k).paper (by show p.items.length ≤ _; omega) (by show p.judges.length ≤ _; omega) (by show p.grades.length ≤ _; omega) (fun q hq => by have := hmk q hq; show (p.judges.getD q default).marks.length ≤ _; omega)) ?_
    unfold rangeM
    rw [hkn]
    by_cases h0 : c = 0
    · rw [h0]; rfl
    · rw [if_neg h0])
  have ho' : (pts.length : Int) ≤ 20 := by omega
  have hjl : (n : Int) ≤ p.judges.length := hb1
  rw [hn] at hn2
  rw [hn] at hls2
  have HTr := HIT.out
  rw [ht] at HTr
  have HTr := Lib.hid HTr
  obtain ⟨lo1, hi1, hR1⟩ := HRng.out n 0 ⟨hb0, hn2⟩ (by rw [if_pos (Int.le_refl n)])
  have HR1 := Lib.hid hR1
  clear hR1
  clear h hT hr ht hV hv hn HRng HIT hmk
  go_enter Try.func6, Try.ntmps6
  go_wp2_with fail
  refine (HR.out).mono ?_
  rintro e w1 ⟨rfl, hE1⟩
  have HE1 := Lib.hid ((Ext.refl (w.alloc (.cells #[.slice iA p.items.length ic, .slice jA p.judges.length jc, .int .i64 p.wrong, .slice gA p.grades.length gc] 26))).trans hE1)
  obtain ⟨k0, k1, k2, k3⟩ := HB.out _ HE1.out
  clear hE1
  go_wp2_with fail
  refine (HF.out _ (HX.out.trans HE1.out)).mono ?_
  rintro e w2 ⟨rfl, hE2⟩
  have HE2 := Lib.hid (HE1.out.trans hE2)
  obtain ⟨k0, k1, k2, k3⟩ := HB.out _ HE2.out
  clear hE2
  go_wp2_with fail
  refine (HTr.out _ (HX.out.trans HE2.out)).mono ?_
  rintro e w3 ⟨rfl, hE3⟩
  have HE3 := Lib.hid (HE2.out.trans hE3)
  obtain ⟨k0, k1, k2, k3⟩ := HB.out _ HE3.out
  clear hE3
  go_wp2_with fail
  refine (HCp.out _ (HX.out.trans HE3.out)).mono ?_
  rintro e w4 ⟨iA4, jA4, gA4, ic4, jc4, gc4, rfl, hE4, ms4, hcp4⟩
  have HE4 := Lib.hid (HE3.out.trans hE4)
  obtain ⟨k0, k1, k2, k3⟩ := HB.out _ HE4.out
  have HCp4 := Lib.hid hcp4
  clear hcp4
  clear hE4
  go_wp2_with fail
  refine (HR1.out _ _ _ _ _ _ _ _ _ (HCp4.out.ext (Ext.of_alloc w4 (.cells #[.slice iA4 p.items.length ic4, .slice jA4 p.judges.length jc4, .int .i64 n, .slice gA4 p.grades.length gc4] 26)))).mono ?_
  rintro e w5 ⟨rfl, hE5⟩
  have HE5 := Lib.hid ((HE4.out.trans (Ext.of_alloc w4 (.cells #[.slice iA4 p.items.length ic4, .slice jA4 p.judges.length jc4, .int .i64 n, .slice gA4 p.grades.length gc4] 26))).trans hE5)
  have HE5b := Lib.hid (HE5.out.alloc (.cells #[.int .i64 lo1, .int .i64 hi1] 35))
  obtain ⟨k0, k1, k2, k3⟩ := HB.out _ HE5b.out
  clear hE5
  go_wp2_with fail
  refine (works_any _).mono ?_
  rintro e w6 ⟨rfl, hE6⟩
  have HE6 := Lib.hid (HE5b.out.trans hE6)
  obtain ⟨k0, k1, k2, k3⟩ := HB.out _ HE6.out
  clear hE6
  go_wp2
  go_ret
  exact ⟨rfl, HX.out.trans HE6.out⟩

set_option maxHeartbeats 4000000 in
set_option maxRecDepth 100000 in
theorem fewest_f1d (iA jA gA tA : Option Addr) (ic jc gc tc : Nat) (p : Paper) (pts : List Int) (less : Int) (w : World) (h : PaperAt w iA jA gA p) (hT : Ints w tA pts) (hl : pts.length ≤ 9223372036854775807) (hr : readyM p = true) (ho : pts.length ≤ 20) (ht : isTruth p pts = false) (hn2 : (openM p).fewest ≤ 2) (hls : 1 ≤ less) (hls2 : less ≤ (openM p).fewest) (hls3 : (openM p).fewest - less ≤ 2) :
    Calls Try.prog 6 #[.agg #[.slice iA p.items.length ic, .slice jA p.judges.length jc, .int .i64 p.wrong, .slice gA p.grades.length gc], .slice tA pts.length tc, .int .i64 less] w fun e w' => e = .returned (.bool true) ∧ Ext w w' := by
  have HX := Lib.hid (Ext.of_alloc w (.cells #[.slice iA p.items.length ic, .slice jA p.judges.length jc, .int .i64 p.wrong, .slice gA p.grades.length gc] 26))
  have HB := Lib.hid (show ∀ W, Ext (w.alloc (.cells #[.slice iA p.items.length ic, .slice jA p.judges.length jc, .int .i64 p.wrong, .slice gA p.grades.length gc] 26)) W → (W.cell? ⟨w.heap.size, 0, none⟩ = some (.slice iA p.items.length ic) ∧ W.cell? ⟨w.heap.size, 1, none⟩ = some (.slice jA p.judges.length jc) ∧ W.cell? ⟨w.heap.size, 2, none⟩ = some (.int .i64 p.wrong) ∧ W.cell? ⟨w.heap.size, 3, none⟩ = some (.slice gA p.grades.length gc)) from fun W e => ⟨e.box 0, e.box 1, e.box 2, e.box 3⟩)
  have HR := ready_any iA jA gA ic jc gc p _ (h.ext HX.out)
  rw [hr] at HR
  have HR := Lib.hid HR
  obtain ⟨hv, hj3, hi20, hj20, hg20⟩ := ready_valid hr
  have hV := valid_of hv
  obtain ⟨n, hn⟩ : ∃ n, (openM p).fewest = n := ⟨_, rfl⟩
  have hbd := fewest_bd hV
  rw [hn] at hbd
  obtain ⟨hb0, hb1⟩ := hbd
  have HF := Lib.hid (fun W (e : Ext w W) => fewest_any iA jA gA ic jc gc p n 0 W (h.ext e) (by unfold fewestM; rw [hv, ← hn]; rfl))
  have HIT := Lib.hid (fun W (e : Ext w W) => isTruth_any iA jA gA tA ic jc gc tc p.judges.length p.grades.length p.wrong p pts W (h.items.ext e) h.il (hT.ext e) hl)
  have hmk : ∀ k, k < p.judges.length → (p.judges.getD k default).marks.length ≤ 20 := fun k hk => by
    have h1 := (hV.ju k hk).2.2.2.2.2
    have h2 := hV.il.2
    omega
  have HCp := Lib.hid (fun W (e : Ext w W) => copy_any iA jA gA ic jc gc p W (h.ext e) hi20 hj20 hg20 hmk)
  have HRng := Lib.hid (show ∀ (k c : Int), 0 ≤ k ∧ k ≤ 2 → c = (if n ≤ k then 0 else 3) → ∃ lo hi : Int, ∀ iA jA gA ic jc gc ms B W, CopyAt W B iA jA gA ic jc gc p ms → Calls Try.prog 19 #[.agg #[.slice iA p.items.length ic, .slice jA p.judges.length jc, .int .i64 k, .slice gA p.grades.length gc]] W fun e w' => e = .returned (.tuple #[.agg #[.int .i64 lo, .int .i64 hi], .int .i64 c]) ∧ Ext W w' from fun k c hk hc => by
    have hkn := known_wrong hv hk
    rw [hn, ← hc] at hkn
    refine ⟨(rangeM { p with wrong := k }).1.1, (rangeM { p with wrong := k }).1.2, fun iA jA gA ic jc gc ms B W hcp => ?_⟩
    refine range_any iA jA gA ic jc gc { p with wrong := k } _ _ c W ((hcp.wrong k).paper (by show p.items.length ≤ _; omega) (by show p.judges.length ≤ _; omega) (by show p.grades.length ≤ _; omega) (fun q hq => by have := hmk q hq; show (p.judges.getD q default).marks.length ≤ _; omega)) ?_
    unfold rangeM
    rw [hkn]
    by_cases h0 : c = 0
    · rw [h0]; rfl
    · rw [if_neg h0])
  have ho' : (pts.length : Int) ≤ 20 := by omega
  have hjl : (n : Int) ≤ p.judges.length := hb1
  rw [hn] at hn2
  rw [hn] at hls2
  rw [hn] at hls3
  have HTr := HIT.out
  rw [ht] at HTr
  have HTr := Lib.hid HTr
  obtain ⟨lo1, hi1, hR1⟩ := HRng.out n 0 ⟨hb0, hn2⟩ (by rw [if_pos (Int.le_refl n)])
  have HR1 := Lib.hid hR1
  clear hR1
  obtain ⟨lo2, hi2, hR2⟩ := HRng.out (n - less) 3 ⟨by omega, hls3⟩ (by rw [if_neg (by omega)])
  have HR2 := Lib.hid hR2
  clear hR2
  clear h hT hr ht hV hv hn HRng HIT hmk
  go_enter Try.func6, Try.ntmps6
  go_wp2_with fail
  refine (HR.out).mono ?_
  rintro e w1 ⟨rfl, hE1⟩
  have HE1 := Lib.hid ((Ext.refl (w.alloc (.cells #[.slice iA p.items.length ic, .slice jA p.judges.length jc, .int .i64 p.wrong, .slice gA p.grades.length gc] 26))).trans hE1)
  obtain ⟨k0, k1, k2, k3⟩ := HB.out _ HE1.out
  clear hE1
  go_wp2_with fail
  refine (HF.out _ (HX.out.trans HE1.out)).mono ?_
  rintro e w2 ⟨rfl, hE2⟩
  have HE2 := Lib.hid (HE1.out.trans hE2)
  obtain ⟨k0, k1, k2, k3⟩ := HB.out _ HE2.out
  clear hE2
  go_wp2_with fail
  refine (HTr.out _ (HX.out.trans HE2.out)).mono ?_
  rintro e w3 ⟨rfl, hE3⟩
  have HE3 := Lib.hid (HE2.out.trans hE3)
  obtain ⟨k0, k1, k2, k3⟩ := HB.out _ HE3.out
  clear hE3
  go_wp2_with fail
  refine (HCp.out _ (HX.out.trans HE3.out)).mono ?_
  rintro e w4 ⟨iA4, jA4, gA4, ic4, jc4, gc4, rfl, hE4, ms4, hcp4⟩
  have HE4 := Lib.hid (HE3.out.trans hE4)
  obtain ⟨k0, k1, k2, k3⟩ := HB.out _ HE4.out
  have HCp4 := Lib.hid hcp4
  clear hcp4
  clear hE4
  go_wp2_with fail
  refine (HR1.out _ _ _ _ _ _ _ _ _ (HCp4.out.ext (Ext.of_alloc w4 (.cells #[.slice iA4 p.items.length ic4, .slice jA4 p.judges.length jc4, .int .i64 n, .slice gA4 p.grades.length gc4] 26)))).mono ?_
  rintro e w5 ⟨rfl, hE5⟩
  have HE5 := Lib.hid ((HE4.out.trans (Ext.of_alloc w4 (.cells #[.slice iA4 p.items.length ic4, .slice jA4 p.judges.length jc4, .int .i64 n, .slice gA4 p.grades.length gc4] 26))).trans hE5)
  have HE5b := Lib.hid (HE5.out.alloc (.cells #[.int .i64 lo1, .int .i64 hi1] 35))
  obtain ⟨k0, k1, k2, k3⟩ := HB.out _ HE5b.out
  clear hE5
  go_wp2_with fail
  refine (HCp.out _ (HX.out.trans HE5b.out)).mono ?_
  rintro e w6 ⟨iA6, jA6, gA6, ic6, jc6, gc6, rfl, hE6, ms6, hcp6⟩
  have HE6 := Lib.hid (HE5b.out.trans hE6)
  obtain ⟨k0, k1, k2, k3⟩ := HB.out _ HE6.out
  have HCp6 := Lib.hid hcp6
  clear hcp6
  clear hE6
  go_wp2_with fail
  refine (HR2.out _ _ _ _ _ _ _ _ _ (HCp6.out.ext (Ext.of_alloc w6 (.cells #[.slice iA6 p.items.length ic6, .slice jA6 p.judges.length jc6, .int .i64 (n - less), .slice gA6 p.grades.length gc6] 26)))).mono ?_
  rintro e w7 ⟨rfl, hE7⟩
  have HE7 := Lib.hid ((HE6.out.trans (Ext.of_alloc w6 (.cells #[.slice iA6 p.items.length ic6, .slice jA6 p.judges.length jc6, .int .i64 (n - less), .slice gA6 p.grades.length gc6] 26))).trans hE7)
  have HE7b := Lib.hid (HE7.out.alloc (.cells #[.int .i64 lo2, .int .i64 hi2] 35))
  obtain ⟨k0, k1, k2, k3⟩ := HB.out _ HE7b.out
  clear hE7
  go_wp2_with fail
  refine (works_any _).mono ?_
  rintro e w8 ⟨rfl, hE8⟩
  have HE8 := Lib.hid (HE7b.out.trans hE8)
  obtain ⟨k0, k1, k2, k3⟩ := HB.out _ HE8.out
  clear hE8
  go_wp2
  go_ret
  exact ⟨rfl, HX.out.trans HE8.out⟩

set_option maxHeartbeats 4000000 in
set_option maxRecDepth 100000 in
theorem fewest_f0a (iA jA gA tA : Option Addr) (ic jc gc tc : Nat) (p : Paper) (pts : List Int) (less : Int) (w : World) (h : PaperAt w iA jA gA p) (hT : Ints w tA pts) (hl : pts.length ≤ 9223372036854775807) (hr : readyM p = true) (ho : pts.length ≤ 20) (ht : isTruth p pts = false) (hn2 : 2 < (openM p).fewest) (hls : less < 1) :
    Calls Try.prog 6 #[.agg #[.slice iA p.items.length ic, .slice jA p.judges.length jc, .int .i64 p.wrong, .slice gA p.grades.length gc], .slice tA pts.length tc, .int .i64 less] w fun e w' => e = .returned (.bool true) ∧ Ext w w' := by
  have HX := Lib.hid (Ext.of_alloc w (.cells #[.slice iA p.items.length ic, .slice jA p.judges.length jc, .int .i64 p.wrong, .slice gA p.grades.length gc] 26))
  have HB := Lib.hid (show ∀ W, Ext (w.alloc (.cells #[.slice iA p.items.length ic, .slice jA p.judges.length jc, .int .i64 p.wrong, .slice gA p.grades.length gc] 26)) W → (W.cell? ⟨w.heap.size, 0, none⟩ = some (.slice iA p.items.length ic) ∧ W.cell? ⟨w.heap.size, 1, none⟩ = some (.slice jA p.judges.length jc) ∧ W.cell? ⟨w.heap.size, 2, none⟩ = some (.int .i64 p.wrong) ∧ W.cell? ⟨w.heap.size, 3, none⟩ = some (.slice gA p.grades.length gc)) from fun W e => ⟨e.box 0, e.box 1, e.box 2, e.box 3⟩)
  have HR := ready_any iA jA gA ic jc gc p _ (h.ext HX.out)
  rw [hr] at HR
  have HR := Lib.hid HR
  obtain ⟨hv, hj3, hi20, hj20, hg20⟩ := ready_valid hr
  have hV := valid_of hv
  obtain ⟨n, hn⟩ : ∃ n, (openM p).fewest = n := ⟨_, rfl⟩
  have hbd := fewest_bd hV
  rw [hn] at hbd
  obtain ⟨hb0, hb1⟩ := hbd
  have HF := Lib.hid (fun W (e : Ext w W) => fewest_any iA jA gA ic jc gc p n 0 W (h.ext e) (by unfold fewestM; rw [hv, ← hn]; rfl))
  have HIT := Lib.hid (fun W (e : Ext w W) => isTruth_any iA jA gA tA ic jc gc tc p.judges.length p.grades.length p.wrong p pts W (h.items.ext e) h.il (hT.ext e) hl)
  have hmk : ∀ k, k < p.judges.length → (p.judges.getD k default).marks.length ≤ 20 := fun k hk => by
    have h1 := (hV.ju k hk).2.2.2.2.2
    have h2 := hV.il.2
    omega
  have HCp := Lib.hid (fun W (e : Ext w W) => copy_any iA jA gA ic jc gc p W (h.ext e) hi20 hj20 hg20 hmk)
  have HRng := Lib.hid (show ∀ (k c : Int), 0 ≤ k ∧ k ≤ 2 → c = (if n ≤ k then 0 else 3) → ∃ lo hi : Int, ∀ iA jA gA ic jc gc ms B W, CopyAt W B iA jA gA ic jc gc p ms → Calls Try.prog 19 #[.agg #[.slice iA p.items.length ic, .slice jA p.judges.length jc, .int .i64 k, .slice gA p.grades.length gc]] W fun e w' => e = .returned (.tuple #[.agg #[.int .i64 lo, .int .i64 hi], .int .i64 c]) ∧ Ext W w' from fun k c hk hc => by
    have hkn := known_wrong hv hk
    rw [hn, ← hc] at hkn
    refine ⟨(rangeM { p with wrong := k }).1.1, (rangeM { p with wrong := k }).1.2, fun iA jA gA ic jc gc ms B W hcp => ?_⟩
    refine range_any iA jA gA ic jc gc { p with wrong := k } _ _ c W ((hcp.wrong k).paper (by show p.items.length ≤ _; omega) (by show p.judges.length ≤ _; omega) (by show p.grades.length ≤ _; omega) (fun q hq => by have := hmk q hq; show (p.judges.getD q default).marks.length ≤ _; omega)) ?_
    unfold rangeM
    rw [hkn]
    by_cases h0 : c = 0
    · rw [h0]; rfl
    · rw [if_neg h0])
  have ho' : (pts.length : Int) ≤ 20 := by omega
  have hjl : (n : Int) ≤ p.judges.length := hb1
  rw [hn] at hn2
  have HTr := HIT.out
  rw [ht] at HTr
  have HTr := Lib.hid HTr
  clear h hT hr ht hV hv hn HRng HIT hmk
  go_enter Try.func6, Try.ntmps6
  go_wp2_with fail
  refine (HR.out).mono ?_
  rintro e w1 ⟨rfl, hE1⟩
  have HE1 := Lib.hid ((Ext.refl (w.alloc (.cells #[.slice iA p.items.length ic, .slice jA p.judges.length jc, .int .i64 p.wrong, .slice gA p.grades.length gc] 26))).trans hE1)
  obtain ⟨k0, k1, k2, k3⟩ := HB.out _ HE1.out
  clear hE1
  go_wp2_with fail
  refine (HF.out _ (HX.out.trans HE1.out)).mono ?_
  rintro e w2 ⟨rfl, hE2⟩
  have HE2 := Lib.hid (HE1.out.trans hE2)
  obtain ⟨k0, k1, k2, k3⟩ := HB.out _ HE2.out
  clear hE2
  go_wp2_with fail
  refine (HTr.out _ (HX.out.trans HE2.out)).mono ?_
  rintro e w3 ⟨rfl, hE3⟩
  have HE3 := Lib.hid (HE2.out.trans hE3)
  obtain ⟨k0, k1, k2, k3⟩ := HB.out _ HE3.out
  clear hE3
  go_wp2_with fail
  refine (works_any _).mono ?_
  rintro e w4 ⟨rfl, hE4⟩
  have HE4 := Lib.hid (HE3.out.trans hE4)
  obtain ⟨k0, k1, k2, k3⟩ := HB.out _ HE4.out
  clear hE4
  go_wp2
  go_ret
  exact ⟨rfl, HX.out.trans HE4.out⟩

set_option maxHeartbeats 4000000 in
set_option maxRecDepth 100000 in
theorem fewest_f0b (iA jA gA tA : Option Addr) (ic jc gc tc : Nat) (p : Paper) (pts : List Int) (less : Int) (w : World) (h : PaperAt w iA jA gA p) (hT : Ints w tA pts) (hl : pts.length ≤ 9223372036854775807) (hr : readyM p = true) (ho : pts.length ≤ 20) (ht : isTruth p pts = false) (hn2 : 2 < (openM p).fewest) (hls : 1 ≤ less) (hls2 : (openM p).fewest < less) :
    Calls Try.prog 6 #[.agg #[.slice iA p.items.length ic, .slice jA p.judges.length jc, .int .i64 p.wrong, .slice gA p.grades.length gc], .slice tA pts.length tc, .int .i64 less] w fun e w' => e = .returned (.bool true) ∧ Ext w w' := by
  have HX := Lib.hid (Ext.of_alloc w (.cells #[.slice iA p.items.length ic, .slice jA p.judges.length jc, .int .i64 p.wrong, .slice gA p.grades.length gc] 26))
  have HB := Lib.hid (show ∀ W, Ext (w.alloc (.cells #[.slice iA p.items.length ic, .slice jA p.judges.length jc, .int .i64 p.wrong, .slice gA p.grades.length gc] 26)) W → (W.cell? ⟨w.heap.size, 0, none⟩ = some (.slice iA p.items.length ic) ∧ W.cell? ⟨w.heap.size, 1, none⟩ = some (.slice jA p.judges.length jc) ∧ W.cell? ⟨w.heap.size, 2, none⟩ = some (.int .i64 p.wrong) ∧ W.cell? ⟨w.heap.size, 3, none⟩ = some (.slice gA p.grades.length gc)) from fun W e => ⟨e.box 0, e.box 1, e.box 2, e.box 3⟩)
  have HR := ready_any iA jA gA ic jc gc p _ (h.ext HX.out)
  rw [hr] at HR
  have HR := Lib.hid HR
  obtain ⟨hv, hj3, hi20, hj20, hg20⟩ := ready_valid hr
  have hV := valid_of hv
  obtain ⟨n, hn⟩ : ∃ n, (openM p).fewest = n := ⟨_, rfl⟩
  have hbd := fewest_bd hV
  rw [hn] at hbd
  obtain ⟨hb0, hb1⟩ := hbd
  have HF := Lib.hid (fun W (e : Ext w W) => fewest_any iA jA gA ic jc gc p n 0 W (h.ext e) (by unfold fewestM; rw [hv, ← hn]; rfl))
  have HIT := Lib.hid (fun W (e : Ext w W) => isTruth_any iA jA gA tA ic jc gc tc p.judges.length p.grades.length p.wrong p pts W (h.items.ext e) h.il (hT.ext e) hl)
  have hmk : ∀ k, k < p.judges.length → (p.judges.getD k default).marks.length ≤ 20 := fun k hk => by
    have h1 := (hV.ju k hk).2.2.2.2.2
    have h2 := hV.il.2
    omega
  have HCp := Lib.hid (fun W (e : Ext w W) => copy_any iA jA gA ic jc gc p W (h.ext e) hi20 hj20 hg20 hmk)
  have HRng := Lib.hid (show ∀ (k c : Int), 0 ≤ k ∧ k ≤ 2 → c = (if n ≤ k then 0 else 3) → ∃ lo hi : Int, ∀ iA jA gA ic jc gc ms B W, CopyAt W B iA jA gA ic jc gc p ms → Calls Try.prog 19 #[.agg #[.slice iA p.items.length ic, .slice jA p.judges.length jc, .int .i64 k, .slice gA p.grades.length gc]] W fun e w' => e = .returned (.tuple #[.agg #[.int .i64 lo, .int .i64 hi], .int .i64 c]) ∧ Ext W w' from fun k c hk hc => by
    have hkn := known_wrong hv hk
    rw [hn, ← hc] at hkn
    refine ⟨(rangeM { p with wrong := k }).1.1, (rangeM { p with wrong := k }).1.2, fun iA jA gA ic jc gc ms B W hcp => ?_⟩
    refine range_any iA jA gA ic jc gc { p with wrong := k } _ _ c W ((hcp.wrong k).paper (by show p.items.length ≤ _; omega) (by show p.judges.length ≤ _; omega) (by show p.grades.length ≤ _; omega) (fun q hq => by have := hmk q hq; show (p.judges.getD q default).marks.length ≤ _; omega)) ?_
    unfold rangeM
    rw [hkn]
    by_cases h0 : c = 0
    · rw [h0]; rfl
    · rw [if_neg h0])
  have ho' : (pts.length : Int) ≤ 20 := by omega
  have hjl : (n : Int) ≤ p.judges.length := hb1
  rw [hn] at hn2
  rw [hn] at hls2
  have HTr := HIT.out
  rw [ht] at HTr
  have HTr := Lib.hid HTr
  clear h hT hr ht hV hv hn HRng HIT hmk
  go_enter Try.func6, Try.ntmps6
  go_wp2_with fail
  refine (HR.out).mono ?_
  rintro e w1 ⟨rfl, hE1⟩
  have HE1 := Lib.hid ((Ext.refl (w.alloc (.cells #[.slice iA p.items.length ic, .slice jA p.judges.length jc, .int .i64 p.wrong, .slice gA p.grades.length gc] 26))).trans hE1)
  obtain ⟨k0, k1, k2, k3⟩ := HB.out _ HE1.out
  clear hE1
  go_wp2_with fail
  refine (HF.out _ (HX.out.trans HE1.out)).mono ?_
  rintro e w2 ⟨rfl, hE2⟩
  have HE2 := Lib.hid (HE1.out.trans hE2)
  obtain ⟨k0, k1, k2, k3⟩ := HB.out _ HE2.out
  clear hE2
  go_wp2_with fail
  refine (HTr.out _ (HX.out.trans HE2.out)).mono ?_
  rintro e w3 ⟨rfl, hE3⟩
  have HE3 := Lib.hid (HE2.out.trans hE3)
  obtain ⟨k0, k1, k2, k3⟩ := HB.out _ HE3.out
  clear hE3
  go_wp2_with fail
  refine (works_any _).mono ?_
  rintro e w4 ⟨rfl, hE4⟩
  have HE4 := Lib.hid (HE3.out.trans hE4)
  obtain ⟨k0, k1, k2, k3⟩ := HB.out _ HE4.out
  clear hE4
  go_wp2
  go_ret
  exact ⟨rfl, HX.out.trans HE4.out⟩

set_option maxHeartbeats 4000000 in
set_option maxRecDepth 100000 in
theorem fewest_f0d (iA jA gA tA : Option Addr) (ic jc gc tc : Nat) (p : Paper) (pts : List Int) (less : Int) (w : World) (h : PaperAt w iA jA gA p) (hT : Ints w tA pts) (hl : pts.length ≤ 9223372036854775807) (hr : readyM p = true) (ho : pts.length ≤ 20) (ht : isTruth p pts = false) (hn2 : 2 < (openM p).fewest) (hls : 1 ≤ less) (hls2 : less ≤ (openM p).fewest) (hls3 : (openM p).fewest - less ≤ 2) :
    Calls Try.prog 6 #[.agg #[.slice iA p.items.length ic, .slice jA p.judges.length jc, .int .i64 p.wrong, .slice gA p.grades.length gc], .slice tA pts.length tc, .int .i64 less] w fun e w' => e = .returned (.bool true) ∧ Ext w w' := by
  have HX := Lib.hid (Ext.of_alloc w (.cells #[.slice iA p.items.length ic, .slice jA p.judges.length jc, .int .i64 p.wrong, .slice gA p.grades.length gc] 26))
  have HB := Lib.hid (show ∀ W, Ext (w.alloc (.cells #[.slice iA p.items.length ic, .slice jA p.judges.length jc, .int .i64 p.wrong, .slice gA p.grades.length gc] 26)) W → (W.cell? ⟨w.heap.size, 0, none⟩ = some (.slice iA p.items.length ic) ∧ W.cell? ⟨w.heap.size, 1, none⟩ = some (.slice jA p.judges.length jc) ∧ W.cell? ⟨w.heap.size, 2, none⟩ = some (.int .i64 p.wrong) ∧ W.cell? ⟨w.heap.size, 3, none⟩ = some (.slice gA p.grades.length gc)) from fun W e => ⟨e.box 0, e.box 1, e.box 2, e.box 3⟩)
  have HR := ready_any iA jA gA ic jc gc p _ (h.ext HX.out)
  rw [hr] at HR
  have HR := Lib.hid HR
  obtain ⟨hv, hj3, hi20, hj20, hg20⟩ := ready_valid hr
  have hV := valid_of hv
  obtain ⟨n, hn⟩ : ∃ n, (openM p).fewest = n := ⟨_, rfl⟩
  have hbd := fewest_bd hV
  rw [hn] at hbd
  obtain ⟨hb0, hb1⟩ := hbd
  have HF := Lib.hid (fun W (e : Ext w W) => fewest_any iA jA gA ic jc gc p n 0 W (h.ext e) (by unfold fewestM; rw [hv, ← hn]; rfl))
  have HIT := Lib.hid (fun W (e : Ext w W) => isTruth_any iA jA gA tA ic jc gc tc p.judges.length p.grades.length p.wrong p pts W (h.items.ext e) h.il (hT.ext e) hl)
  have hmk : ∀ k, k < p.judges.length → (p.judges.getD k default).marks.length ≤ 20 := fun k hk => by
    have h1 := (hV.ju k hk).2.2.2.2.2
    have h2 := hV.il.2
    omega
  have HCp := Lib.hid (fun W (e : Ext w W) => copy_any iA jA gA ic jc gc p W (h.ext e) hi20 hj20 hg20 hmk)
  have HRng := Lib.hid (show ∀ (k c : Int), 0 ≤ k ∧ k ≤ 2 → c = (if n ≤ k then 0 else 3) → ∃ lo hi : Int, ∀ iA jA gA ic jc gc ms B W, CopyAt W B iA jA gA ic jc gc p ms → Calls Try.prog 19 #[.agg #[.slice iA p.items.length ic, .slice jA p.judges.length jc, .int .i64 k, .slice gA p.grades.length gc]] W fun e w' => e = .returned (.tuple #[.agg #[.int .i64 lo, .int .i64 hi], .int .i64 c]) ∧ Ext W w' from fun k c hk hc => by
    have hkn := known_wrong hv hk
    rw [hn, ← hc] at hkn
    refine ⟨(rangeM { p with wrong := k }).1.1, (rangeM { p with wrong := k }).1.2, fun iA jA gA ic jc gc ms B W hcp => ?_⟩
    refine range_any iA jA gA ic jc gc { p with wrong := k } _ _ c W ((hcp.wrong k).paper (by show p.items.length ≤ _; omega) (by show p.judges.length ≤ _; omega) (by show p.grades.length ≤ _; omega) (fun q hq => by have := hmk q hq; show (p.judges.getD q default).marks.length ≤ _; omega)) ?_
    unfold rangeM
    rw [hkn]
    by_cases h0 : c = 0
    · rw [h0]; rfl
    · rw [if_neg h0])
  have ho' : (pts.length : Int) ≤ 20 := by omega
  have hjl : (n : Int) ≤ p.judges.length := hb1
  rw [hn] at hn2
  rw [hn] at hls2
  rw [hn] at hls3
  have HTr := HIT.out
  rw [ht] at HTr
  have HTr := Lib.hid HTr
  obtain ⟨lo2, hi2, hR2⟩ := HRng.out (n - less) 3 ⟨by omega, hls3⟩ (by rw [if_neg (by omega)])
  have HR2 := Lib.hid hR2
  clear hR2
  clear h hT hr ht hV hv hn HRng HIT hmk
  go_enter Try.func6, Try.ntmps6
  go_wp2_with fail
  refine (HR.out).mono ?_
  rintro e w1 ⟨rfl, hE1⟩
  have HE1 := Lib.hid ((Ext.refl (w.alloc (.cells #[.slice iA p.items.length ic, .slice jA p.judges.length jc, .int .i64 p.wrong, .slice gA p.grades.length gc] 26))).trans hE1)
  obtain ⟨k0, k1, k2, k3⟩ := HB.out _ HE1.out
  clear hE1
  go_wp2_with fail
  refine (HF.out _ (HX.out.trans HE1.out)).mono ?_
  rintro e w2 ⟨rfl, hE2⟩
  have HE2 := Lib.hid (HE1.out.trans hE2)
  obtain ⟨k0, k1, k2, k3⟩ := HB.out _ HE2.out
  clear hE2
  go_wp2_with fail
  refine (HTr.out _ (HX.out.trans HE2.out)).mono ?_
  rintro e w3 ⟨rfl, hE3⟩
  have HE3 := Lib.hid (HE2.out.trans hE3)
  obtain ⟨k0, k1, k2, k3⟩ := HB.out _ HE3.out
  clear hE3
  go_wp2_with fail
  refine (HCp.out _ (HX.out.trans HE3.out)).mono ?_
  rintro e w4 ⟨iA4, jA4, gA4, ic4, jc4, gc4, rfl, hE4, ms4, hcp4⟩
  have HE4 := Lib.hid (HE3.out.trans hE4)
  obtain ⟨k0, k1, k2, k3⟩ := HB.out _ HE4.out
  have HCp4 := Lib.hid hcp4
  clear hcp4
  clear hE4
  go_wp2_with fail
  refine (HR2.out _ _ _ _ _ _ _ _ _ (HCp4.out.ext (Ext.of_alloc w4 (.cells #[.slice iA4 p.items.length ic4, .slice jA4 p.judges.length jc4, .int .i64 (n - less), .slice gA4 p.grades.length gc4] 26)))).mono ?_
  rintro e w5 ⟨rfl, hE5⟩
  have HE5 := Lib.hid ((HE4.out.trans (Ext.of_alloc w4 (.cells #[.slice iA4 p.items.length ic4, .slice jA4 p.judges.length jc4, .int .i64 (n - less), .slice gA4 p.grades.length gc4] 26))).trans hE5)
  have HE5b := Lib.hid (HE5.out.alloc (.cells #[.int .i64 lo2, .int .i64 hi2] 35))
  obtain ⟨k0, k1, k2, k3⟩ := HB.out _ HE5b.out
  clear hE5
  go_wp2_with fail
  refine (works_any _).mono ?_
  rintro e w6 ⟨rfl, hE6⟩
  have HE6 := Lib.hid (HE5b.out.trans hE6)
  obtain ⟨k0, k1, k2, k3⟩ := HB.out _ HE6.out
  clear hE6
  go_wp2
  go_ret
  exact ⟨rfl, HX.out.trans HE6.out⟩

set_option maxHeartbeats 4000000 in
set_option maxRecDepth 100000 in
theorem fewest_t1a (iA jA gA tA : Option Addr) (ic jc gc tc : Nat) (p : Paper) (pts : List Int) (less : Int) (w : World) (h : PaperAt w iA jA gA p) (hT : Ints w tA pts) (hl : pts.length ≤ 9223372036854775807) (hr : readyM p = true) (ho : pts.length ≤ 20) (ht : isTruth p pts = true) (hn2 : (openM p).fewest ≤ 2) (hls : less < 1) :
    Calls Try.prog 6 #[.agg #[.slice iA p.items.length ic, .slice jA p.judges.length jc, .int .i64 p.wrong, .slice gA p.grades.length gc], .slice tA pts.length tc, .int .i64 less] w fun e w' => e = .returned (.bool true) ∧ Ext w w' := by
  have HX := Lib.hid (Ext.of_alloc w (.cells #[.slice iA p.items.length ic, .slice jA p.judges.length jc, .int .i64 p.wrong, .slice gA p.grades.length gc] 26))
  have HB := Lib.hid (show ∀ W, Ext (w.alloc (.cells #[.slice iA p.items.length ic, .slice jA p.judges.length jc, .int .i64 p.wrong, .slice gA p.grades.length gc] 26)) W → (W.cell? ⟨w.heap.size, 0, none⟩ = some (.slice iA p.items.length ic) ∧ W.cell? ⟨w.heap.size, 1, none⟩ = some (.slice jA p.judges.length jc) ∧ W.cell? ⟨w.heap.size, 2, none⟩ = some (.int .i64 p.wrong) ∧ W.cell? ⟨w.heap.size, 3, none⟩ = some (.slice gA p.grades.length gc)) from fun W e => ⟨e.box 0, e.box 1, e.box 2, e.box 3⟩)
  have HR := ready_any iA jA gA ic jc gc p _ (h.ext HX.out)
  rw [hr] at HR
  have HR := Lib.hid HR
  obtain ⟨hv, hj3, hi20, hj20, hg20⟩ := ready_valid hr
  have hV := valid_of hv
  obtain ⟨n, hn⟩ : ∃ n, (openM p).fewest = n := ⟨_, rfl⟩
  have hbd := fewest_bd hV
  rw [hn] at hbd
  obtain ⟨hb0, hb1⟩ := hbd
  have HF := Lib.hid (fun W (e : Ext w W) => fewest_any iA jA gA ic jc gc p n 0 W (h.ext e) (by unfold fewestM; rw [hv, ← hn]; rfl))
  have HIT := Lib.hid (fun W (e : Ext w W) => isTruth_any iA jA gA tA ic jc gc tc p.judges.length p.grades.length p.wrong p pts W (h.items.ext e) h.il (hT.ext e) hl)
  have hmk : ∀ k, k < p.judges.length → (p.judges.getD k default).marks.length ≤ 20 := fun k hk => by
    have h1 := (hV.ju k hk).2.2.2.2.2
    have h2 := hV.il.2
    omega
  have HCp := Lib.hid (fun W (e : Ext w W) => copy_any iA jA gA ic jc gc p W (h.ext e) hi20 hj20 hg20 hmk)
  have HRng := Lib.hid (show ∀ (k c : Int), 0 ≤ k ∧ k ≤ 2 → c = (if n ≤ k then 0 else 3) → ∃ lo hi : Int, ∀ iA jA gA ic jc gc ms B W, CopyAt W B iA jA gA ic jc gc p ms → Calls Try.prog 19 #[.agg #[.slice iA p.items.length ic, .slice jA p.judges.length jc, .int .i64 k, .slice gA p.grades.length gc]] W fun e w' => e = .returned (.tuple #[.agg #[.int .i64 lo, .int .i64 hi], .int .i64 c]) ∧ Ext W w' from fun k c hk hc => by
    have hkn := known_wrong hv hk
    rw [hn, ← hc] at hkn
    refine ⟨(rangeM { p with wrong := k }).1.1, (rangeM { p with wrong := k }).1.2, fun iA jA gA ic jc gc ms B W hcp => ?_⟩
    refine range_any iA jA gA ic jc gc { p with wrong := k } _ _ c W ((hcp.wrong k).paper (by show p.items.length ≤ _; omega) (by show p.judges.length ≤ _; omega) (by show p.grades.length ≤ _; omega) (fun q hq => by have := hmk q hq; show (p.judges.getD q default).marks.length ≤ _; omega)) ?_
    unfold rangeM
    rw [hkn]
    by_cases h0 : c = 0
    · rw [h0]; rfl
    · rw [if_neg h0])
  have ho' : (pts.length : Int) ≤ 20 := by omega
  have hjl : (n : Int) ≤ p.judges.length := hb1
  rw [hn] at hn2
  have HTr := HIT.out
  rw [ht] at HTr
  have HTr := Lib.hid HTr
  have hwr : n ≤ wrongs p pts := by rw [← hn]; exact (open_fewest hV).1 pts ht
  have HWr := Lib.hid (fun W (e : Ext w W) => wrongs_any iA jA gA tA ic jc gc tc p pts W (h.ext e) hV (hT.ext e) (pointsOk_of hV ht))
  generalize wrongs p pts = wq at *
  obtain ⟨lo1, hi1, hR1⟩ := HRng.out n 0 ⟨hb0, hn2⟩ (by rw [if_pos (Int.le_refl n)])
  have HR1 := Lib.hid hR1
  clear hR1
  clear h hT hr ht hV hv hn HRng HIT hmk
  go_enter Try.func6, Try.ntmps6
  go_wp2_with fail
  refine (HR.out).mono ?_
  rintro e w1 ⟨rfl, hE1⟩
  have HE1 := Lib.hid ((Ext.refl (w.alloc (.cells #[.slice iA p.items.length ic, .slice jA p.judges.length jc, .int .i64 p.wrong, .slice gA p.grades.length gc] 26))).trans hE1)
  obtain ⟨k0, k1, k2, k3⟩ := HB.out _ HE1.out
  clear hE1
  go_wp2_with fail
  refine (HF.out _ (HX.out.trans HE1.out)).mono ?_
  rintro e w2 ⟨rfl, hE2⟩
  have HE2 := Lib.hid (HE1.out.trans hE2)
  obtain ⟨k0, k1, k2, k3⟩ := HB.out _ HE2.out
  clear hE2
  go_wp2_with fail
  refine (HTr.out _ (HX.out.trans HE2.out)).mono ?_
  rintro e w3 ⟨rfl, hE3⟩
  have HE3 := Lib.hid (HE2.out.trans hE3)
  obtain ⟨k0, k1, k2, k3⟩ := HB.out _ HE3.out
  clear hE3
  go_wp2_with fail
  refine (HWr.out _ (HX.out.trans HE3.out)).mono ?_
  rintro e w4 ⟨rfl, hE4⟩
  have HE4 := Lib.hid (HE3.out.trans hE4)
  obtain ⟨k0, k1, k2, k3⟩ := HB.out _ HE4.out
  clear hE4
  go_wp2_with fail
  refine (HCp.out _ (HX.out.trans HE4.out)).mono ?_
  rintro e w5 ⟨iA5, jA5, gA5, ic5, jc5, gc5, rfl, hE5, ms5, hcp5⟩
  have HE5 := Lib.hid (HE4.out.trans hE5)
  obtain ⟨k0, k1, k2, k3⟩ := HB.out _ HE5.out
  have HCp5 := Lib.hid hcp5
  clear hcp5
  clear hE5
  go_wp2_with fail
  refine (HR1.out _ _ _ _ _ _ _ _ _ (HCp5.out.ext (Ext.of_alloc w5 (.cells #[.slice iA5 p.items.length ic5, .slice jA5 p.judges.length jc5, .int .i64 n, .slice gA5 p.grades.length gc5] 26)))).mono ?_
  rintro e w6 ⟨rfl, hE6⟩
  have HE6 := Lib.hid ((HE5.out.trans (Ext.of_alloc w5 (.cells #[.slice iA5 p.items.length ic5, .slice jA5 p.judges.length jc5, .int .i64 n, .slice gA5 p.grades.length gc5] 26))).trans hE6)
  have HE6b := Lib.hid (HE6.out.alloc (.cells #[.int .i64 lo1, .int .i64 hi1] 35))
  obtain ⟨k0, k1, k2, k3⟩ := HB.out _ HE6b.out
  clear hE6
  go_wp2_with fail
  refine (works_any _).mono ?_
  rintro e w7 ⟨rfl, hE7⟩
  have HE7 := Lib.hid (HE6b.out.trans hE7)
  obtain ⟨k0, k1, k2, k3⟩ := HB.out _ HE7.out
  clear hE7
  go_wp2
  go_ret
  exact ⟨rfl, HX.out.trans HE7.out⟩

set_option maxHeartbeats 4000000 in
set_option maxRecDepth 100000 in
theorem fewest_t1b (iA jA gA tA : Option Addr) (ic jc gc tc : Nat) (p : Paper) (pts : List Int) (less : Int) (w : World) (h : PaperAt w iA jA gA p) (hT : Ints w tA pts) (hl : pts.length ≤ 9223372036854775807) (hr : readyM p = true) (ho : pts.length ≤ 20) (ht : isTruth p pts = true) (hn2 : (openM p).fewest ≤ 2) (hls : 1 ≤ less) (hls2 : (openM p).fewest < less) :
    Calls Try.prog 6 #[.agg #[.slice iA p.items.length ic, .slice jA p.judges.length jc, .int .i64 p.wrong, .slice gA p.grades.length gc], .slice tA pts.length tc, .int .i64 less] w fun e w' => e = .returned (.bool true) ∧ Ext w w' := by
  have HX := Lib.hid (Ext.of_alloc w (.cells #[.slice iA p.items.length ic, .slice jA p.judges.length jc, .int .i64 p.wrong, .slice gA p.grades.length gc] 26))
  have HB := Lib.hid (show ∀ W, Ext (w.alloc (.cells #[.slice iA p.items.length ic, .slice jA p.judges.length jc, .int .i64 p.wrong, .slice gA p.grades.length gc] 26)) W → (W.cell? ⟨w.heap.size, 0, none⟩ = some (.slice iA p.items.length ic) ∧ W.cell? ⟨w.heap.size, 1, none⟩ = some (.slice jA p.judges.length jc) ∧ W.cell? ⟨w.heap.size, 2, none⟩ = some (.int .i64 p.wrong) ∧ W.cell? ⟨w.heap.size, 3, none⟩ = some (.slice gA p.grades.length gc)) from fun W e => ⟨e.box 0, e.box 1, e.box 2, e.box 3⟩)
  have HR := ready_any iA jA gA ic jc gc p _ (h.ext HX.out)
  rw [hr] at HR
  have HR := Lib.hid HR
  obtain ⟨hv, hj3, hi20, hj20, hg20⟩ := ready_valid hr
  have hV := valid_of hv
  obtain ⟨n, hn⟩ : ∃ n, (openM p).fewest = n := ⟨_, rfl⟩
  have hbd := fewest_bd hV
  rw [hn] at hbd
  obtain ⟨hb0, hb1⟩ := hbd
  have HF := Lib.hid (fun W (e : Ext w W) => fewest_any iA jA gA ic jc gc p n 0 W (h.ext e) (by unfold fewestM; rw [hv, ← hn]; rfl))
  have HIT := Lib.hid (fun W (e : Ext w W) => isTruth_any iA jA gA tA ic jc gc tc p.judges.length p.grades.length p.wrong p pts W (h.items.ext e) h.il (hT.ext e) hl)
  have hmk : ∀ k, k < p.judges.length → (p.judges.getD k default).marks.length ≤ 20 := fun k hk => by
    have h1 := (hV.ju k hk).2.2.2.2.2
    have h2 := hV.il.2
    omega
  have HCp := Lib.hid (fun W (e : Ext w W) => copy_any iA jA gA ic jc gc p W (h.ext e) hi20 hj20 hg20 hmk)
  have HRng := Lib.hid (show ∀ (k c : Int), 0 ≤ k ∧ k ≤ 2 → c = (if n ≤ k then 0 else 3) → ∃ lo hi : Int, ∀ iA jA gA ic jc gc ms B W, CopyAt W B iA jA gA ic jc gc p ms → Calls Try.prog 19 #[.agg #[.slice iA p.items.length ic, .slice jA p.judges.length jc, .int .i64 k, .slice gA p.grades.length gc]] W fun e w' => e = .returned (.tuple #[.agg #[.int .i64 lo, .int .i64 hi], .int .i64 c]) ∧ Ext W w' from fun k c hk hc => by
    have hkn := known_wrong hv hk
    rw [hn, ← hc] at hkn
    refine ⟨(rangeM { p with wrong := k }).1.1, (rangeM { p with wrong := k }).1.2, fun iA jA gA ic jc gc ms B W hcp => ?_⟩
    refine range_any iA jA gA ic jc gc { p with wrong := k } _ _ c W ((hcp.wrong k).paper (by show p.items.length ≤ _; omega) (by show p.judges.length ≤ _; omega) (by show p.grades.length ≤ _; omega) (fun q hq => by have := hmk q hq; show (p.judges.getD q default).marks.length ≤ _; omega)) ?_
    unfold rangeM
    rw [hkn]
    by_cases h0 : c = 0
    · rw [h0]; rfl
    · rw [if_neg h0])
  have ho' : (pts.length : Int) ≤ 20 := by omega
  have hjl : (n : Int) ≤ p.judges.length := hb1
  rw [hn] at hn2
  rw [hn] at hls2
  have HTr := HIT.out
  rw [ht] at HTr
  have HTr := Lib.hid HTr
  have hwr : n ≤ wrongs p pts := by rw [← hn]; exact (open_fewest hV).1 pts ht
  have HWr := Lib.hid (fun W (e : Ext w W) => wrongs_any iA jA gA tA ic jc gc tc p pts W (h.ext e) hV (hT.ext e) (pointsOk_of hV ht))
  generalize wrongs p pts = wq at *
  obtain ⟨lo1, hi1, hR1⟩ := HRng.out n 0 ⟨hb0, hn2⟩ (by rw [if_pos (Int.le_refl n)])
  have HR1 := Lib.hid hR1
  clear hR1
  clear h hT hr ht hV hv hn HRng HIT hmk
  go_enter Try.func6, Try.ntmps6
  go_wp2_with fail
  refine (HR.out).mono ?_
  rintro e w1 ⟨rfl, hE1⟩
  have HE1 := Lib.hid ((Ext.refl (w.alloc (.cells #[.slice iA p.items.length ic, .slice jA p.judges.length jc, .int .i64 p.wrong, .slice gA p.grades.length gc] 26))).trans hE1)
  obtain ⟨k0, k1, k2, k3⟩ := HB.out _ HE1.out
  clear hE1
  go_wp2_with fail
  refine (HF.out _ (HX.out.trans HE1.out)).mono ?_
  rintro e w2 ⟨rfl, hE2⟩
  have HE2 := Lib.hid (HE1.out.trans hE2)
  obtain ⟨k0, k1, k2, k3⟩ := HB.out _ HE2.out
  clear hE2
  go_wp2_with fail
  refine (HTr.out _ (HX.out.trans HE2.out)).mono ?_
  rintro e w3 ⟨rfl, hE3⟩
  have HE3 := Lib.hid (HE2.out.trans hE3)
  obtain ⟨k0, k1, k2, k3⟩ := HB.out _ HE3.out
  clear hE3
  go_wp2_with fail
  refine (HWr.out _ (HX.out.trans HE3.out)).mono ?_
  rintro e w4 ⟨rfl, hE4⟩
  have HE4 := Lib.hid (HE3.out.trans hE4)
  obtain ⟨k0, k1, k2, k3⟩ := HB.out _ HE4.out
  clear hE4
  go_wp2_with fail
  refine (HCp.out _ (HX.out.trans HE4.out)).mono ?_
  rintro e w5 ⟨iA5, jA5, gA5, ic5, jc5, gc5, rfl, hE5, ms5, hcp5⟩
  have HE5 := Lib.hid (HE4.out.trans hE5)
  obtain ⟨k0, k1, k2, k3⟩ := HB.out _ HE5.out
  have HCp5 := Lib.hid hcp5
  clear hcp5
  clear hE5
  go_wp2_with fail
  refine (HR1.out _ _ _ _ _ _ _ _ _ (HCp5.out.ext (Ext.of_alloc w5 (.cells #[.slice iA5 p.items.length ic5, .slice jA5 p.judges.length jc5, .int .i64 n, .slice gA5 p.grades.length gc5] 26)))).mono ?_
  rintro e w6 ⟨rfl, hE6⟩
  have HE6 := Lib.hid ((HE5.out.trans (Ext.of_alloc w5 (.cells #[.slice iA5 p.items.length ic5, .slice jA5 p.judges.length jc5, .int .i64 n, .slice gA5 p.grades.length gc5] 26))).trans hE6)
  have HE6b := Lib.hid (HE6.out.alloc (.cells #[.int .i64 lo1, .int .i64 hi1] 35))
  obtain ⟨k0, k1, k2, k3⟩ := HB.out _ HE6b.out
  clear hE6
  go_wp2_with fail
  refine (works_any _).mono ?_
  rintro e w7 ⟨rfl, hE7⟩
  have HE7 := Lib.hid (HE6b.out.trans hE7)
  obtain ⟨k0, k1, k2, k3⟩ := HB.out _ HE7.out
  clear hE7
  go_wp2
  go_ret
  exact ⟨rfl, HX.out.trans HE7.out⟩

set_option maxHeartbeats 4000000 in
set_option maxRecDepth 100000 in
theorem fewest_t1d (iA jA gA tA : Option Addr) (ic jc gc tc : Nat) (p : Paper) (pts : List Int) (less : Int) (w : World) (h : PaperAt w iA jA gA p) (hT : Ints w tA pts) (hl : pts.length ≤ 9223372036854775807) (hr : readyM p = true) (ho : pts.length ≤ 20) (ht : isTruth p pts = true) (hn2 : (openM p).fewest ≤ 2) (hls : 1 ≤ less) (hls2 : less ≤ (openM p).fewest) (hls3 : (openM p).fewest - less ≤ 2) :
    Calls Try.prog 6 #[.agg #[.slice iA p.items.length ic, .slice jA p.judges.length jc, .int .i64 p.wrong, .slice gA p.grades.length gc], .slice tA pts.length tc, .int .i64 less] w fun e w' => e = .returned (.bool true) ∧ Ext w w' := by
  have HX := Lib.hid (Ext.of_alloc w (.cells #[.slice iA p.items.length ic, .slice jA p.judges.length jc, .int .i64 p.wrong, .slice gA p.grades.length gc] 26))
  have HB := Lib.hid (show ∀ W, Ext (w.alloc (.cells #[.slice iA p.items.length ic, .slice jA p.judges.length jc, .int .i64 p.wrong, .slice gA p.grades.length gc] 26)) W → (W.cell? ⟨w.heap.size, 0, none⟩ = some (.slice iA p.items.length ic) ∧ W.cell? ⟨w.heap.size, 1, none⟩ = some (.slice jA p.judges.length jc) ∧ W.cell? ⟨w.heap.size, 2, none⟩ = some (.int .i64 p.wrong) ∧ W.cell? ⟨w.heap.size, 3, none⟩ = some (.slice gA p.grades.length gc)) from fun W e => ⟨e.box 0, e.box 1, e.box 2, e.box 3⟩)
  have HR := ready_any iA jA gA ic jc gc p _ (h.ext HX.out)
  rw [hr] at HR
  have HR := Lib.hid HR
  obtain ⟨hv, hj3, hi20, hj20, hg20⟩ := ready_valid hr
  have hV := valid_of hv
  obtain ⟨n, hn⟩ : ∃ n, (openM p).fewest = n := ⟨_, rfl⟩
  have hbd := fewest_bd hV
  rw [hn] at hbd
  obtain ⟨hb0, hb1⟩ := hbd
  have HF := Lib.hid (fun W (e : Ext w W) => fewest_any iA jA gA ic jc gc p n 0 W (h.ext e) (by unfold fewestM; rw [hv, ← hn]; rfl))
  have HIT := Lib.hid (fun W (e : Ext w W) => isTruth_any iA jA gA tA ic jc gc tc p.judges.length p.grades.length p.wrong p pts W (h.items.ext e) h.il (hT.ext e) hl)
  have hmk : ∀ k, k < p.judges.length → (p.judges.getD k default).marks.length ≤ 20 := fun k hk => by
    have h1 := (hV.ju k hk).2.2.2.2.2
    have h2 := hV.il.2
    omega
  have HCp := Lib.hid (fun W (e : Ext w W) => copy_any iA jA gA ic jc gc p W (h.ext e) hi20 hj20 hg20 hmk)
  have HRng := Lib.hid (show ∀ (k c : Int), 0 ≤ k ∧ k ≤ 2 → c = (if n ≤ k then 0 else 3) → ∃ lo hi : Int, ∀ iA jA gA ic jc gc ms B W, CopyAt W B iA jA gA ic jc gc p ms → Calls Try.prog 19 #[.agg #[.slice iA p.items.length ic, .slice jA p.judges.length jc, .int .i64 k, .slice gA p.grades.length gc]] W fun e w' => e = .returned (.tuple #[.agg #[.int .i64 lo, .int .i64 hi], .int .i64 c]) ∧ Ext W w' from fun k c hk hc => by
    have hkn := known_wrong hv hk
    rw [hn, ← hc] at hkn
    refine ⟨(rangeM { p with wrong := k }).1.1, (rangeM { p with wrong := k }).1.2, fun iA jA gA ic jc gc ms B W hcp => ?_⟩
    refine range_any iA jA gA ic jc gc { p with wrong := k } _ _ c W ((hcp.wrong k).paper (by show p.items.length ≤ _; omega) (by show p.judges.length ≤ _; omega) (by show p.grades.length ≤ _; omega) (fun q hq => by have := hmk q hq; show (p.judges.getD q default).marks.length ≤ _; omega)) ?_
    unfold rangeM
    rw [hkn]
    by_cases h0 : c = 0
    · rw [h0]; rfl
    · rw [if_neg h0])
  have ho' : (pts.length : Int) ≤ 20 := by omega
  have hjl : (n : Int) ≤ p.judges.length := hb1
  rw [hn] at hn2
  rw [hn] at hls2
  rw [hn] at hls3
  have HTr := HIT.out
  rw [ht] at HTr
  have HTr := Lib.hid HTr
  have hwr : n ≤ wrongs p pts := by rw [← hn]; exact (open_fewest hV).1 pts ht
  have HWr := Lib.hid (fun W (e : Ext w W) => wrongs_any iA jA gA tA ic jc gc tc p pts W (h.ext e) hV (hT.ext e) (pointsOk_of hV ht))
  generalize wrongs p pts = wq at *
  obtain ⟨lo1, hi1, hR1⟩ := HRng.out n 0 ⟨hb0, hn2⟩ (by rw [if_pos (Int.le_refl n)])
  have HR1 := Lib.hid hR1
  clear hR1
  obtain ⟨lo2, hi2, hR2⟩ := HRng.out (n - less) 3 ⟨by omega, hls3⟩ (by rw [if_neg (by omega)])
  have HR2 := Lib.hid hR2
  clear hR2
  clear h hT hr ht hV hv hn HRng HIT hmk
  go_enter Try.func6, Try.ntmps6
  go_wp2_with fail
  refine (HR.out).mono ?_
  rintro e w1 ⟨rfl, hE1⟩
  have HE1 := Lib.hid ((Ext.refl (w.alloc (.cells #[.slice iA p.items.length ic, .slice jA p.judges.length jc, .int .i64 p.wrong, .slice gA p.grades.length gc] 26))).trans hE1)
  obtain ⟨k0, k1, k2, k3⟩ := HB.out _ HE1.out
  clear hE1
  go_wp2_with fail
  refine (HF.out _ (HX.out.trans HE1.out)).mono ?_
  rintro e w2 ⟨rfl, hE2⟩
  have HE2 := Lib.hid (HE1.out.trans hE2)
  obtain ⟨k0, k1, k2, k3⟩ := HB.out _ HE2.out
  clear hE2
  go_wp2_with fail
  refine (HTr.out _ (HX.out.trans HE2.out)).mono ?_
  rintro e w3 ⟨rfl, hE3⟩
  have HE3 := Lib.hid (HE2.out.trans hE3)
  obtain ⟨k0, k1, k2, k3⟩ := HB.out _ HE3.out
  clear hE3
  go_wp2_with fail
  refine (HWr.out _ (HX.out.trans HE3.out)).mono ?_
  rintro e w4 ⟨rfl, hE4⟩
  have HE4 := Lib.hid (HE3.out.trans hE4)
  obtain ⟨k0, k1, k2, k3⟩ := HB.out _ HE4.out
  clear hE4
  go_wp2_with fail
  refine (HCp.out _ (HX.out.trans HE4.out)).mono ?_
  rintro e w5 ⟨iA5, jA5, gA5, ic5, jc5, gc5, rfl, hE5, ms5, hcp5⟩
  have HE5 := Lib.hid (HE4.out.trans hE5)
  obtain ⟨k0, k1, k2, k3⟩ := HB.out _ HE5.out
  have HCp5 := Lib.hid hcp5
  clear hcp5
  clear hE5
  go_wp2_with fail
  refine (HR1.out _ _ _ _ _ _ _ _ _ (HCp5.out.ext (Ext.of_alloc w5 (.cells #[.slice iA5 p.items.length ic5, .slice jA5 p.judges.length jc5, .int .i64 n, .slice gA5 p.grades.length gc5] 26)))).mono ?_
  rintro e w6 ⟨rfl, hE6⟩
  have HE6 := Lib.hid ((HE5.out.trans (Ext.of_alloc w5 (.cells #[.slice iA5 p.items.length ic5, .slice jA5 p.judges.length jc5, .int .i64 n, .slice gA5 p.grades.length gc5] 26))).trans hE6)
  have HE6b := Lib.hid (HE6.out.alloc (.cells #[.int .i64 lo1, .int .i64 hi1] 35))
  obtain ⟨k0, k1, k2, k3⟩ := HB.out _ HE6b.out
  clear hE6
  go_wp2_with fail
  refine (HCp.out _ (HX.out.trans HE6b.out)).mono ?_
  rintro e w7 ⟨iA7, jA7, gA7, ic7, jc7, gc7, rfl, hE7, ms7, hcp7⟩
  have HE7 := Lib.hid (HE6b.out.trans hE7)
  obtain ⟨k0, k1, k2, k3⟩ := HB.out _ HE7.out
  have HCp7 := Lib.hid hcp7
  clear hcp7
  clear hE7
  go_wp2_with fail
  refine (HR2.out _ _ _ _ _ _ _ _ _ (HCp7.out.ext (Ext.of_alloc w7 (.cells #[.slice iA7 p.items.length ic7, .slice jA7 p.judges.length jc7, .int .i64 (n - less), .slice gA7 p.grades.length gc7] 26)))).mono ?_
  rintro e w8 ⟨rfl, hE8⟩
  have HE8 := Lib.hid ((HE7.out.trans (Ext.of_alloc w7 (.cells #[.slice iA7 p.items.length ic7, .slice jA7 p.judges.length jc7, .int .i64 (n - less), .slice gA7 p.grades.length gc7] 26))).trans hE8)
  have HE8b := Lib.hid (HE8.out.alloc (.cells #[.int .i64 lo2, .int .i64 hi2] 35))
  obtain ⟨k0, k1, k2, k3⟩ := HB.out _ HE8b.out
  clear hE8
  go_wp2_with fail
  refine (works_any _).mono ?_
  rintro e w9 ⟨rfl, hE9⟩
  have HE9 := Lib.hid (HE8b.out.trans hE9)
  obtain ⟨k0, k1, k2, k3⟩ := HB.out _ HE9.out
  clear hE9
  go_wp2
  go_ret
  exact ⟨rfl, HX.out.trans HE9.out⟩

set_option maxHeartbeats 4000000 in
set_option maxRecDepth 100000 in
theorem fewest_t0a (iA jA gA tA : Option Addr) (ic jc gc tc : Nat) (p : Paper) (pts : List Int) (less : Int) (w : World) (h : PaperAt w iA jA gA p) (hT : Ints w tA pts) (hl : pts.length ≤ 9223372036854775807) (hr : readyM p = true) (ho : pts.length ≤ 20) (ht : isTruth p pts = true) (hn2 : 2 < (openM p).fewest) (hls : less < 1) :
    Calls Try.prog 6 #[.agg #[.slice iA p.items.length ic, .slice jA p.judges.length jc, .int .i64 p.wrong, .slice gA p.grades.length gc], .slice tA pts.length tc, .int .i64 less] w fun e w' => e = .returned (.bool true) ∧ Ext w w' := by
  have HX := Lib.hid (Ext.of_alloc w (.cells #[.slice iA p.items.length ic, .slice jA p.judges.length jc, .int .i64 p.wrong, .slice gA p.grades.length gc] 26))
  have HB := Lib.hid (show ∀ W, Ext (w.alloc (.cells #[.slice iA p.items.length ic, .slice jA p.judges.length jc, .int .i64 p.wrong, .slice gA p.grades.length gc] 26)) W → (W.cell? ⟨w.heap.size, 0, none⟩ = some (.slice iA p.items.length ic) ∧ W.cell? ⟨w.heap.size, 1, none⟩ = some (.slice jA p.judges.length jc) ∧ W.cell? ⟨w.heap.size, 2, none⟩ = some (.int .i64 p.wrong) ∧ W.cell? ⟨w.heap.size, 3, none⟩ = some (.slice gA p.grades.length gc)) from fun W e => ⟨e.box 0, e.box 1, e.box 2, e.box 3⟩)
  have HR := ready_any iA jA gA ic jc gc p _ (h.ext HX.out)
  rw [hr] at HR
  have HR := Lib.hid HR
  obtain ⟨hv, hj3, hi20, hj20, hg20⟩ := ready_valid hr
  have hV := valid_of hv
  obtain ⟨n, hn⟩ : ∃ n, (openM p).fewest = n := ⟨_, rfl⟩
  have hbd := fewest_bd hV
  rw [hn] at hbd
  obtain ⟨hb0, hb1⟩ := hbd
  have HF := Lib.hid (fun W (e : Ext w W) => fewest_any iA jA gA ic jc gc p n 0 W (h.ext e) (by unfold fewestM; rw [hv, ← hn]; rfl))
  have HIT := Lib.hid (fun W (e : Ext w W) => isTruth_any iA jA gA tA ic jc gc tc p.judges.length p.grades.length p.wrong p pts W (h.items.ext e) h.il (hT.ext e) hl)
  have hmk : ∀ k, k < p.judges.length → (p.judges.getD k default).marks.length ≤ 20 := fun k hk => by
    have h1 := (hV.ju k hk).2.2.2.2.2
    have h2 := hV.il.2
    omega
  have HCp := Lib.hid (fun W (e : Ext w W) => copy_any iA jA gA ic jc gc p W (h.ext e) hi20 hj20 hg20 hmk)
  have HRng := Lib.hid (show ∀ (k c : Int), 0 ≤ k ∧ k ≤ 2 → c = (if n ≤ k then 0 else 3) → ∃ lo hi : Int, ∀ iA jA gA ic jc gc ms B W, CopyAt W B iA jA gA ic jc gc p ms → Calls Try.prog 19 #[.agg #[.slice iA p.items.length ic, .slice jA p.judges.length jc, .int .i64 k, .slice gA p.grades.length gc]] W fun e w' => e = .returned (.tuple #[.agg #[.int .i64 lo, .int .i64 hi], .int .i64 c]) ∧ Ext W w' from fun k c hk hc => by
    have hkn := known_wrong hv hk
    rw [hn, ← hc] at hkn
    refine ⟨(rangeM { p with wrong := k }).1.1, (rangeM { p with wrong := k }).1.2, fun iA jA gA ic jc gc ms B W hcp => ?_⟩
    refine range_any iA jA gA ic jc gc { p with wrong := k } _ _ c W ((hcp.wrong k).paper (by show p.items.length ≤ _; omega) (by show p.judges.length ≤ _; omega) (by show p.grades.length ≤ _; omega) (fun q hq => by have := hmk q hq; show (p.judges.getD q default).marks.length ≤ _; omega)) ?_
    unfold rangeM
    rw [hkn]
    by_cases h0 : c = 0
    · rw [h0]; rfl
    · rw [if_neg h0])
  have ho' : (pts.length : Int) ≤ 20 := by omega
  have hjl : (n : Int) ≤ p.judges.length := hb1
  rw [hn] at hn2
  have HTr := HIT.out
  rw [ht] at HTr
  have HTr := Lib.hid HTr
  have hwr : n ≤ wrongs p pts := by rw [← hn]; exact (open_fewest hV).1 pts ht
  have HWr := Lib.hid (fun W (e : Ext w W) => wrongs_any iA jA gA tA ic jc gc tc p pts W (h.ext e) hV (hT.ext e) (pointsOk_of hV ht))
  generalize wrongs p pts = wq at *
  clear h hT hr ht hV hv hn HRng HIT hmk
  go_enter Try.func6, Try.ntmps6
  go_wp2_with fail
  refine (HR.out).mono ?_
  rintro e w1 ⟨rfl, hE1⟩
  have HE1 := Lib.hid ((Ext.refl (w.alloc (.cells #[.slice iA p.items.length ic, .slice jA p.judges.length jc, .int .i64 p.wrong, .slice gA p.grades.length gc] 26))).trans hE1)
  obtain ⟨k0, k1, k2, k3⟩ := HB.out _ HE1.out
  clear hE1
  go_wp2_with fail
  refine (HF.out _ (HX.out.trans HE1.out)).mono ?_
  rintro e w2 ⟨rfl, hE2⟩
  have HE2 := Lib.hid (HE1.out.trans hE2)
  obtain ⟨k0, k1, k2, k3⟩ := HB.out _ HE2.out
  clear hE2
  go_wp2_with fail
  refine (HTr.out _ (HX.out.trans HE2.out)).mono ?_
  rintro e w3 ⟨rfl, hE3⟩
  have HE3 := Lib.hid (HE2.out.trans hE3)
  obtain ⟨k0, k1, k2, k3⟩ := HB.out _ HE3.out
  clear hE3
  go_wp2_with fail
  refine (HWr.out _ (HX.out.trans HE3.out)).mono ?_
  rintro e w4 ⟨rfl, hE4⟩
  have HE4 := Lib.hid (HE3.out.trans hE4)
  obtain ⟨k0, k1, k2, k3⟩ := HB.out _ HE4.out
  clear hE4
  go_wp2_with fail
  refine (works_any _).mono ?_
  rintro e w5 ⟨rfl, hE5⟩
  have HE5 := Lib.hid (HE4.out.trans hE5)
  obtain ⟨k0, k1, k2, k3⟩ := HB.out _ HE5.out
  clear hE5
  go_wp2
  go_ret
  exact ⟨rfl, HX.out.trans HE5.out⟩

set_option maxHeartbeats 4000000 in
set_option maxRecDepth 100000 in
theorem fewest_t0b (iA jA gA tA : Option Addr) (ic jc gc tc : Nat) (p : Paper) (pts : List Int) (less : Int) (w : World) (h : PaperAt w iA jA gA p) (hT : Ints w tA pts) (hl : pts.length ≤ 9223372036854775807) (hr : readyM p = true) (ho : pts.length ≤ 20) (ht : isTruth p pts = true) (hn2 : 2 < (openM p).fewest) (hls : 1 ≤ less) (hls2 : (openM p).fewest < less) :
    Calls Try.prog 6 #[.agg #[.slice iA p.items.length ic, .slice jA p.judges.length jc, .int .i64 p.wrong, .slice gA p.grades.length gc], .slice tA pts.length tc, .int .i64 less] w fun e w' => e = .returned (.bool true) ∧ Ext w w' := by
  have HX := Lib.hid (Ext.of_alloc w (.cells #[.slice iA p.items.length ic, .slice jA p.judges.length jc, .int .i64 p.wrong, .slice gA p.grades.length gc] 26))
  have HB := Lib.hid (show ∀ W, Ext (w.alloc (.cells #[.slice iA p.items.length ic, .slice jA p.judges.length jc, .int .i64 p.wrong, .slice gA p.grades.length gc] 26)) W → (W.cell? ⟨w.heap.size, 0, none⟩ = some (.slice iA p.items.length ic) ∧ W.cell? ⟨w.heap.size, 1, none⟩ = some (.slice jA p.judges.length jc) ∧ W.cell? ⟨w.heap.size, 2, none⟩ = some (.int .i64 p.wrong) ∧ W.cell? ⟨w.heap.size, 3, none⟩ = some (.slice gA p.grades.length gc)) from fun W e => ⟨e.box 0, e.box 1, e.box 2, e.box 3⟩)
  have HR := ready_any iA jA gA ic jc gc p _ (h.ext HX.out)
  rw [hr] at HR
  have HR := Lib.hid HR
  obtain ⟨hv, hj3, hi20, hj20, hg20⟩ := ready_valid hr
  have hV := valid_of hv
  obtain ⟨n, hn⟩ : ∃ n, (openM p).fewest = n := ⟨_, rfl⟩
  have hbd := fewest_bd hV
  rw [hn] at hbd
  obtain ⟨hb0, hb1⟩ := hbd
  have HF := Lib.hid (fun W (e : Ext w W) => fewest_any iA jA gA ic jc gc p n 0 W (h.ext e) (by unfold fewestM; rw [hv, ← hn]; rfl))
  have HIT := Lib.hid (fun W (e : Ext w W) => isTruth_any iA jA gA tA ic jc gc tc p.judges.length p.grades.length p.wrong p pts W (h.items.ext e) h.il (hT.ext e) hl)
  have hmk : ∀ k, k < p.judges.length → (p.judges.getD k default).marks.length ≤ 20 := fun k hk => by
    have h1 := (hV.ju k hk).2.2.2.2.2
    have h2 := hV.il.2
    omega
  have HCp := Lib.hid (fun W (e : Ext w W) => copy_any iA jA gA ic jc gc p W (h.ext e) hi20 hj20 hg20 hmk)
  have HRng := Lib.hid (show ∀ (k c : Int), 0 ≤ k ∧ k ≤ 2 → c = (if n ≤ k then 0 else 3) → ∃ lo hi : Int, ∀ iA jA gA ic jc gc ms B W, CopyAt W B iA jA gA ic jc gc p ms → Calls Try.prog 19 #[.agg #[.slice iA p.items.length ic, .slice jA p.judges.length jc, .int .i64 k, .slice gA p.grades.length gc]] W fun e w' => e = .returned (.tuple #[.agg #[.int .i64 lo, .int .i64 hi], .int .i64 c]) ∧ Ext W w' from fun k c hk hc => by
    have hkn := known_wrong hv hk
    rw [hn, ← hc] at hkn
    refine ⟨(rangeM { p with wrong := k }).1.1, (rangeM { p with wrong := k }).1.2, fun iA jA gA ic jc gc ms B W hcp => ?_⟩
    refine range_any iA jA gA ic jc gc { p with wrong := k } _ _ c W ((hcp.wrong k).paper (by show p.items.length ≤ _; omega) (by show p.judges.length ≤ _; omega) (by show p.grades.length ≤ _; omega) (fun q hq => by have := hmk q hq; show (p.judges.getD q default).marks.length ≤ _; omega)) ?_
    unfold rangeM
    rw [hkn]
    by_cases h0 : c = 0
    · rw [h0]; rfl
    · rw [if_neg h0])
  have ho' : (pts.length : Int) ≤ 20 := by omega
  have hjl : (n : Int) ≤ p.judges.length := hb1
  rw [hn] at hn2
  rw [hn] at hls2
  have HTr := HIT.out
  rw [ht] at HTr
  have HTr := Lib.hid HTr
  have hwr : n ≤ wrongs p pts := by rw [← hn]; exact (open_fewest hV).1 pts ht
  have HWr := Lib.hid (fun W (e : Ext w W) => wrongs_any iA jA gA tA ic jc gc tc p pts W (h.ext e) hV (hT.ext e) (pointsOk_of hV ht))
  generalize wrongs p pts = wq at *
  clear h hT hr ht hV hv hn HRng HIT hmk
  go_enter Try.func6, Try.ntmps6
  go_wp2_with fail
  refine (HR.out).mono ?_
  rintro e w1 ⟨rfl, hE1⟩
  have HE1 := Lib.hid ((Ext.refl (w.alloc (.cells #[.slice iA p.items.length ic, .slice jA p.judges.length jc, .int .i64 p.wrong, .slice gA p.grades.length gc] 26))).trans hE1)
  obtain ⟨k0, k1, k2, k3⟩ := HB.out _ HE1.out
  clear hE1
  go_wp2_with fail
  refine (HF.out _ (HX.out.trans HE1.out)).mono ?_
  rintro e w2 ⟨rfl, hE2⟩
  have HE2 := Lib.hid (HE1.out.trans hE2)
  obtain ⟨k0, k1, k2, k3⟩ := HB.out _ HE2.out
  clear hE2
  go_wp2_with fail
  refine (HTr.out _ (HX.out.trans HE2.out)).mono ?_
  rintro e w3 ⟨rfl, hE3⟩
  have HE3 := Lib.hid (HE2.out.trans hE3)
  obtain ⟨k0, k1, k2, k3⟩ := HB.out _ HE3.out
  clear hE3
  go_wp2_with fail
  refine (HWr.out _ (HX.out.trans HE3.out)).mono ?_
  rintro e w4 ⟨rfl, hE4⟩
  have HE4 := Lib.hid (HE3.out.trans hE4)
  obtain ⟨k0, k1, k2, k3⟩ := HB.out _ HE4.out
  clear hE4
  go_wp2_with fail
  refine (works_any _).mono ?_
  rintro e w5 ⟨rfl, hE5⟩
  have HE5 := Lib.hid (HE4.out.trans hE5)
  obtain ⟨k0, k1, k2, k3⟩ := HB.out _ HE5.out
  clear hE5
  go_wp2
  go_ret
  exact ⟨rfl, HX.out.trans HE5.out⟩

set_option maxHeartbeats 4000000 in
set_option maxRecDepth 100000 in
theorem fewest_t0d (iA jA gA tA : Option Addr) (ic jc gc tc : Nat) (p : Paper) (pts : List Int) (less : Int) (w : World) (h : PaperAt w iA jA gA p) (hT : Ints w tA pts) (hl : pts.length ≤ 9223372036854775807) (hr : readyM p = true) (ho : pts.length ≤ 20) (ht : isTruth p pts = true) (hn2 : 2 < (openM p).fewest) (hls : 1 ≤ less) (hls2 : less ≤ (openM p).fewest) (hls3 : (openM p).fewest - less ≤ 2) :
    Calls Try.prog 6 #[.agg #[.slice iA p.items.length ic, .slice jA p.judges.length jc, .int .i64 p.wrong, .slice gA p.grades.length gc], .slice tA pts.length tc, .int .i64 less] w fun e w' => e = .returned (.bool true) ∧ Ext w w' := by
  have HX := Lib.hid (Ext.of_alloc w (.cells #[.slice iA p.items.length ic, .slice jA p.judges.length jc, .int .i64 p.wrong, .slice gA p.grades.length gc] 26))
  have HB := Lib.hid (show ∀ W, Ext (w.alloc (.cells #[.slice iA p.items.length ic, .slice jA p.judges.length jc, .int .i64 p.wrong, .slice gA p.grades.length gc] 26)) W → (W.cell? ⟨w.heap.size, 0, none⟩ = some (.slice iA p.items.length ic) ∧ W.cell? ⟨w.heap.size, 1, none⟩ = some (.slice jA p.judges.length jc) ∧ W.cell? ⟨w.heap.size, 2, none⟩ = some (.int .i64 p.wrong) ∧ W.cell? ⟨w.heap.size, 3, none⟩ = some (.slice gA p.grades.length gc)) from fun W e => ⟨e.box 0, e.box 1, e.box 2, e.box 3⟩)
  have HR := ready_any iA jA gA ic jc gc p _ (h.ext HX.out)
  rw [hr] at HR
  have HR := Lib.hid HR
  obtain ⟨hv, hj3, hi20, hj20, hg20⟩ := ready_valid hr
  have hV := valid_of hv
  obtain ⟨n, hn⟩ : ∃ n, (openM p).fewest = n := ⟨_, rfl⟩
  have hbd := fewest_bd hV
  rw [hn] at hbd
  obtain ⟨hb0, hb1⟩ := hbd
  have HF := Lib.hid (fun W (e : Ext w W) => fewest_any iA jA gA ic jc gc p n 0 W (h.ext e) (by unfold fewestM; rw [hv, ← hn]; rfl))
  have HIT := Lib.hid (fun W (e : Ext w W) => isTruth_any iA jA gA tA ic jc gc tc p.judges.length p.grades.length p.wrong p pts W (h.items.ext e) h.il (hT.ext e) hl)
  have hmk : ∀ k, k < p.judges.length → (p.judges.getD k default).marks.length ≤ 20 := fun k hk => by
    have h1 := (hV.ju k hk).2.2.2.2.2
    have h2 := hV.il.2
    omega
  have HCp := Lib.hid (fun W (e : Ext w W) => copy_any iA jA gA ic jc gc p W (h.ext e) hi20 hj20 hg20 hmk)
  have HRng := Lib.hid (show ∀ (k c : Int), 0 ≤ k ∧ k ≤ 2 → c = (if n ≤ k then 0 else 3) → ∃ lo hi : Int, ∀ iA jA gA ic jc gc ms B W, CopyAt W B iA jA gA ic jc gc p ms → Calls Try.prog 19 #[.agg #[.slice iA p.items.length ic, .slice jA p.judges.length jc, .int .i64 k, .slice gA p.grades.length gc]] W fun e w' => e = .returned (.tuple #[.agg #[.int .i64 lo, .int .i64 hi], .int .i64 c]) ∧ Ext W w' from fun k c hk hc => by
    have hkn := known_wrong hv hk
    rw [hn, ← hc] at hkn
    refine ⟨(rangeM { p with wrong := k }).1.1, (rangeM { p with wrong := k }).1.2, fun iA jA gA ic jc gc ms B W hcp => ?_⟩
    refine range_any iA jA gA ic jc gc { p with wrong := k } _ _ c W ((hcp.wrong k).paper (by show p.items.length ≤ _; omega) (by show p.judges.length ≤ _; omega) (by show p.grades.length ≤ _; omega) (fun q hq => by have := hmk q hq; show (p.judges.getD q default).marks.length ≤ _; omega)) ?_
    unfold rangeM
    rw [hkn]
    by_cases h0 : c = 0
    · rw [h0]; rfl
    · rw [if_neg h0])
  have ho' : (pts.length : Int) ≤ 20 := by omega
  have hjl : (n : Int) ≤ p.judges.length := hb1
  rw [hn] at hn2
  rw [hn] at hls2
  rw [hn] at hls3
  have HTr := HIT.out
  rw [ht] at HTr
  have HTr := Lib.hid HTr
  have hwr : n ≤ wrongs p pts := by rw [← hn]; exact (open_fewest hV).1 pts ht
  have HWr := Lib.hid (fun W (e : Ext w W) => wrongs_any iA jA gA tA ic jc gc tc p pts W (h.ext e) hV (hT.ext e) (pointsOk_of hV ht))
  generalize wrongs p pts = wq at *
  obtain ⟨lo2, hi2, hR2⟩ := HRng.out (n - less) 3 ⟨by omega, hls3⟩ (by rw [if_neg (by omega)])
  have HR2 := Lib.hid hR2
  clear hR2
  clear h hT hr ht hV hv hn HRng HIT hmk
  go_enter Try.func6, Try.ntmps6
  go_wp2_with fail
  refine (HR.out).mono ?_
  rintro e w1 ⟨rfl, hE1⟩
  have HE1 := Lib.hid ((Ext.refl (w.alloc (.cells #[.slice iA p.items.length ic, .slice jA p.judges.length jc, .int .i64 p.wrong, .slice gA p.grades.length gc] 26))).trans hE1)
  obtain ⟨k0, k1, k2, k3⟩ := HB.out _ HE1.out
  clear hE1
  go_wp2_with fail
  refine (HF.out _ (HX.out.trans HE1.out)).mono ?_
  rintro e w2 ⟨rfl, hE2⟩
  have HE2 := Lib.hid (HE1.out.trans hE2)
  obtain ⟨k0, k1, k2, k3⟩ := HB.out _ HE2.out
  clear hE2
  go_wp2_with fail
  refine (HTr.out _ (HX.out.trans HE2.out)).mono ?_
  rintro e w3 ⟨rfl, hE3⟩
  have HE3 := Lib.hid (HE2.out.trans hE3)
  obtain ⟨k0, k1, k2, k3⟩ := HB.out _ HE3.out
  clear hE3
  go_wp2_with fail
  refine (HWr.out _ (HX.out.trans HE3.out)).mono ?_
  rintro e w4 ⟨rfl, hE4⟩
  have HE4 := Lib.hid (HE3.out.trans hE4)
  obtain ⟨k0, k1, k2, k3⟩ := HB.out _ HE4.out
  clear hE4
  go_wp2_with fail
  refine (HCp.out _ (HX.out.trans HE4.out)).mono ?_
  rintro e w5 ⟨iA5, jA5, gA5, ic5, jc5, gc5, rfl, hE5, ms5, hcp5⟩
  have HE5 := Lib.hid (HE4.out.trans hE5)
  obtain ⟨k0, k1, k2, k3⟩ := HB.out _ HE5.out
  have HCp5 := Lib.hid hcp5
  clear hcp5
  clear hE5
  go_wp2_with fail
  refine (HR2.out _ _ _ _ _ _ _ _ _ (HCp5.out.ext (Ext.of_alloc w5 (.cells #[.slice iA5 p.items.length ic5, .slice jA5 p.judges.length jc5, .int .i64 (n - less), .slice gA5 p.grades.length gc5] 26)))).mono ?_
  rintro e w6 ⟨rfl, hE6⟩
  have HE6 := Lib.hid ((HE5.out.trans (Ext.of_alloc w5 (.cells #[.slice iA5 p.items.length ic5, .slice jA5 p.judges.length jc5, .int .i64 (n - less), .slice gA5 p.grades.length gc5] 26))).trans hE6)
  have HE6b := Lib.hid (HE6.out.alloc (.cells #[.int .i64 lo2, .int .i64 hi2] 35))
  obtain ⟨k0, k1, k2, k3⟩ := HB.out _ HE6b.out
  clear hE6
  go_wp2_with fail
  refine (works_any _).mono ?_
  rintro e w7 ⟨rfl, hE7⟩
  have HE7 := Lib.hid (HE6b.out.trans hE7)
  obtain ⟨k0, k1, k2, k3⟩ := HB.out _ HE7.out
  clear hE7
  go_wp2
  go_ret
  exact ⟨rfl, HX.out.trans HE7.out⟩

theorem fewest_law (iA jA gA tA : Option Addr) (ic jc gc tc : Nat) (p : Paper) (pts : List Int) (less : Int) (w : World) (h : PaperAt w iA jA gA p) (hT : Ints w tA pts) (hl : pts.length ≤ 9223372036854775807) :
    Calls Try.prog 6 #[.agg #[.slice iA p.items.length ic, .slice jA p.judges.length jc, .int .i64 p.wrong, .slice gA p.grades.length gc], .slice tA pts.length tc, .int .i64 less] w fun e w' => e = .returned (.bool true) ∧ Ext w w' := by
  by_cases hc : readyM p = false ∨ 20 < pts.length
  · exact fewest_early iA jA gA tA ic jc gc tc p pts less w h hT hl hc
  · have hr : readyM p = true := by
      cases hq : readyM p
      · exact absurd (.inl hq) hc
      · rfl
    have ho : pts.length ≤ 20 := by
      rcases Nat.lt_or_ge 20 pts.length with hq | hq
      · exact absurd (.inr hq) hc
      · exact hq
    cases ht : isTruth p pts
    · by_cases hn2 : (openM p).fewest ≤ 2
      · by_cases hls : less < 1
        · exact fewest_f1a iA jA gA tA ic jc gc tc p pts less w h hT hl hr ho ht (by omega) hls
        · by_cases hls2 : (openM p).fewest < less
          · exact fewest_f1b iA jA gA tA ic jc gc tc p pts less w h hT hl hr ho ht (by omega) (by omega) hls2
          · exact fewest_f1d iA jA gA tA ic jc gc tc p pts less w h hT hl hr ho ht (by omega) (by omega) (by omega) (by omega)
      · by_cases hls : less < 1
        · exact fewest_f0a iA jA gA tA ic jc gc tc p pts less w h hT hl hr ho ht (by omega) hls
        · by_cases hls2 : (openM p).fewest < less
          · exact fewest_f0b iA jA gA tA ic jc gc tc p pts less w h hT hl hr ho ht (by omega) (by omega) hls2
          · by_cases hls3 : 2 < (openM p).fewest - less
            · exfalso
              obtain ⟨hv, hj3, _⟩ := ready_valid hr
              have := fewest_bd (valid_of hv)
              omega
            · exact fewest_f0d iA jA gA tA ic jc gc tc p pts less w h hT hl hr ho ht (by omega) (by omega) (by omega) (by omega)
    · by_cases hn2 : (openM p).fewest ≤ 2
      · by_cases hls : less < 1
        · exact fewest_t1a iA jA gA tA ic jc gc tc p pts less w h hT hl hr ho ht (by omega) hls
        · by_cases hls2 : (openM p).fewest < less
          · exact fewest_t1b iA jA gA tA ic jc gc tc p pts less w h hT hl hr ho ht (by omega) (by omega) hls2
          · exact fewest_t1d iA jA gA tA ic jc gc tc p pts less w h hT hl hr ho ht (by omega) (by omega) (by omega) (by omega)
      · by_cases hls : less < 1
        · exact fewest_t0a iA jA gA tA ic jc gc tc p pts less w h hT hl hr ho ht (by omega) hls
        · by_cases hls2 : (openM p).fewest < less
          · exact fewest_t0b iA jA gA tA ic jc gc tc p pts less w h hT hl hr ho ht (by omega) (by omega) hls2
          · by_cases hls3 : 2 < (openM p).fewest - less
            · exfalso
              obtain ⟨hv, hj3, _⟩ := ready_valid hr
              have := fewest_bd (valid_of hv)
              omega
            · exact fewest_t0d iA jA gA tA ic jc gc tc p pts less w h hT hl hr ho ht (by omega) (by omega) (by omega) (by omega)
end Go.Proofs.Ytbpilgflejdhaaa
