/- Exams: the walk over ExamsMarked, on. -/
import Derived.Test.YtbpilgflejdhaaaExS5
import Derived.Test.YtbpilgflejdhaaaMax4
import Derived.Test.YtbpilgflejdhaaaRead
import Derived.Deep.RegionHeld3
namespace Go.Proofs.Ytbpilgflejdhaaa
open Go.RowKit

theorem known_true {p : Paper} (hv : validB p = true) : knownE p true = (if (openM p).poss then 0 else 3) := by simp [knownE, hv]

set_option maxHeartbeats 4000000 in
set_option maxRecDepth 100000 in
theorem marked_none (iA jA gA oA tA : Option Addr) (ic jc gc oc tc : Nat) (p : Paper) (one two : List Int) (mk err : Int) (w : World) (h : PaperAt w iA jA gA p)
    (hr : readyM p = true) (ho : one.length ≤ 20) (ht : two.length ≤ 20) (he : 0 ≤ err ∧ err ≤ 5) (hp : (openM p).poss = false) :
    Calls Try.prog 5 #[.agg #[.slice iA p.items.length ic, .slice jA p.judges.length jc, .int .i64 p.wrong, .slice gA p.grades.length gc], .agg #[.slice oA one.length oc, .slice tA two.length tc, .int .i64 mk, .int .i64 err]] w fun e w' => e = .returned (.bool true) ∧ Ext w w' := by
  have HX := Lib.hid ((Ext.of_alloc w (.cells #[.slice iA p.items.length ic, .slice jA p.judges.length jc, .int .i64 p.wrong, .slice gA p.grades.length gc] 26)).alloc (.cells #[.slice oA one.length oc, .slice tA two.length tc, .int .i64 mk, .int .i64 err] 46))
  have HR := ready_any iA jA gA ic jc gc p _ (h.ext HX.out)
  rw [hr] at HR
  have HR := Lib.hid HR
  have hv := (ready_valid hr).1
  have hk : knownE p true = 3 := by rw [known_true hv, hp]; rfl
  have hwi : wi err 0 5 = true := wi_of he
  have HN := Lib.hid (fun W (e : Ext w W) => next_err iA jA gA ic jc gc p err 3 W (h.ext e) (by rw [hwi]; exact hk) (by decide))
  have HG := Lib.hid (fun W (e : Ext w W) => range_any iA jA gA ic jc gc p 0 0 3 W (h.ext e) (by unfold rangeM; rw [hk]; rfl))
  obtain ⟨he0, he5⟩ := he
  have ho' : (one.length : Int) ≤ 20 := by omega
  have ht' : (two.length : Int) ≤ 20 := by omega
  clear h hr hv hk hwi hp
  go_enter Try.func5, Try.ntmps5
  go_wp2_with fail
  refine HR.out.mono ?_
  rintro e w1 ⟨rfl, hE1⟩
  obtain ⟨b1, b2, f1, f2, hlt⟩ := box2 hE1
  have HE1 := Lib.hid hE1
  clear hE1
  go_wp2_with fail
  refine (HN.out _ (HX.out.trans HE1.out)).mono ?_
  rintro e w2 ⟨rfl, hE2⟩
  have HE2 := Lib.hid (HE1.out.trans hE2)
  obtain ⟨b1, b2, f1, f2, hlt⟩ := box2 HE2.out
  clear hE2
  go_wp2_with fail
  refine (HG.out _ (HX.out.trans HE2.out)).mono ?_
  rintro e w3 ⟨rfl, hE3⟩
  have HE3 := Lib.hid (HX.out.trans (HE2.out.trans hE3))
  clear hE3
  go_wp2_with fail
  refine (works_any _).mono ?_
  rintro e w4 ⟨rfl, hE4⟩
  have HE4 := Lib.hid ((HE3.out.alloc (.cells #[.int .i64 0, .int .i64 0] 35)).trans hE4)
  clear hE4
  go_wp2
  go_ret
  exact ⟨rfl, HE4.out⟩

set_option maxHeartbeats 4000000 in
set_option maxRecDepth 100000 in
theorem marked_ok (iA jA gA oA tA : Option Addr) (ic jc gc oc tc : Nat) (p : Paper) (one two : List Int) (mk err : Int) (w : World) (hmk : I64 mk) (h : PaperAt w iA jA gA p) (hO : Ints w oA one) (hT : Ints w tA two)
    (hr : readyM p = true) (ho : one.length ≤ 20) (ht : two.length ≤ 20) (he : 0 ≤ err ∧ err ≤ 5) (hp : (openM p).poss = true) :
    Calls Try.prog 5 #[.agg #[.slice iA p.items.length ic, .slice jA p.judges.length jc, .int .i64 p.wrong, .slice gA p.grades.length gc], .agg #[.slice oA one.length oc, .slice tA two.length tc, .int .i64 mk, .int .i64 err]] w fun e w' => e = .returned (.bool true) ∧ Ext w w' := by
  have HX := Lib.hid ((Ext.of_alloc w (.cells #[.slice iA p.items.length ic, .slice jA p.judges.length jc, .int .i64 p.wrong, .slice gA p.grades.length gc] 26)).alloc (.cells #[.slice oA one.length oc, .slice tA two.length tc, .int .i64 mk, .int .i64 err] 46))
  have HR := ready_any iA jA gA ic jc gc p _ (h.ext HX.out)
  rw [hr] at HR
  have HR := Lib.hid HR
  have hv := (ready_valid hr).1
  have hV := valid_of hv
  have hk : knownE p true = 0 := by rw [known_true hv, hp]; rfl
  have hwi : wi err 0 5 = true := wi_of he
  have hsm := small_open hV
  obtain ⟨i, hi, hb, _, _⟩ := best_spec hsm he p.items.length hV.il.1 hV.il.2
  obtain ⟨wd, hwd⟩ : ∃ wd, mostM (openM p) i err = wd := ⟨_, rfl⟩
  obtain ⟨lo, hlo⟩ : ∃ lo, (openM p).res.1 = lo := ⟨_, rfl⟩
  obtain ⟨hi', hhi⟩ : ∃ hi', (openM p).res.2 = hi' := ⟨_, rfl⟩
  have hwb := mostM_bd hsm (i := i) (by have := hV.il.2; omega) he
  have hwl := mostM_width hV hi hp he
  have hres : -1073741824 ≤ lo ∧ lo ≤ 1073741824 ∧ -1073741824 ≤ hi' ∧ hi' ≤ 1073741824 := by
    obtain ⟨⟨t1, ht1, hr1⟩, ⟨t2, ht2, hr2⟩⟩ := open_res_ex hV hp
    have q1 := result_bd hV (possible_truth ht1)
    have q2 := result_bd hV (possible_truth ht2)
    omega
  rw [hwd] at hb hwb hwl
  rw [hlo, hhi] at hwl
  have HN := Lib.hid (fun W (e : Ext w W) => next_ok iA jA gA ic jc gc p err i wd W (h.ext e) (by rw [hwi]; exact hk) hsm hb)
  have HG := Lib.hid (fun W (e : Ext w W) => range_any iA jA gA ic jc gc p lo hi' 0 W (h.ext e) (by unfold rangeM; rw [if_pos hk, ← hlo, ← hhi]))
  have HLaw := Lib.hid (fun t u ht hu h1 h2 h3 h4 => hwd ▸ mark_law hV hi (err := err) (mark := mk) he (t := t) (u := u) ht hu h1 h2 h3 h4)
  have HMk := Lib.hid hmk
  clear hmk
  have HLaw2 := Lib.hid (fun m t u ht hu h1 h2 h3 h4 => hwd ▸ mark_law hV hi (err := err) (mark := m) he (t := t) (u := u) ht hu h1 h2 h3 h4)
  have HIP1 := Lib.hid (fun W (e : Ext w W) => isPossible_any iA jA gA oA ic jc gc oc p one W (h.ext e) hV (hO.ext e) (by omega))
  have HIP2 := Lib.hid (fun W (e : Ext w W) => isPossible_any iA jA gA tA ic jc gc tc p two W (h.ext e) hV (hT.ext e) (by omega))
  have hil4 := hV.il.2
  have HVd := Lib.hid hV
  have H := Lib.hid h
  have HOI := Lib.hid hO
  have HTI := Lib.hid hT
  obtain ⟨he0, he5⟩ := he
  obtain ⟨r1, r2, r3, r4⟩ := hres
  obtain ⟨q1, q2⟩ := hwb
  have ho' : (one.length : Int) ≤ 20 := by omega
  have ht' : (two.length : Int) ≤ 20 := by omega
  have hii : (i : Int) < p.items.length := by omega
  clear h hr hv hk hwi hp hsm hb hlo hhi hV hO hT
  go_enter Try.func5, Try.ntmps5
  go_wp2_with fail
  refine HR.out.mono ?_
  rintro e w1 ⟨rfl, hE1⟩
  obtain ⟨b1, b2, f1, f2, hlt⟩ := box2 hE1
  have HE1 := Lib.hid hE1
  clear hE1
  go_wp2_with fail
  refine (HN.out _ (HX.out.trans HE1.out)).mono ?_
  rintro e w2 ⟨rfl, hE2⟩
  have HE2 := Lib.hid (HE1.out.trans hE2)
  obtain ⟨b1, b2, f1, f2, hlt⟩ := box2 HE2.out
  clear hE2
  go_wp2_with fail
  refine (HG.out _ (HX.out.trans HE2.out)).mono ?_
  rintro e w3 ⟨rfl, hE3⟩
  have HE3 := Lib.hid (HE2.out.trans hE3)
  have HE4 := Lib.hid (HE3.out.alloc (.cells #[.int .i64 lo, .int .i64 hi'] 35))
  obtain ⟨b1, b2, f1, f2, hlt⟩ := box2 HE4.out
  have s0 : (w3.alloc (.cells #[.int .i64 lo, .int .i64 hi'] 35)).cell? ⟨w3.heap.size, 0, none⟩ = some (.int .i64 lo) := (Blk.new w3 35 _).cell 0
  have s1 : (w3.alloc (.cells #[.int .i64 lo, .int .i64 hi'] 35)).cell? ⟨w3.heap.size, 1, none⟩ = some (.int .i64 hi') := (Blk.new w3 35 _).cell 1
  clear hE3 hwd
  go_wp2_with fail
  generalize hw4 : w3.alloc (.cells #[.int .i64 lo, .int .i64 hi'] 35) = w4 at *
  clear hw4 s0 s1
  obtain ⟨C, hC⟩ : ∃ C : World → Prop, ∀ W, C W ↔ Ext w4 W := ⟨_, fun W => Iff.rfl⟩
  have HC := Lib.hid hC
  have hP1 : ∀ W, C W → Calls Try.prog 22 #[.agg #[.slice iA p.items.length ic, .slice jA p.judges.length jc, .int .i64 p.wrong, .slice gA p.grades.length gc], .slice oA one.length oc] W fun e W => e = .returned (.bool (isPossible p one)) ∧ C W :=
    fun W hW => (HIP1.out W (HX.out.trans (HE4.out.trans ((hC W).1 hW)))).mono fun e w1 ⟨he, hE1⟩ => ⟨he, (hC _).2 (((hC W).1 hW).trans hE1)⟩
  have hP2 : ∀ W, C W → Calls Try.prog 22 #[.agg #[.slice iA p.items.length ic, .slice jA p.judges.length jc, .int .i64 p.wrong, .slice gA p.grades.length gc], .slice tA two.length tc] W fun e W => e = .returned (.bool (isPossible p two)) ∧ C W :=
    fun W hW => (HIP2.out W (HX.out.trans (HE4.out.trans ((hC W).1 hW)))).mono fun e w1 ⟨he, hE1⟩ => ⟨he, (hC _).2 (((hC W).1 hW).trans hE1)⟩
  have HP1 := Lib.hid hP1
  have HP2 := Lib.hid hP2
  clear hP1 hP2
  cases hp1 : isPossible p one
  · rw [hp1] at HP1
    have HB := Lib.hid (show ∀ W, C W → (W.cell? ⟨w.heap.size, 0, none⟩ = some (.slice iA p.items.length ic) ∧ W.cell? ⟨w.heap.size, 1, none⟩ = some (.slice jA p.judges.length jc) ∧ W.cell? ⟨w.heap.size, 2, none⟩ = some (.int .i64 p.wrong) ∧ W.cell? ⟨w.heap.size, 3, none⟩ = some (.slice gA p.grades.length gc) ∧
        W.cell? ⟨w.heap.size + 1, 0, none⟩ = some (.slice oA one.length oc) ∧ W.cell? ⟨w.heap.size + 1, 1, none⟩ = some (.slice tA two.length tc) ∧ W.cell? ⟨w.heap.size + 1, 2, none⟩ = some (.int .i64 mk) ∧ W.cell? ⟨w.heap.size + 1, 3, none⟩ = some (.int .i64 err) ∧ True ∧ True) from fun W hW => by
      obtain ⟨b1, b2, _⟩ := box2 (HE4.out.trans ((hC W).1 hW))
      exact ⟨b1 0, b1 1, b1 2, b1 3, b2 0, b2 1, b2 2, b2 3, trivial, trivial⟩)
    clear hp1 hC b1 b2 f1 f2
    with_reducible refine wp_region_class C (by kernel_rfl) (by kernel_rfl) ((HC.out _).2 (Ext.refl _).drew) ?_
    repeat
      ((with_reducible refine wpQuiet_step (fun K hK => ?_))
       go_simp
       first
       | ((with_reducible refine hK _ ?_); clear hK K)
       | (with_reducible apply Exists.intro
          (with_reducible refine ⟨fun W hW => ?_, hK _ ?_⟩)
          · first | (with_reducible exact HP1.out W hW) | (with_reducible exact HP2.out W hW) | (obtain ⟨k0, k1, k2, k3, m0, m1, m2, m3, m4, m5⟩ := HB.out W hW; go_simp <;> rfl)
          clear hK K))
    with_reducible refine wpQuiet_nil ?_
    intro w5 hw5
    have HE5 := Lib.hid ((HC.out _).1 hw5)
    have hb5 := HB.out w5 hw5

    clear hb5
    go_wp2_with fail
    refine (works_any _).mono ?_
    rintro e w6 ⟨rfl, hE6⟩
    have HE6 := Lib.hid ((HX.out.trans HE4.out).trans (HE5.out.trans hE6))
    clear hE6
    go_wp2
    go_ret
    exact ⟨rfl, HE6.out⟩
  · have HPo1 := Lib.hid hp1
    rw [hp1] at HP1
    cases hp2 : isPossible p two
    · rw [hp2] at HP2
      have HB := Lib.hid (show ∀ W, C W → (W.cell? ⟨w.heap.size, 0, none⟩ = some (.slice iA p.items.length ic) ∧ W.cell? ⟨w.heap.size, 1, none⟩ = some (.slice jA p.judges.length jc) ∧ W.cell? ⟨w.heap.size, 2, none⟩ = some (.int .i64 p.wrong) ∧ W.cell? ⟨w.heap.size, 3, none⟩ = some (.slice gA p.grades.length gc) ∧
          W.cell? ⟨w.heap.size + 1, 0, none⟩ = some (.slice oA one.length oc) ∧ W.cell? ⟨w.heap.size + 1, 1, none⟩ = some (.slice tA two.length tc) ∧ W.cell? ⟨w.heap.size + 1, 2, none⟩ = some (.int .i64 mk) ∧ W.cell? ⟨w.heap.size + 1, 3, none⟩ = some (.int .i64 err) ∧ True ∧ True) from fun W hW => by
        obtain ⟨b1, b2, _⟩ := box2 (HE4.out.trans ((hC W).1 hW))
        exact ⟨b1 0, b1 1, b1 2, b1 3, b2 0, b2 1, b2 2, b2 3, trivial, trivial⟩)
      clear hp1 hp2 hC b1 b2 f1 f2
      with_reducible refine wp_region_class C (by kernel_rfl) (by kernel_rfl) ((HC.out _).2 (Ext.refl _).drew) ?_
      repeat
        ((with_reducible refine wpQuiet_step (fun K hK => ?_))
         go_simp
         first
         | ((with_reducible refine hK _ ?_); clear hK K)
         | (with_reducible apply Exists.intro
            (with_reducible refine ⟨fun W hW => ?_, hK _ ?_⟩)
            · first | (with_reducible exact HP1.out W hW) | (with_reducible exact HP2.out W hW) | (obtain ⟨k0, k1, k2, k3, m0, m1, m2, m3, m4, m5⟩ := HB.out W hW; go_simp <;> rfl)
            clear hK K))
      with_reducible refine wpQuiet_nil ?_
      intro w5 hw5
      have HE5 := Lib.hid ((HC.out _).1 hw5)
      have hb5 := HB.out w5 hw5

      clear hb5
      go_wp2_with fail
      refine (works_any _).mono ?_
      rintro e w6 ⟨rfl, hE6⟩
      have HE6 := Lib.hid ((HX.out.trans HE4.out).trans (HE5.out.trans hE6))
      clear hE6
      go_wp2
      go_ret
      exact ⟨rfl, HE6.out⟩
    · have HPo2 := Lib.hid hp2
      rw [hp2] at HP2
      have hT1 := isTruth_iff.1 (possible_truth hp1)
      have hT2 := isTruth_iff.1 (possible_truth hp2)
      have hi1 : i < one.length := by omega
      have hi2 : i < two.length := by omega
      obtain ⟨bo, oo, x, rfl, hbo, hco, hx⟩ := (HOI.out.ext (HX.out.trans HE4.out)).get hi1
      obtain ⟨bt, ot, y, rfl, hbt, hct, hy⟩ := (HTI.out.ext (HX.out.trans HE4.out)).get hi2
      have hx1 := hT1.2 i hi1
      have hy1 := hT2.2 i hi2
      rw [hx.out] at hx1
      rw [hy.out] at hy1
      have hmost := HVd.out.it i hi
      have hx1' : 0 ≤ x ∧ x ≤ 30 := by omega
      have hy1' : 0 ≤ y ∧ y ≤ 30 := by omega
      obtain ⟨mx, hmx0⟩ : ∃ mx, mx = max (max (max (IntKind.i64.wrap (x - mk)) (IntKind.i64.wrap (mk - x))) (IntKind.i64.wrap (y - mk))) (IntKind.i64.wrap (mk - y)) := ⟨_, rfl⟩
      have hmx : ∀ W : World, (Builtin.max_ #[3, 3, 3, 3] 3 #[.int .i64 (IntKind.i64.wrap (x - mk)), .int .i64 (IntKind.i64.wrap (mk - x)), .int .i64 (IntKind.i64.wrap (y - mk)), .int .i64 (IntKind.i64.wrap (mk - y))]).run Try.prog W = .ok (.int .i64 mx) W := fun W => by
        obtain ⟨m, h1, h2⟩ := run_max_int4 (P := Try.prog) (w := W) #[3, 3, 3, 3] 3 (IntKind.i64.wrap (x - mk)) (IntKind.i64.wrap (mk - x)) (IntKind.i64.wrap (y - mk)) (IntKind.i64.wrap (mk - y))
        rw [h1, h2, ← hmx0]
      have HMx := Lib.hid hmx0
      clear hmx0
      have HB := Lib.hid (show ∀ W, C W → (W.cell? ⟨w.heap.size, 0, none⟩ = some (.slice iA p.items.length ic) ∧ W.cell? ⟨w.heap.size, 1, none⟩ = some (.slice jA p.judges.length jc) ∧ W.cell? ⟨w.heap.size, 2, none⟩ = some (.int .i64 p.wrong) ∧ W.cell? ⟨w.heap.size, 3, none⟩ = some (.slice gA p.grades.length gc) ∧
          W.cell? ⟨w.heap.size + 1, 0, none⟩ = some (.slice (some ⟨bo, oo, none⟩) one.length oc) ∧ W.cell? ⟨w.heap.size + 1, 1, none⟩ = some (.slice (some ⟨bt, ot, none⟩) two.length tc) ∧ W.cell? ⟨w.heap.size + 1, 2, none⟩ = some (.int .i64 mk) ∧ W.cell? ⟨w.heap.size + 1, 3, none⟩ = some (.int .i64 err) ∧ W.cell? ⟨bo, oo + i, none⟩ = some (.int .i64 x) ∧ W.cell? ⟨bt, ot + i, none⟩ = some (.int .i64 y)) from fun W hW => by
        obtain ⟨b1, b2, _⟩ := box2 (HE4.out.trans ((hC W).1 hW))
        exact ⟨b1 0, b1 1, b1 2, b1 3, b2 0, b2 1, b2 2, b2 3, (((hC W).1 hW).cellOf (p := ⟨bo, oo + i, none⟩) hbo).trans hco, (((hC W).1 hW).cellOf (p := ⟨bt, ot + i, none⟩) hbt).trans hct⟩)
      by_cases hgt : err < mx
      · clear hp1 hp2 hC hT1 hT2 b1 b2 f1 f2
        with_reducible refine wp_region_class C (by kernel_rfl) (by kernel_rfl) ((HC.out _).2 (Ext.refl _).drew) ?_
        repeat
          ((with_reducible refine wpQuiet_step (fun K hK => ?_))
           go_simp
           first
           | ((with_reducible refine hK _ ?_); clear hK K)
           | (with_reducible apply Exists.intro
              (with_reducible refine ⟨fun W hW => ?_, hK _ ?_⟩)
              · first | (with_reducible exact HP1.out W hW) | (with_reducible exact HP2.out W hW) | (obtain ⟨k0, k1, k2, k3, m0, m1, m2, m3, m4, m5⟩ := HB.out W hW; go_simp <;> rfl)
              clear hK K))
        with_reducible refine wpQuiet_nil ?_
        intro w5 hw5
        have HE5 := Lib.hid ((HC.out _).1 hw5)
        have hb5 := HB.out w5 hw5

        clear hb5
        go_wp2_with fail
        refine (works_any _).mono ?_
        rintro e w6 ⟨rfl, hE6⟩
        have HE6 := Lib.hid ((HX.out.trans HE4.out).trans (HE5.out.trans hE6))
        clear hE6
        go_wp2
        go_ret
        exact ⟨rfl, HE6.out⟩
      · clear hp1 hp2 hC hT1 hT2 b1 b2 f1 f2
        with_reducible refine wp_region_class C (by kernel_rfl) (by kernel_rfl) ((HC.out _).2 (Ext.refl _).drew) ?_
        repeat
          ((with_reducible refine wpQuiet_step (fun K hK => ?_))
           go_simp
           first
           | ((with_reducible refine hK _ ?_); clear hK K)
           | (with_reducible apply Exists.intro
              (with_reducible refine ⟨fun W hW => ?_, hK _ ?_⟩)
              · first | (with_reducible exact HP1.out W hW) | (with_reducible exact HP2.out W hW) | (obtain ⟨k0, k1, k2, k3, m0, m1, m2, m3, m4, m5⟩ := HB.out W hW; go_simp <;> rfl)
              clear hK K))
        with_reducible refine wpQuiet_nil ?_
        intro w5 hw5
        have HE5 := Lib.hid ((HC.out _).1 hw5)
        have hb5 := HB.out w5 hw5

        have hQ1 : ∀ W, C W → Calls Try.prog 23 #[.agg #[.slice iA p.items.length ic, .slice jA p.judges.length jc, .int .i64 p.wrong, .slice gA p.grades.length gc], .slice (some ⟨bo, oo, none⟩) one.length oc] W fun e W => e = .returned (.int .i64 (resultOf p one)) ∧ C W := fun W hW => by
          have hT := isTruth_iff.1 (possible_truth HPo1.out)
          exact (result_any iA jA gA _ ic jc gc _ _ _ _ p _ W ((H.out.items).ext (HX.out.trans (HE4.out.trans ((HC.out W).1 hW)))) hil4 (HOI.out.ext (HX.out.trans (HE4.out.trans ((HC.out W).1 hW)))) hT.1
            (fun k hk => ⟨(HVd.out.it k (by omega)).1, (HVd.out.it k (by omega)).2.1⟩) (fun k hk => by have a := hT.2 k hk; have b := HVd.out.it k (by omega); omega)).mono fun e w1 ⟨he, hE1⟩ => ⟨he, (HC.out _).2 (((HC.out W).1 hW).trans hE1)⟩
        have HQ1 := Lib.hid hQ1
        clear hQ1
        have hQ2 : ∀ W, C W → Calls Try.prog 23 #[.agg #[.slice iA p.items.length ic, .slice jA p.judges.length jc, .int .i64 p.wrong, .slice gA p.grades.length gc], .slice (some ⟨bt, ot, none⟩) two.length tc] W fun e W => e = .returned (.int .i64 (resultOf p two)) ∧ C W := fun W hW => by
          have hT := isTruth_iff.1 (possible_truth HPo2.out)
          exact (result_any iA jA gA _ ic jc gc _ _ _ _ p _ W ((H.out.items).ext (HX.out.trans (HE4.out.trans ((HC.out W).1 hW)))) hil4 (HTI.out.ext (HX.out.trans (HE4.out.trans ((HC.out W).1 hW)))) hT.1
            (fun k hk => ⟨(HVd.out.it k (by omega)).1, (HVd.out.it k (by omega)).2.1⟩) (fun k hk => by have a := hT.2 k hk; have b := HVd.out.it k (by omega); omega)).mono fun e w1 ⟨he, hE1⟩ => ⟨he, (HC.out _).2 (((HC.out W).1 hW).trans hE1)⟩
        have HQ2 := Lib.hid hQ2
        clear hQ2
        have hr1 := result_bd HVd.out (possible_truth HPo1.out)
        have hr2 := result_bd HVd.out (possible_truth HPo2.out)
        have hlaw : resultOf p one - resultOf p two ≤ wd ∧ resultOf p two - resultOf p one ≤ wd := by
          have hw := wrap_cases hx1' hy1' ⟨he0, he5⟩ HMk.out (by have := HMx.out; omega)
          rcases hw with ⟨a1, a2, a3, a4⟩ | hxy
          · exact ⟨HLaw.out one two HPo1.out HPo2.out (by rw [hx.out]; omega) (by rw [hx.out]; omega) (by rw [hy.out]; omega) (by rw [hy.out]; omega), HLaw.out two one HPo2.out HPo1.out (by rw [hy.out]; omega) (by rw [hy.out]; omega) (by rw [hx.out]; omega) (by rw [hx.out]; omega)⟩
          · have hxe := hx.out
            have hye := hy.out
            rw [hxy] at hxe
            exact ⟨HLaw2.out y one two HPo1.out HPo2.out (by rw [hxe]; omega) (by rw [hxe]; omega) (by rw [hye]; omega) (by rw [hye]; omega), HLaw2.out y two one HPo2.out HPo1.out (by rw [hye]; omega) (by rw [hye]; omega) (by rw [hxe]; omega) (by rw [hxe]; omega)⟩
        generalize resultOf p one = re1 at *
        generalize resultOf p two = re2 at *
        obtain ⟨k0, k1, k2, k3, m0, m1, m2, m3, m4, m5⟩ := hb5
        go_wp2_with fail
        with_reducible refine wp_region_class C (by kernel_rfl) (by kernel_rfl) ((HC.out _).2 (HE5.out.trans (Ext.refl _).drew)) ?_
        repeat
          ((with_reducible refine wpQuiet_step (fun K hK => ?_))
           go_simp
           first
           | ((with_reducible refine hK _ ?_); clear hK K)
           | (with_reducible apply Exists.intro
              (with_reducible refine ⟨fun W hW => ?_, hK _ ?_⟩)
              · first | (with_reducible exact HQ1.out W hW) | (with_reducible exact HQ2.out W hW) | (obtain ⟨k0, k1, k2, k3, m0, m1, m2, m3, m4, m5⟩ := HB.out W hW; go_simp <;> rfl)
              clear hK K))
        with_reducible refine wpQuiet_nil ?_
        intro w6 hw6
        have HE6 := Lib.hid ((HX.out.trans HE4.out).trans ((HC.out _).1 hw6))
        obtain ⟨hl1, hl2⟩ := hlaw
        clear hw6
        by_cases hs : re1 - re2 < -(re1 - re2)
        all_goals
          go_wp2_with fail
          refine (works_any _).mono ?_
          rintro e w7 ⟨rfl, hE7⟩
          have HE7 := Lib.hid (HE6.out.trans hE7)
          clear hE7
          go_wp2
          go_ret
          exact ⟨rfl, HE7.out⟩
end Go.Proofs.Ytbpilgflejdhaaa
