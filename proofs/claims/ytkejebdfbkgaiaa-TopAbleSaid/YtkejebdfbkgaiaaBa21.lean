/- Exams: Wrongs, IsPossible. / Exams: the program's Check. / Exams: the program's Check, whole. / Exams: none, add, width, the survey's grade. / Exams: slices.Clone of spans; what a survey is, and how it lies in memory. -/
import Derived.Test.YtkejebdfbkgaiaaBa20
import Derived.Deep.RegionHeld3
import Derived.Laws.EntriesVeiled
import Derived.StillTailTactics
import Derived.BigRegion

namespace Go.Proofs.Ytkejebdfbkgaiaa
open Go.RowKit

/-- A judge in memory, read. -/
theorem JudgesAt.get {w : World} {A : Option Addr} {l : List Judge} (h : JudgesAt w A l) {k : Nat} (hk : k < l.length) :
    ∃ b off lo hi err ma mA mc, A = some ⟨b, off, none⟩ ∧ b < w.heap.size ∧ w.cell? ⟨b, off + k * 4, none⟩ = some (.int .i64 lo) ∧ w.cell? ⟨b, off + k * 4 + 1, none⟩ = some (.int .i64 hi) ∧
      w.cell? ⟨b, off + k * 4 + 2, none⟩ = some (.int .i64 err) ∧ w.cell? ⟨b, off + k * 4 + 3, none⟩ = some (.slice mA ma.length mc) ∧ Ints w mA ma ∧ ma.length ≤ 9223372036854775807 ∧ Hid (l.getD k default = ⟨lo, hi, err, ma⟩) := by
  obtain ⟨b, off, h1, h2, h3, h4, h5, mA, mc, h6, h7, h8⟩ := h k hk
  exact ⟨b, off, _, _, _, _, mA, mc, h1, h2, h3, h4, h5, h6, h7, h8, rfl⟩

/-- What IsRight, Wrongs, IsPossible ask of points. -/
structure PointsOk (p : Paper) (t : List Int) : Prop where
  len : t.length = p.items.length
  rng : ∀ k, k < t.length → 0 ≤ t.getD k 0 ∧ t.getD k 0 ≤ 30

theorem pointsOk_of {p : Paper} {t : List Int} (hv : Valid p) (h : isTruth p t = true) : PointsOk p t := by
  simp only [isTruth, Bool.and_eq_true, decide_eq_true_eq] at h
  refine ⟨h.1, fun k hk => ?_⟩
  have h1 := wi_true (range_all.1 h.2 k hk)
  have h2 := hv.it k (by omega)
  omega

set_option maxHeartbeats 1000000 in
theorem wrongs_any (iA jA gA tA : Option Addr) (ic jc gc tc : Nat) (p : Paper) (t : List Int) (w : World) (h : PaperAt w iA jA gA p) (hv : Valid p) (ht : Ints w tA t) (hp : PointsOk p t) :
    Calls Try.prog 23 #[.agg #[.slice iA p.items.length ic, .slice jA p.judges.length jc, .int .i64 p.wrong, .slice gA p.grades.length gc], .slice tA t.length tc] w fun e w' => e = .returned (.int .i64 (wrongs p t)) ∧ Ext w w' := by
  have hjl := hv.jl
  have hj := h.judges
  have HP := Lib.hid hp
  have HV := Lib.hid hv
  have HS := Lib.hid (wrongsTo_succ p t)
  have HB := Lib.hid (wrongsTo_le p t)
  have HW := Lib.hid (show wrongs p t = wrongsTo p t p.judges.length from rfl)
  have HZ := Lib.hid (show wrongsTo p t 0 = 0 from by simp [wrongsTo])
  generalize wrongs p t = wo at *
  generalize wrongsTo p t = wt at *
  clear hp hv h
  generalize p.items.length = il, p.grades.length = gl, p.wrong = pw
  go_enter Try.func23, Try.ntmps23
  go_wp2
  go_loopw [5, 6] (fun n i wr' => ∃ k : Nat, k ≤ p.judges.length ∧ i = .int .i64 k ∧ n = .int .i64 (wt k) ∧ Ext (w.alloc (.cells #[.slice iA il ic, .slice jA p.judges.length jc, .int .i64 pw, .slice gA gl gc] 43)) wr') (fun _ i _ => p.judges.length - (intOf i).toNat)
  case atStart => exact ⟨0, by omega, rfl, by rw [HZ.out]; rfl, Ext.refl _⟩
  case round =>
    obtain ⟨k, hk, rfl, rfl, hE⟩ := hrel
    have HE := Lib.hid hE
    have hbox := hE.box
    have htr := ht.ext hE.unalloc
    have hjr := hj.ext hE.unalloc
    clear hE
    have hkb := HB.out k
    by_cases hlt : k < p.judges.length
    · obtain ⟨b, off, lo, hi, err, ma, mA, mc, rfl, hb, hc1, hc2, hc3, hc4, hma, hml, hx⟩ := hjr.get hlt
      have HS1 := Lib.hid (HS.out k hlt)
      have hju := HV.out.ju k hlt
      have hmk := HV.out.ma k hlt
      rw [hx.out] at hju hmk
      have HMk := Lib.hid hmk
      have HPl := HP.out.len
      have HPr := Lib.hid HP.out.rng
      have hil := HV.out.il.2
      have HLen := Lib.hid (show ma.length = t.length by have := hju.2.2.2.2.2; simp at this; omega)
      clear hmk
      simp only at hju
      obtain ⟨hj1, hj2, hj3, hj4, hj5, hj6⟩ := hju
      clear hj6
      have HQ := Lib.hid HPl
      have ht4 : t.length ≤ 4 := by omega
      clear HPl
      cases hr : isRight ⟨lo, hi, err, ma⟩ t
      · have HR := Lib.hid hr
        clear hr
        go_wp2_with fail
        refine (isRight_any mA tA mc tc ⟨lo, hi, err, ma⟩ t _ hma htr HLen.out ht4 (fun k hk => HMk.out k (by have := HQ.out; omega)) HPr.out hj1 hj2 hj3 hj4 hj5).mono ?_
        rintro e w1 ⟨rfl, hE1⟩
        rw [HR.out]
        have HE1 := Lib.hid hE1
        have hbox := (HE.out.trans hE1).box
        clear hE1
        go_wp2
        go_roundw
        case rel => exact ⟨k + 1, by omega, by go_num, by rw [HS1.out, hx.out, HR.out]; simp, HE.out.trans HE1.out⟩
        case measure => simp [intOf]; omega
      · have HR := Lib.hid hr
        clear hr
        go_wp2_with fail
        refine (isRight_any mA tA mc tc ⟨lo, hi, err, ma⟩ t _ hma htr HLen.out ht4 (fun k hk => HMk.out k (by have := HQ.out; omega)) HPr.out hj1 hj2 hj3 hj4 hj5).mono ?_
        rintro e w1 ⟨rfl, hE1⟩
        rw [HR.out]
        have HE1 := Lib.hid hE1
        have hbox := (HE.out.trans hE1).box
        clear hE1
        go_wp2
        go_roundw
        case rel => exact ⟨k + 1, by omega, by go_num, by rw [HS1.out, hx.out, HR.out]; simp, HE.out.trans HE1.out⟩
        case measure => simp [intOf]; omega
    · go_wp2
      go_ret
      exact ⟨ret_int (by rw [HW.out, show p.judges.length = k by omega]), HE.out.unalloc⟩

set_option maxHeartbeats 1000000 in
theorem isPossible_any (iA jA gA tA : Option Addr) (ic jc gc tc : Nat) (p : Paper) (t : List Int) (w : World) (h : PaperAt w iA jA gA p) (hv : Valid p) (ht : Ints w tA t) (htl : t.length ≤ 9223372036854775807) :
    Calls Try.prog 10 #[.agg #[.slice iA p.items.length ic, .slice jA p.judges.length jc, .int .i64 p.wrong, .slice gA p.grades.length gc], .slice tA t.length tc] w fun e w' => e = .returned (.bool (isPossible p t)) ∧ Ext w w' := by
  have H := Lib.hid h
  have HV := Lib.hid hv
  have HIP := Lib.hid (show isPossible p t = (isTruth p t && decide ((wrongs p t : Int) ≤ p.wrong)) from rfl)
  generalize isPossible p t = ip at *
  clear h hv
  obtain ⟨C, hC⟩ : ∃ C : World → Prop, ∀ W, C W ↔ Ext (w.alloc (.cells #[.slice iA p.items.length ic, .slice jA p.judges.length jc, .int .i64 p.wrong, .slice gA p.grades.length gc] 43)) W := ⟨_, fun W => Iff.rfl⟩
  have HC := Lib.hid hC
  have hB : ∀ W, C W → ∀ i, W.cell? ⟨w.heap.size, i, none⟩ = #[Value.slice iA p.items.length ic, .slice jA p.judges.length jc, .int .i64 p.wrong, .slice gA p.grades.length gc][i]? := fun W h i => ((hC W).1 h).box i
  have HB := Lib.hid hB
  have C1 : ∀ W : World, C W → Calls Try.prog 22 #[.agg #[.slice iA p.items.length ic, .slice jA p.judges.length jc, .int .i64 p.wrong, .slice gA p.grades.length gc], .slice tA t.length tc] W fun e W => e = .returned (.bool (isTruth p t)) ∧ C W :=
      fun W hW => (isTruth_any iA jA gA tA ic jc gc tc _ _ _ p t _ (H.out.items.ext ((hC W).1 hW).unalloc) H.out.il (ht.ext ((hC W).1 hW).unalloc) htl).mono fun e w1 ⟨he, hE1⟩ => ⟨he, (hC _).2 (((hC W).1 hW).trans hE1)⟩
  have C2 : PointsOk p t → ∀ W : World, C W → Calls Try.prog 23 #[.agg #[.slice iA p.items.length ic, .slice jA p.judges.length jc, .int .i64 p.wrong, .slice gA p.grades.length gc], .slice tA t.length tc] W fun e W => e = .returned (.int .i64 (wrongs p t)) ∧ C W :=
      fun hp W hW => (wrongs_any iA jA gA tA ic jc gc tc p t _ (H.out.ext ((hC W).1 hW).unalloc) HV.out (ht.ext ((hC W).1 hW).unalloc) hp).mono fun e w1 ⟨he, hE1⟩ => ⟨he, (hC _).2 (((hC W).1 hW).trans hE1)⟩
  have H1 := Lib.hid C1
  have H2 := Lib.hid C2
  clear C1 C2 hC hB
  cases hit : isTruth p t
  · rw [hit] at H1 HIP
    clear hit
    go_enter Try.func10, Try.ntmps10
    go_wp2
    refine wp_region_class C (by kernel_rfl) (by kernel_rfl) ((HC.out _).2 (Ext.refl _).drew) ?_
    repeat
      (refine wpQuiet_step (fun K hK => ?_)
       go_simp
       first
       | (refine hK _ ?_; clear hK K)
       | (apply Exists.intro
          refine ⟨fun W hW => ?_, hK _ ?_⟩
          · first | exact H1.out W hW | (have hb := HB.out W hW; go_simp; rfl)
          clear hK K))
    refine wpQuiet_nil ?_
    intro w1 hw1
    have HE := Lib.hid ((HC.out _).1 hw1)
    go_wp2
    go_ret
    exact ⟨ret_bool HIP.out.symm, HE.out.unalloc⟩
  · have hp := pointsOk_of HV.out hit
    rw [hit] at H1 HIP
    have H3 := Lib.hid (H2.out hp)
    clear hit hp
    go_enter Try.func10, Try.ntmps10
    go_wp2
    refine wp_region_class C (by kernel_rfl) (by kernel_rfl) ((HC.out _).2 (Ext.refl _).drew) ?_
    repeat
      (refine wpQuiet_step (fun K hK => ?_)
       go_simp
       first
       | (refine hK _ ?_; clear hK K)
       | (apply Exists.intro
          refine ⟨fun W hW => ?_, hK _ ?_⟩
          · first | exact H1.out W hW | exact H3.out W hW | (have hb := HB.out W hW; go_simp; rfl)
          clear hK K))
    refine wpQuiet_nil ?_
    intro w1 hw1
    have HE := Lib.hid ((HC.out _).1 hw1)
    go_wp2
    go_ret
    exact ⟨ret_bool HIP.out.symm, HE.out.unalloc⟩
end Go.Proofs.Ytkejebdfbkgaiaa

namespace Go.Proofs.Ytkejebdfbkgaiaa
open Go.RowKit

theorem withinE (n lo hi : Int) (w : World) :
    Calls Try.prog 60 #[.int .i64 n, .int .i64 lo, .int .i64 hi] w fun e w' => e = .returned (.bool (wi n lo hi)) ∧ w = w' := by
  by_cases h1 : lo ≤ n
  · by_cases h2 : n ≤ hi
    · have h := Lib.hid (wi_of ⟨h1, h2⟩)
      go_enter Try.func60, Try.ntmps60
      go_wp2
      go_ret
      exact ⟨ret_bool h.out.symm, rfl⟩
    · have h := Lib.hid (show wi n lo hi = false by simp [wi, h2])
      go_enter Try.func60, Try.ntmps60
      go_wp2
      go_ret
      exact ⟨ret_bool h.out.symm, rfl⟩
  · have h := Lib.hid (show wi n lo hi = false by simp [wi, h1])
    go_enter Try.func60, Try.ntmps60
    go_wp2
    go_ret
    exact ⟨ret_bool h.out.symm, rfl⟩
theorem withinE' (n lo hi : Int) (w : World) :
    Calls Try.prog 60 #[.int .i64 n, .int .i64 lo, .int .i64 hi] w fun e w' => e = .returned (.bool (wi n lo hi)) ∧ w' = w :=
  (withinE n lo hi w).mono fun _ _ ⟨a, b⟩ => ⟨a, b.symm⟩

theorem itemFn (x y : Int) (w : World) : Calls Try.prog 59 #[.agg #[.int .i64 x, .int .i64 y]] w fun e w' => e = .returned (.bool (itemOk ⟨x, y⟩)) ∧ Ext w w' := by
  have HI := Lib.hid (show itemOk ⟨x, y⟩ = (wi x 0 10 && wi y 0 30) from rfl)
  cases h1 : wi x 0 10
  · rw [h1] at HI
    go_enter Try.func59, Try.ntmps59
    go_wp2_with (go_at_call 60; refine (withinE _ _ _ _).mono ?_; rintro e w' ⟨rfl, rfl⟩)
    go_ret
    exact ⟨ret_bool HI.out.symm, Ext.of_alloc _ _⟩
  · rw [h1] at HI
    go_enter Try.func59, Try.ntmps59
    go_wp2_with (go_at_call 60; refine (withinE _ _ _ _).mono ?_; rintro e w' ⟨rfl, rfl⟩)
    go_ret
    exact ⟨ret_bool HI.out.symm, Ext.of_alloc _ _⟩

theorem markFn (x : Int) (w : World) : Calls Try.prog 61 #[.int .i64 x] w fun e w' => e = .returned (.bool (markOk x)) ∧ Ext w w' := by
  have HI := Lib.hid (show markOk x = wi x (-1) 50 from rfl)
  go_enter Try.func61, Try.ntmps61
  go_wp2_with (go_at_call 60; refine (withinE _ _ _ _).mono ?_; rintro e w' ⟨rfl, rfl⟩)
  go_ret
  exact ⟨ret_bool HI.out.symm, Ext.refl _⟩

theorem everyMark (A : Option Addr) (c : Nat) (l : List Int) (w : World) (h : Ints w A l) (hl : l.length ≤ 9223372036854775807) :
    Calls Try.prog 63 #[.slice A l.length c, .func (.func 61) #[] #[]] w fun e w' => e = .returned (.bool (l.all markOk)) ∧ Ext w w' := by
  refine (everyE_int A l.length c 61 #[] (fun k => .int .i64 (l.getD k 0)) (fun k => markOk (l.getD k 0)) (fun _ w' => Ext w w') none w hl (Ext.refl w) (fun _ _ _ h k => Ext.trans h k) (fun g hg => by cases hg) (fun args w' => by kernel_rfl)
    (fun k w' hk h' => ?_) (fun k w' hk _ h' => ?_)).mono ?_
  · obtain ⟨b, off, h1, h2, h3⟩ := (h.ext h') k hk
    exact ⟨b, off, h1, h3⟩
  · exact (markFn (l.getD k 0) w').mono fun e w'' ⟨he, hE⟩ => ⟨he, Ext.trans h' hE, hE.grown none⟩
  · rintro e w' ⟨m, hE, ⟨k, hk, hq, rfl⟩ | ⟨hq, rfl⟩⟩
    · exact ⟨ret_bool (all_getD_false (d := 0) hk hq).symm, hE⟩
    · exact ⟨ret_bool ((all_getD l 0 markOk).2 hq).symm, hE⟩

set_option maxHeartbeats 1000000 in
theorem judgeFn (iA mA : Option Addr) (ic n mc pb mb : Nat) (lo hi err : Int) (ma : List Int) (w : World) (_hn : n ≤ 4) (hm : Ints w mA ma) (hml : ma.length ≤ 9223372036854775807) (hc1 : w.cell? ⟨pb, 0, none⟩ = some (.slice iA n ic)) (hc2 : w.cell? ⟨mb, 0, none⟩ = some (.func (.func 61) #[] #[]))
    (h1 : pb < w.heap.size) (h2 : mb < w.heap.size) :
    Calls Try.prog 62 #[.agg #[.int .i64 lo, .int .i64 hi, .int .i64 err, .slice mA ma.length mc], .pointer (some ⟨pb, 0, none⟩), .pointer (some ⟨mb, 0, none⟩)] w fun e w' => e = .returned (.bool (judgeOk n ⟨lo, hi, err, ma⟩)) ∧ Ext w w' := by
  have HJ := Lib.hid (show judgeOk n ⟨lo, hi, err, ma⟩ = (judgeOk1 n ⟨lo, hi, err, ma⟩ && ma.all markOk) from rfl)
  cases hj1 : judgeOk1 n ⟨lo, hi, err, ma⟩
  · rw [hj1] at HJ
    rcases judgeOk1_false hj1 with q | ⟨q, q2⟩ | ⟨q, q2, q3⟩ | ⟨q, q2, q3, q4⟩ | ⟨q, q2, q3, q4, q5, q6⟩
    all_goals
      clear hj1
      try clear q5
      go_enter Try.func62, Try.ntmps62
      go_wp2_with (go_at_call 60; refine (withinE _ _ _ _).mono ?_; rintro e w' ⟨rfl, rfl⟩)
      go_ret
      exact ⟨ret_bool HJ.out.symm, Ext.of_alloc _ _⟩
  · rw [hj1] at HJ
    obtain ⟨q, q2, q3, q4, q5, q6⟩ := judgeOk1_true hj1
    clear hj1 q5
    have HM := Lib.hid hm
    have hp1 : (w.alloc (.cells #[.int .i64 lo, .int .i64 hi, .int .i64 err, .slice mA ma.length mc] 68)).cell? ⟨pb, 0, none⟩ = some (.slice iA n ic) := by rw [World.cell?_alloc_past _ _ _ h1]; exact hc1
    have hp2 : (w.alloc (.cells #[.int .i64 lo, .int .i64 hi, .int .i64 err, .slice mA ma.length mc] 68)).cell? ⟨mb, 0, none⟩ = some (.func (.func 61) #[] #[]) := by rw [World.cell?_alloc_past _ _ _ h2]; exact hc2
    clear hm hc1 hc2
    go_enter Try.func62, Try.ntmps62
    go_wp2_with (first
      | (go_at_call 60; refine (withinE _ _ _ _).mono ?_; rintro e w' ⟨rfl, rfl⟩)
      | (go_at_call 63; refine (everyMark mA mc ma _ (HM.out.ext (Ext.of_alloc _ _)) hml).mono ?_; rintro e w' ⟨rfl, hE⟩))
    go_ret
    exact ⟨ret_bool (by rw [HJ.out]; rfl), (‹Ext _ _›).unalloc⟩

/-- The number that the closure for grades keeps: the one before. -/
def lastOf (l : List Int) (k : Nat) : Int := if k = 0 then -1 else l.getD (k - 1) 0

theorem gradeOk_eq {l : List Int} {k : Nat} (h : ∀ j, j < k → gradeOk l j = true) : wi (l.getD k 0) (lastOf l k + 1) 1200 = gradeOk l k ∧ -1 ≤ lastOf l k ∧ lastOf l k ≤ 1200 := by
  unfold lastOf
  by_cases hk : k = 0
  · subst hk
    simp [gradeOk, wi]
  · have hp := h (k - 1) (by omega)
    simp only [gradeOk, Bool.and_eq_true] at hp
    have hp := wi_true hp.1
    rw [if_neg hk]
    refine ⟨?_, by omega, by omega⟩
    rw [Bool.eq_iff_iff]
    simp only [gradeOk, wi, Bool.and_eq_true, Bool.or_eq_true, decide_eq_true_eq, hk, false_or]
    omega

set_option maxHeartbeats 1000000 in
theorem gradeFn (x last : Int) (L : Nat) (w : World) (hc : w.cell? ⟨L, 0, none⟩ = some (.int .i64 last)) (hf : w.frozen? ⟨L, 0, none⟩ = false) (_hL : L < w.heap.size) (h1 : -1 ≤ last) (h2 : last ≤ 1200) :
    Calls Try.prog 64 #[.int .i64 x, .pointer (some ⟨L, 0, none⟩)] w fun e w' => e = .returned (.bool (wi x (last + 1) 1200)) ∧ w.setCell ⟨L, 0, none⟩ (.int .i64 x) = w' := by
  go_enter Try.func64, Try.ntmps64
  go_wp2_with (go_at_call 60; refine (withinE _ _ _ _).mono ?_; rintro e w' ⟨rfl, rfl⟩)
  go_ret
  exact ⟨rfl, rfl⟩

set_option maxHeartbeats 1000000 in
theorem everyGrade (A : Option Addr) (c L : Nat) (l : List Int) (W w : World) (_h : Ints w A l) (hl : l.length ≤ 9223372036854775807) (hW : Ext W w) (hWL : W.heap.size ≤ L) (hc : w.cell? ⟨L, 0, none⟩ = some (.int .i64 (-1))) (hf : w.frozen? ⟨L, 0, none⟩ = false) (hL : L < w.heap.size)
    (hIW : Ints W A l) :
    Calls Try.prog 63 #[.slice A l.length c, .func (.func 64) #[] #[.pointer (some ⟨L, 0, none⟩)]] w fun e w' => e = .returned (.bool (gradesOk l)) ∧ Ext W w' := by
  refine (everyE_int A l.length c 64 #[.pointer (some ⟨L, 0, none⟩)] (fun k => .int .i64 (l.getD k 0)) (gradeOk l) (fun k w' => Ext W w' ∧ w'.cell? ⟨L, 0, none⟩ = some (.int .i64 (lastOf l k)) ∧ w'.frozen? ⟨L, 0, none⟩ = false ∧ L < w'.heap.size) (some L) w hl ⟨hW, hc, hf, hL⟩
    (fun _ w1 w2 h k => ⟨Ext.trans h.1 k, (k.cellOf (p := ⟨L, 0, none⟩) h.2.2.2).trans h.2.1, (Below.frozen k (p := ⟨L, 0, none⟩) h.2.2.2).trans h.2.2.1, Nat.lt_of_lt_of_le h.2.2.2 k.size⟩) (fun g hg => by cases hg; exact hL) (fun args w' => by kernel_rfl)
    (fun k w' hk h' => ?_) (fun k w' hk hpj h' => ?_)).mono ?_
  · obtain ⟨b, off, h1, h2, h3⟩ := (hIW.ext h'.1) k hk
    exact ⟨b, off, h1, h3⟩
  · obtain ⟨hg1, hg2, hg3⟩ := gradeOk_eq hpj
    refine (gradeFn (l.getD k 0) (lastOf l k) L w' h'.2.1 h'.2.2.1 h'.2.2.2 hg2 hg3).mono fun e w'' ⟨he, hw⟩ => ?_
    subst hw
    refine ⟨by rw [he, hg1], ⟨Below.setCell h'.1 hWL _, ?_, ?_, by simpa using h'.2.2.2⟩, ?_⟩
    · rw [show lastOf l (k + 1) = l.getD k 0 by simp [lastOf]]
      exact World.cell?_setCell_same _ _ _ h'.2.1
    · simpa using h'.2.2.1
    · exact ⟨rfl, rfl, rfl, by simp, fun i hi hne => Below.heap_setCell _ _ _ _ (fun e => hne (by rw [e]))⟩
  · rintro e w' ⟨m, hE, ⟨k, hk, hq, rfl⟩ | ⟨hq, rfl⟩⟩
    · refine ⟨ret_bool ?_, hE.1⟩
      cases hg : gradesOk l
      · rfl
      · rw [(gradesOk_iff l).1 hg k hk] at hq; cases hq
    · exact ⟨ret_bool ((gradesOk_iff l).2 hq).symm, hE.1⟩
end Go.Proofs.Ytkejebdfbkgaiaa

namespace Go.Proofs.Ytkejebdfbkgaiaa
open Go.RowKit

/-- What Check returns, in the program's order. -/
theorem checkE_order {p : Paper} (h : (wi p.items.length 1 4 = false ∨ p.items.all itemOk = false ∨ 4 < p.judges.length ∨ p.judges.all (judgeOk p.items.length) = false ∨ wi p.wrong 0 2 = false ∨ 5 < p.grades.length ∨ gradesOk p.grades = false)) : checkE p = 90 := by
  unfold checkE validB headOk
  rcases h with h | h | h | h | h | h | h
  · simp [h]
  · simp [h]
  · simp [show ¬ p.judges.length ≤ 4 by omega]
  · simp [h]
  · simp [h]
  · simp [show ¬ p.grades.length ≤ 5 by omega]
  · simp [h]
theorem checkE_all {p : Paper} (h1 : wi p.items.length 1 4 = true) (h2 : p.items.all itemOk = true) (h3 : p.judges.length ≤ 4) (h4 : p.judges.all (judgeOk p.items.length) = true) (h5 : wi p.wrong 0 2 = true) (h6 : p.grades.length ≤ 5) (h7 : gradesOk p.grades = true) : checkE p = 0 := by
  unfold checkE validB headOk
  simp only [h1, h2, h4, h5, h7, Bool.and_true, Bool.true_and]
  simp [h3, h6]

theorem everyItem (A : Option Addr) (c : Nat) (l : List Item) (w : World) (h : ItemsAt w A l) (hl : l.length ≤ 9223372036854775807) :
    Calls Try.prog 65 #[.slice A l.length c, .func (.func 59) #[] #[]] w fun e w' => e = .returned (.bool (l.all itemOk)) ∧ Ext w w' := by
  refine (every_item A l.length c 59 #[] (fun k => .int .i64 (l.getD k default).weight) (fun k => .int .i64 (l.getD k default).most) (fun k => itemOk (l.getD k default)) (fun _ w' => Ext w w') none w hl (Ext.refl w) (fun _ _ _ h k => Ext.trans h k) (fun g hg => by cases hg) (fun args w' => by kernel_rfl)
    (fun k w' hk h' => ?_) (fun k w' hk _ h' => ?_)).mono ?_
  · obtain ⟨b, off, h1, h2, h3, h4⟩ := (h.ext h') k hk
    exact ⟨b, off, h1, h3, h4⟩
  · exact (itemFn (l.getD k default).weight (l.getD k default).most w').mono fun e w'' ⟨he, hE⟩ => ⟨he, Ext.trans h' hE, hE.grown none⟩
  · rintro e w' ⟨m, hE, ⟨k, hk, hq, rfl⟩ | ⟨hq, rfl⟩⟩
    · exact ⟨ret_bool (all_getD_false (d := default) hk hq).symm, hE⟩
    · exact ⟨ret_bool ((all_getD l default itemOk).2 hq).symm, hE⟩

theorem everyJudge (iA A : Option Addr) (ic n c pb mb : Nat) (l : List Judge) (w : World) (h : JudgesAt w A l) (hl : l.length ≤ 9223372036854775807) (hn : n ≤ 4) (hc1 : w.cell? ⟨pb, 0, none⟩ = some (.slice iA n ic)) (hc2 : w.cell? ⟨mb, 0, none⟩ = some (.func (.func 61) #[] #[]))
    (h1 : pb < w.heap.size) (h2 : mb < w.heap.size) :
    Calls Try.prog 66 #[.slice A l.length c, .func (.func 62) #[] #[.pointer (some ⟨pb, 0, none⟩), .pointer (some ⟨mb, 0, none⟩)]] w fun e w' => e = .returned (.bool (l.all (judgeOk n))) ∧ Ext w w' := by
  have hch : ∀ k, ∃ mA mc, ∀ w', k < l.length → Ext w w' → ∃ b off, A = some ⟨b, off, none⟩ ∧ w'.cell? ⟨b, off + k * 4, none⟩ = some (.int .i64 (l.getD k default).lo) ∧ w'.cell? ⟨b, off + k * 4 + 1, none⟩ = some (.int .i64 (l.getD k default).hi) ∧
      w'.cell? ⟨b, off + k * 4 + 2, none⟩ = some (.int .i64 (l.getD k default).err) ∧ w'.cell? ⟨b, off + k * 4 + 3, none⟩ = some (.slice mA (l.getD k default).marks.length mc) ∧ Ints w' mA (l.getD k default).marks ∧ (l.getD k default).marks.length ≤ 9223372036854775807 := by
    intro k
    by_cases hk : k < l.length
    · obtain ⟨b, off, hA, hb, q1, q2, q3, mA, mc, q4, q5, q6⟩ := h k hk
      refine ⟨mA, mc, fun w' _ hE => ⟨b, off, hA, ?_, ?_, ?_, ?_, q5.ext hE, q6⟩⟩
      · exact (hE.cellOf (p := ⟨b, _, none⟩) hb).trans q1
      · exact (hE.cellOf (p := ⟨b, _, none⟩) hb).trans q2
      · exact (hE.cellOf (p := ⟨b, _, none⟩) hb).trans q3
      · exact (hE.cellOf (p := ⟨b, _, none⟩) hb).trans q4
    · exact ⟨none, 0, fun w' h => absurd h hk⟩
  have hch2 : ∃ (mA : Nat → Option Addr) (mc : Nat → Nat), ∀ k w', k < l.length → Ext w w' → ∃ b off, A = some ⟨b, off, none⟩ ∧ w'.cell? ⟨b, off + k * 4, none⟩ = some (.int .i64 (l.getD k default).lo) ∧ w'.cell? ⟨b, off + k * 4 + 1, none⟩ = some (.int .i64 (l.getD k default).hi) ∧
      w'.cell? ⟨b, off + k * 4 + 2, none⟩ = some (.int .i64 (l.getD k default).err) ∧ w'.cell? ⟨b, off + k * 4 + 3, none⟩ = some (.slice (mA k) (l.getD k default).marks.length (mc k)) ∧ Ints w' (mA k) (l.getD k default).marks ∧ (l.getD k default).marks.length ≤ 9223372036854775807 :=
    ⟨fun k => (hch k).choose, fun k => (hch k).choose_spec.choose, fun k w' hk hE => (hch k).choose_spec.choose_spec w' hk hE⟩
  obtain ⟨mA, mc, hj⟩ := hch2
  refine (every_judge A l.length c 62 #[.pointer (some ⟨pb, 0, none⟩), .pointer (some ⟨mb, 0, none⟩)] (fun k => .int .i64 (l.getD k default).lo) (fun k => .int .i64 (l.getD k default).hi) (fun k => .int .i64 (l.getD k default).err) (fun k => .slice (mA k) (l.getD k default).marks.length (mc k)) (fun k => judgeOk n (l.getD k default)) (fun _ w' => Ext w w') none w hl (Ext.refl w) (fun _ _ _ h k => Ext.trans h k) (fun g hg => by cases hg) (fun args w' => by kernel_rfl)
    (fun k w' hk h' => ?_) (fun k w' hk _ h' => ?_)).mono ?_
  · obtain ⟨b, off, q1, q2, q3, q4, q5, _⟩ := hj k w' hk h'
    exact ⟨b, off, q1, q2, q3, q4, q5⟩
  · obtain ⟨b, off, q1, q2, q3, q4, q5, q6, q7⟩ := hj k w' hk h'
    exact (judgeFn iA (mA k) ic n (mc k) pb mb _ _ _ _ w' hn q6 q7 ((h'.cellOf (p := ⟨pb, 0, none⟩) h1).trans hc1) ((h'.cellOf (p := ⟨mb, 0, none⟩) h2).trans hc2) (Nat.lt_of_lt_of_le h1 h'.size) (Nat.lt_of_lt_of_le h2 h'.size)).mono fun e w'' ⟨he, hE⟩ => ⟨he, Ext.trans h' hE, hE.grown none⟩
  · rintro e w' ⟨m, hE, ⟨k, hk, hq, rfl⟩ | ⟨hq, rfl⟩⟩
    · exact ⟨ret_bool (all_getD_false (d := default) hk hq).symm, hE⟩
    · exact ⟨ret_bool ((all_getD l default (judgeOk n)).2 hq).symm, hE⟩

theorem boxes3 {w W : World} {cs : Array Value} {x y : Value} {T1 T2 T3 : TypeId} (h : Ext (((w.alloc (.cells cs T1)).alloc (.cells #[x] T2)).alloc (.cells #[y] T3)) W) :
    (∀ i, W.cell? ⟨w.heap.size, i, none⟩ = cs[i]?) ∧ W.cell? ⟨w.heap.size + 1, 0, none⟩ = some x ∧ W.cell? ⟨w.heap.size + 2, 0, none⟩ = some y ∧ W.frozen? ⟨w.heap.size + 2, 0, none⟩ = false ∧ w.heap.size + 2 < W.heap.size := by
  refine ⟨fun i => h.unalloc.unalloc.box i, ?_, ?_, ?_, ?_⟩
  · have := h.unalloc.box 0; simpa using this
  · have := h.box 0; simpa using this
  · have := h.boxFree 0; simpa using this
  · have := h.lt; simpa using this

set_option maxHeartbeats 4000000 in
theorem checkP_any (iA jA gA : Option Addr) (ic jc gc : Nat) (p : Paper) (w : World) (h : PaperAt w iA jA gA p) :
    Calls Try.prog 43 #[.agg #[.slice iA p.items.length ic, .slice jA p.judges.length jc, .int .i64 p.wrong, .slice gA p.grades.length gc]] w fun e w' => e = .returned (.int .i64 (checkE p)) ∧ Ext w w' := by
  have hEx : Ext w (((w.alloc (.cells #[.slice iA p.items.length ic, .slice jA p.judges.length jc, .int .i64 p.wrong, .slice gA p.grades.length gc] 43)).alloc (.cells #[.func (.func 61) #[] #[]] 111)).alloc (.cells #[.int .i64 (-1)] 3)) := ((Ext.of_alloc _ _).alloc _).alloc _
  have HEx := Lib.hid hEx
  have HBX := Lib.hid (fun W (hW : Ext (((w.alloc (.cells #[.slice iA p.items.length ic, .slice jA p.judges.length jc, .int .i64 p.wrong, .slice gA p.grades.length gc] 43)).alloc (.cells #[.func (.func 61) #[] #[]] 111)).alloc (.cells #[.int .i64 (-1)] 3)) W) => boxes3 hW)
  have HO := Lib.hid (checkE_order (p := p))
  have HA := Lib.hid (checkE_all (p := p))
  have hil := h.il
  have hjl := h.jl
  have hgl := h.gl
  have C1 := everyItem iA ic p.items (((w.alloc (.cells #[.slice iA p.items.length ic, .slice jA p.judges.length jc, .int .i64 p.wrong, .slice gA p.grades.length gc] 43)).alloc (.cells #[.func (.func 61) #[] #[]] 111)).alloc (.cells #[.int .i64 (-1)] 3)) (h.items.ext hEx) h.il
  have C2 : p.items.length ≤ 4 → ∀ W, Ext (((w.alloc (.cells #[.slice iA p.items.length ic, .slice jA p.judges.length jc, .int .i64 p.wrong, .slice gA p.grades.length gc] 43)).alloc (.cells #[.func (.func 61) #[] #[]] 111)).alloc (.cells #[.int .i64 (-1)] 3)) W → Calls Try.prog 66 #[.slice jA p.judges.length jc, .func (.func 62) #[] #[.pointer (some ⟨w.heap.size, 0, none⟩), .pointer (some ⟨w.heap.size + 1, 0, none⟩)]] W fun e w' => e = .returned (.bool (p.judges.all (judgeOk p.items.length))) ∧ Ext W w' :=
    fun hn W hW => by
      obtain ⟨q1, q2, q3, q4, q5⟩ := boxes3 hW
      exact everyJudge iA jA ic p.items.length jc w.heap.size (w.heap.size + 1) p.judges W (h.judges.ext (hEx.trans hW)) h.jl hn (q1 0) q2 (by omega) (by omega)
  have C3 : ∀ W, Ext (((w.alloc (.cells #[.slice iA p.items.length ic, .slice jA p.judges.length jc, .int .i64 p.wrong, .slice gA p.grades.length gc] 43)).alloc (.cells #[.func (.func 61) #[] #[]] 111)).alloc (.cells #[.int .i64 (-1)] 3)) W → Calls Try.prog 63 #[.slice gA p.grades.length gc, .func (.func 64) #[] #[.pointer (some ⟨w.heap.size + 2, 0, none⟩)]] W fun e w' => e = .returned (.bool (gradesOk p.grades)) ∧ Ext w w' :=
    fun W hW => by
      obtain ⟨q1, q2, q3, q4, q5⟩ := boxes3 hW
      exact everyGrade gA gc (w.heap.size + 2) p.grades w W (h.grades.ext (hEx.trans hW)) h.gl (hEx.trans hW) (by omega) q3 q4 q5 h.grades
  generalize checkE p = ce at *
  clear h hEx
  cases h1 : wi p.items.length 1 4
  · rw [h1] at HO
    have H1 := Lib.hid C1
    clear C1 C2 C3
    go_enter Try.func43, Try.ntmps43
    go_wp2_with (first
      | (go_at_call 60; refine (withinE _ _ _ _).mono ?_; rintro e w' ⟨rfl, rfl⟩)
      | (go_at_call 65; refine H1.out.mono ?_; rintro e w4 ⟨rfl, hE4⟩; obtain ⟨hb1, hb2, hb3, hb4, hb5⟩ := HBX.out w4 hE4)
      | (go_at_call 66; refine (H1.out).mono ?_; rintro e w5 ⟨rfl, hE5⟩; obtain ⟨hc1, hc2, hc3, hc4, hc5⟩ := HBX.out w5 (Ext.trans hE4 hE5))
      | (go_at_call 63; refine (H1.out).mono ?_; rintro e w6 ⟨rfl, hE6⟩))
    go_ret
    exact ⟨ret_int (HO.out (.inl (by trivial))).symm, HEx.out⟩
  · have hi4 : p.items.length ≤ 4 := by have := wi_true h1; omega
    have C2 := C2 hi4
    cases h2 : p.items.all itemOk
    · rw [h2] at C1 HO
      have H1 := Lib.hid C1
      have H2 := Lib.hid C2
      have H3 := Lib.hid C3
      clear C1 C2 C3 h2
      go_enter Try.func43, Try.ntmps43
      go_wp2_with (first
        | (go_at_call 60; refine (withinE _ _ _ _).mono ?_; rintro e w' ⟨rfl, rfl⟩)
        | (go_at_call 65; refine H1.out.mono ?_; rintro e w4 ⟨rfl, hE4⟩; obtain ⟨hb1, hb2, hb3, hb4, hb5⟩ := HBX.out w4 hE4)
        | (go_at_call 66; refine (H2.out _ hE4).mono ?_; rintro e w5 ⟨rfl, hE5⟩; obtain ⟨hc1, hc2, hc3, hc4, hc5⟩ := HBX.out w5 (Ext.trans hE4 hE5))
        | (go_at_call 63; refine (H3.out _ (Ext.trans hE4 hE5)).mono ?_; rintro e w6 ⟨rfl, hE6⟩))
      go_ret
      exact ⟨ret_int (HO.out (.inr (.inl (by trivial)))).symm, HEx.out.trans hE4⟩
    · rw [h2] at C1 HA
      have H1 := Lib.hid C1
      clear C1 h2
      by_cases h3 : p.judges.length ≤ 4
      · have h3' : (p.judges.length : Int) ≤ 4 := by omega
        cases h4 : p.judges.all (judgeOk p.items.length)
        · rw [h4] at C2 HO
          have H2 := Lib.hid C2
          have H3 := Lib.hid C3
          clear C2 C3 h4
          go_enter Try.func43, Try.ntmps43
          go_wp2_with (first
            | (go_at_call 60; refine (withinE _ _ _ _).mono ?_; rintro e w' ⟨rfl, rfl⟩)
            | (go_at_call 65; refine H1.out.mono ?_; rintro e w4 ⟨rfl, hE4⟩; obtain ⟨hb1, hb2, hb3, hb4, hb5⟩ := HBX.out w4 hE4)
            | (go_at_call 66; refine (H2.out _ hE4).mono ?_; rintro e w5 ⟨rfl, hE5⟩; obtain ⟨hc1, hc2, hc3, hc4, hc5⟩ := HBX.out w5 (Ext.trans hE4 hE5))
            | (go_at_call 63; refine (H3.out _ (Ext.trans hE4 hE5)).mono ?_; rintro e w6 ⟨rfl, hE6⟩))
          go_ret
          exact ⟨ret_int (HO.out (.inr (.inr (.inr (.inl (by trivial)))))).symm, (HEx.out.trans hE4).trans hE5⟩
        · rw [h4] at C2 HA
          have H2 := Lib.hid C2
          clear C2 h4
          cases h5 : wi p.wrong 0 2
          · rw [h5] at HO
            have H3 := Lib.hid C3
            clear C3
            go_enter Try.func43, Try.ntmps43
            go_wp2_with (first
              | (go_at_call 60; refine (withinE _ _ _ _).mono ?_; rintro e w' ⟨rfl, rfl⟩)
              | (go_at_call 65; refine H1.out.mono ?_; rintro e w4 ⟨rfl, hE4⟩; obtain ⟨hb1, hb2, hb3, hb4, hb5⟩ := HBX.out w4 hE4)
              | (go_at_call 66; refine (H2.out _ hE4).mono ?_; rintro e w5 ⟨rfl, hE5⟩; obtain ⟨hc1, hc2, hc3, hc4, hc5⟩ := HBX.out w5 (Ext.trans hE4 hE5))
              | (go_at_call 63; refine (H3.out _ (Ext.trans hE4 hE5)).mono ?_; rintro e w6 ⟨rfl, hE6⟩))
            go_ret
            exact ⟨ret_int (HO.out (.inr (.inr (.inr (.inr (.inl (by trivial))))))).symm, (HEx.out.trans hE4).trans hE5⟩
          · by_cases h6 : p.grades.length ≤ 5
            · have h6' : (p.grades.length : Int) ≤ 5 := by omega
              cases h7 : gradesOk p.grades
              · rw [h7] at HO C3
                have H3 := Lib.hid C3
                clear C3 h7
                go_enter Try.func43, Try.ntmps43
                go_wp2_with (first
                  | (go_at_call 60; refine (withinE _ _ _ _).mono ?_; rintro e w' ⟨rfl, rfl⟩)
                  | (go_at_call 65; refine H1.out.mono ?_; rintro e w4 ⟨rfl, hE4⟩; obtain ⟨hb1, hb2, hb3, hb4, hb5⟩ := HBX.out w4 hE4)
                  | (go_at_call 66; refine (H2.out _ hE4).mono ?_; rintro e w5 ⟨rfl, hE5⟩; obtain ⟨hc1, hc2, hc3, hc4, hc5⟩ := HBX.out w5 (Ext.trans hE4 hE5))
                  | (go_at_call 63; refine (H3.out _ (Ext.trans hE4 hE5)).mono ?_; rintro e w6 ⟨rfl, hE6⟩))
                go_ret
                exact ⟨ret_int (HO.out (.inr (.inr (.inr (.inr (.inr (.inr (by trivial)))))))).symm, hE6⟩
              · rw [h7] at HA C3
                have H3 := Lib.hid C3
                clear C3 h7
                go_enter Try.func43, Try.ntmps43
                go_wp2_with (first
                  | (go_at_call 60; refine (withinE _ _ _ _).mono ?_; rintro e w' ⟨rfl, rfl⟩)
                  | (go_at_call 65; refine H1.out.mono ?_; rintro e w4 ⟨rfl, hE4⟩; obtain ⟨hb1, hb2, hb3, hb4, hb5⟩ := HBX.out w4 hE4)
                  | (go_at_call 66; refine (H2.out _ hE4).mono ?_; rintro e w5 ⟨rfl, hE5⟩; obtain ⟨hc1, hc2, hc3, hc4, hc5⟩ := HBX.out w5 (Ext.trans hE4 hE5))
                  | (go_at_call 63; refine (H3.out _ (Ext.trans hE4 hE5)).mono ?_; rintro e w6 ⟨rfl, hE6⟩))
                go_ret
                exact ⟨ret_int (HA.out h1 (by trivial) h3 (by trivial) h5 h6 (by trivial)).symm, hE6⟩
            · have h6' : (5 : Int) < (p.grades.length : Int) := by omega
              have H3 := Lib.hid C3
              clear C3
              go_enter Try.func43, Try.ntmps43
              go_wp2_with (first
                | (go_at_call 60; refine (withinE _ _ _ _).mono ?_; rintro e w' ⟨rfl, rfl⟩)
                | (go_at_call 65; refine H1.out.mono ?_; rintro e w4 ⟨rfl, hE4⟩; obtain ⟨hb1, hb2, hb3, hb4, hb5⟩ := HBX.out w4 hE4)
                | (go_at_call 66; refine (H2.out _ hE4).mono ?_; rintro e w5 ⟨rfl, hE5⟩; obtain ⟨hc1, hc2, hc3, hc4, hc5⟩ := HBX.out w5 (Ext.trans hE4 hE5))
                | (go_at_call 63; refine (H3.out _ (Ext.trans hE4 hE5)).mono ?_; rintro e w6 ⟨rfl, hE6⟩))
              go_ret
              exact ⟨ret_int (HO.out (.inr (.inr (.inr (.inr (.inr (.inl (by omega)))))))).symm, (HEx.out.trans hE4).trans hE5⟩
      · have h3' : (4 : Int) < (p.judges.length : Int) := by omega
        have H2 := Lib.hid C2
        have H3 := Lib.hid C3
        clear C2 C3
        go_enter Try.func43, Try.ntmps43
        go_wp2_with (first
          | (go_at_call 60; refine (withinE _ _ _ _).mono ?_; rintro e w' ⟨rfl, rfl⟩)
          | (go_at_call 65; refine H1.out.mono ?_; rintro e w4 ⟨rfl, hE4⟩; obtain ⟨hb1, hb2, hb3, hb4, hb5⟩ := HBX.out w4 hE4)
          | (go_at_call 66; refine (H2.out _ hE4).mono ?_; rintro e w5 ⟨rfl, hE5⟩; obtain ⟨hc1, hc2, hc3, hc4, hc5⟩ := HBX.out w5 (Ext.trans hE4 hE5))
          | (go_at_call 63; refine (H3.out _ (Ext.trans hE4 hE5)).mono ?_; rintro e w6 ⟨rfl, hE6⟩))
        go_ret
        exact ⟨ret_int (HO.out (.inr (.inr (.inl (by omega))))).symm, HEx.out.trans hE4⟩
end Go.Proofs.Ytkejebdfbkgaiaa

namespace Go.Proofs.Ytkejebdfbkgaiaa
open Go.RowKit

/-- A region that draws: what reads, then a tail in a forced order. -/
theorem wp_region_tail {P : Program} {id : Nat} {Q : Exit → Act → World → Prop} {a : Act} {w : World} {l : List Oper} (n : Nat) (hm : P.follows .mixedOrders = true) (hB : Region.lexTailB .any l.toArray n = true)
    (h : wpStill P l.toArray w.drew (fun a' => wpList P l.toArray Q (l.drop n) a' w.drew) (l.take n) a) : (Code.region id l.toArray true).wp P Q a w :=
  wp_region_still_tail n hm hB h

theorem wpStill_want {P : Program} {ops : Array Oper} {w : World} {Q : Act → Prop} {a : Act} {o : Oper} {rest : List Oper} (hw : Region.wanted o (yielded ops a.tmps) = true) (h : ∀ K : Act → Prop, (∀ a, wpStill P ops w Q rest a → K a) → o.still P a w K) : wpStill P ops w Q (o :: rest) a :=
  wpStill_step fun K hK => by rw [if_pos hw]; exact h K hK
theorem wpStill_skip {P : Program} {ops : Array Oper} {w : World} {Q : Act → Prop} {a : Act} {o : Oper} {rest : List Oper} (hw : Region.wanted o (yielded ops a.tmps) = false) (h : wpStill P ops w Q rest (a.put o.dst undef)) : wpStill P ops w Q (o :: rest) a :=
  wpStill_step fun K hK => by rw [if_neg (by rw [hw]; exact Bool.false_ne_true)]; exact hK _ h

theorem none_any (w : World) : Calls Try.prog 44 #[] w fun e w' => e = .returned (.agg #[.int .i64 1073741824, .int .i64 (-1073741824)]) ∧ w.alloc (.cells #[.int .i64 1073741824, .int .i64 (-1073741824)] 48) = w' := by
  go_enter Try.func44, Try.ntmps44
  go_wp2
  refine bodyPost_ret (v := .agg #[.int .i64 1073741824, .int .i64 (-1073741824)]) (by simp [results, Try.results44, go_sem]) rfl ⟨rfl, rfl⟩

set_option maxHeartbeats 1000000 in
theorem add_any (b o : Nat) (T : TypeId) (cs : Array Value) (lo hi x y : Int) (w : World) (hb : Blk w b T cs) (h1 : cs[o]? = some (.int .i64 lo)) (h2 : cs[o + 1]? = some (.int .i64 hi)) :
    Calls Try.prog 83 #[.pointer (some ⟨b, o, none⟩), .agg #[.int .i64 x, .int .i64 y]] w fun e w' => e = .returned (.tuple #[]) ∧
      Blk w' b T ((cs.setIfInBounds o (.int .i64 (min lo x))).setIfInBounds (o + 1) (.int .i64 (max hi y))) ∧ w.grownBy w' (some b) := by
  have hlt := hb.lt
  have hE := Ext.of_alloc w (.cells #[.int .i64 x, .int .i64 y] 48)
  have hB1 := hb.ext hE
  have hfin : ∀ w1 u v, u = min lo x → v = max hi y → Blk w1 b T cs → w.grownBy w1 (some b) → Blk (((w1.setCell ⟨b, o, none⟩ (.int .i64 u)).setCell ⟨b, o + 1, none⟩ (.int .i64 v)).drew) b T ((cs.setIfInBounds o (.int .i64 (min lo x))).setIfInBounds (o + 1) (.int .i64 (max hi y))) ∧ w.grownBy (((w1.setCell ⟨b, o, none⟩ (.int .i64 u)).setCell ⟨b, o + 1, none⟩ (.int .i64 v)).drew) (some b) := by
    intro w1 u v hu hv h g
    subst hu; subst hv
    exact ⟨(h.set o _).set (o + 1) _, grown_trans (grown_trans (grown_trans g (grown_setCell w1 ⟨b, o, none⟩ _)) (grown_setCell _ ⟨b, o + 1, none⟩ _)) (grown_drew _ _)⟩
  have HF := Lib.hid hfin
  have HE := Lib.hid hE
  clear hfin
  go_enter Try.func83, Try.ntmps83
  go_wp2
  generalize hw1 : w.alloc (.cells #[.int .i64 x, .int .i64 y] 48) = w1 at *
  have g1 : w1.cell? ⟨b, o, none⟩ = some (.int .i64 lo) := (hB1.cell o).trans h1
  have g2 : w1.cell? ⟨b, o + 1, none⟩ = some (.int .i64 hi) := (hB1.cell (o + 1)).trans h2
  have g3 : w1.cell? ⟨w.heap.size, 0, none⟩ = some (.int .i64 x) := by rw [← hw1, World.cell?_alloc_at _ _ _ _ rfl]; rfl
  have g4 : w1.cell? ⟨w.heap.size, 1, none⟩ = some (.int .i64 y) := by rw [← hw1, World.cell?_alloc_at _ _ _ _ rfl]; rfl
  have g5 := hB1.free o
  have g6 := hB1.free (o + 1)
  have hne : ¬ w.heap.size = b := by omega
  have hne' : ¬ b = w.heap.size := by omega
  have HW := Lib.hid hw1
  have HB := Lib.hid hB1
  clear h1 h2 hw1 hB1 hE hb
  go_region
  all_goals
    go_wp2
  all_goals
    go_end0
    exact ⟨rfl, HF.out _ _ _ (by omega) (by omega) HB.out (HE.out.grown _)⟩

end Go.Proofs.Ytkejebdfbkgaiaa

namespace Go.Proofs.Ytkejebdfbkgaiaa
open Go.RowKit

def spanCells (l : List (Int × Int)) : List Value := l.flatMap fun s => [.int .i64 s.1, .int .i64 s.2]
theorem spanCells_length (l : List (Int × Int)) : (spanCells l).length = l.length * 2 := by
  induction l with
  | nil => rfl
  | cons a l ih => simp [spanCells] at ih ⊢; omega
theorem spanCells_get (l : List (Int × Int)) (k : Nat) : (spanCells l)[k * 2]? = (l[k]?).map (fun s => Value.int .i64 s.1) ∧ (spanCells l)[k * 2 + 1]? = (l[k]?).map (fun s => Value.int .i64 s.2) := by
  induction l generalizing k with
  | nil => simp [spanCells]
  | cons a l ih =>
    cases k with
    | zero => simp [spanCells]
    | succ k =>
      have := ih k
      simp only [spanCells, List.flatMap_cons] at this ⊢
      rw [show (k + 1) * 2 = k * 2 + 2 by omega, show k * 2 + 2 + 1 = k * 2 + 1 + 2 by omega]
      simpa using this
theorem spanCells_one (l : List (Int × Int)) : ∀ u ∈ spanCells l, u.oneCell' = true := by
  intro u hu
  simp [spanCells] at hu
  obtain ⟨a, b, _, rfl | rfl⟩ := hu <;> rfl
theorem spanCells_snoc (l : List (Int × Int)) (s : Int × Int) : spanCells (l ++ [s]) = spanCells l ++ [.int .i64 s.1, .int .i64 s.2] := by
  simp [spanCells]

/-- A slice of spans. -/
def Spans (w : World) (A : Option Addr) (l : List (Int × Int)) : Prop :=
  ∀ k, k < l.length → ∃ b off, A = some ⟨b, off, none⟩ ∧ b < w.heap.size ∧ w.cell? ⟨b, off + k * 2, none⟩ = some (.int .i64 (l.getD k (0, 0)).1) ∧ w.cell? ⟨b, off + k * 2 + 1, none⟩ = some (.int .i64 (l.getD k (0, 0)).2)
theorem Spans.ext {w w' : World} {A : Option Addr} {l : List (Int × Int)} (h : Spans w A l) (e : Ext w w') : Spans w' A l := fun k hk => by
  obtain ⟨b, off, hA, hb, h1, h2⟩ := h k hk
  exact ⟨b, off, hA, Nat.lt_of_lt_of_le hb e.size, (e.cellOf (p := ⟨b, _, none⟩) hb).trans h1, (e.cellOf (p := ⟨b, _, none⟩) hb).trans h2⟩
theorem Spans.get {w : World} {A : Option Addr} {l : List (Int × Int)} (h : Spans w A l) {k : Nat} (hk : k < l.length) :
    ∃ b off x y, A = some ⟨b, off, none⟩ ∧ b < w.heap.size ∧ w.cell? ⟨b, off + k * 2, none⟩ = some (.int .i64 x) ∧ w.cell? ⟨b, off + k * 2 + 1, none⟩ = some (.int .i64 y) ∧ Hid (l.getD k (0, 0) = (x, y)) := by
  obtain ⟨b, off, h1, h2, h3, h4⟩ := h k hk
  exact ⟨b, off, _, _, h1, h2, h3, h4, rfl⟩
theorem Spans.of_own {w : World} {base n c : Nat} {e : TypeId} {A : Option Addr} {l : List (Int × Int)} (h : w.ownsRow base e 2 (.slice A n c) n (spanCells l)) : n = l.length ∧ Spans w A l := by
  have hl : n = l.length := by have := h.1; rw [spanCells_length] at this; omega
  refine ⟨hl, fun k hk => ?_⟩
  obtain ⟨b, off, hA, hb, hc⟩ := (Sl.of_own h).2 (by omega)
  have hg := spanCells_get l k
  rw [List.getElem?_eq_getElem hk] at hg
  refine ⟨b, off, hA, hb, ?_, ?_⟩
  · have := hc _ _ hg.1
    rw [this]; simp [List.getD, hk]
  · have := hc _ _ hg.2
    rw [show off + k * 2 + 1 = off + (k * 2 + 1) by omega, this]; simp [List.getD, hk]
/-- The cells of spans, as the laws on append ask them. -/
theorem Spans.cells {w : World} {ad : Addr} {l : List (Int × Int)} (h : Spans w (some ad) l) : ∀ j u, (spanCells l)[j]? = some u → w.cell? (ad.add j) = some u := by
  intro j u hu
  have hj : j < l.length * 2 := by
    rw [← spanCells_length]
    rcases Nat.lt_or_ge j (spanCells l).length with h | h
    · exact h
    · rw [List.getElem?_eq_none h] at hu; cases hu
  obtain ⟨b, off, hA, hb, h1, h2⟩ := h (j / 2) (by omega)
  injection hA with hA
  subst hA
  have hg := spanCells_get l (j / 2)
  have hlt : j / 2 < l.length := by omega
  rw [List.getElem?_eq_getElem hlt] at hg
  have hadd : (⟨b, off, none⟩ : Addr).add j = ⟨b, off + j, none⟩ := by
    unfold Addr.add
    by_cases h0 : j = 0 <;> simp [h0]
  rw [hadd]
  by_cases hp : j % 2 = 0
  · have e : j / 2 * 2 = j := by omega
    rw [e] at hg h1
    rw [hg.1] at hu
    rw [h1]; simpa [List.getD, hlt] using hu
  · have e : j / 2 * 2 + 1 = j := by omega
    rw [e] at hg
    rw [show off + j / 2 * 2 + 1 = off + j by omega] at h2
    rw [hg.2] at hu
    rw [h2]; simpa [List.getD, hlt] using hu

theorem span_info : (Try.prog.info? 48).map (fun i => (i.zero, i.size, i.bytes)) = some (some (.agg #[.int .i64 0, .int .i64 0]), 2, 16) := by kernel_rfl

theorem own_empty (w : World) (base : Nat) (e : TypeId) (size : Nat) (hb : base ≤ w.heap.size) : (w.alloc (.cells #[] e)).ownsRow base e size (.slice (some ⟨w.heap.size, 0, none⟩) 0 0) 0 [] :=
  ⟨by simp, .inr ⟨w.heap.size, 0, #[], rfl, hb, heap_alloc_new w _, Nat.le_refl _, by simp [maxLen], by simp, by simp⟩⟩

set_option maxHeartbeats 1000000 in
theorem cloneSpans (A : Option Addr) (c : Nat) (l : List (Int × Int)) (w : World) (h : Spans w A l) (hl : l.length ≤ 65536) (hnil : A = none → l = []) :
    Calls Try.prog 68 #[.slice A l.length c] w fun e w' => ∃ v, e = .returned v ∧ w'.ownsRow w.heap.size 48 2 v l.length (spanCells l) ∧ Ext w w' := by
  obtain ⟨i0, hi0, hz0, hz1, hz2⟩ := info_parts span_info
  have heq := fun w' : World => Lib.run_eql_slice_nil (P := Try.prog) w' 107 48 A l.length c 0 0 Try.underlying107
  rcases A with _ | ad
  · have hl0 := hnil rfl
    subst hl0
    clear hnil h heq hz0 hi0 hz1 hz2
    have heq := fun w' : World => Lib.run_eql_slice_nil (P := Try.prog) w' 107 48 none 0 c 0 0 Try.underlying107
    simp only [Option.isNone_none] at heq
    go_enter Try.func68, Try.ntmps68
    go_wp2
    go_ret
    exact ⟨_, rfl, World.ownsRow_nil _ _ _ _, Ext.refl _⟩
  · have hc := (h.ext (Ext.of_alloc w (.cells #[] 48))).cells
    have HO := Lib.hid (spanCells_one l)
    have HL := Lib.hid (spanCells_length l)
    have HC := Lib.hid hc
    have HE := Lib.hid (Ext.of_alloc w (.cells #[] 48))
    have HW := Lib.hid (own_empty w w.heap.size 48 2 (Nat.le_refl _))
    clear hc hnil h
    generalize spanCells l = cs at *
    go_enter Try.func68, Try.ntmps68
    go_wp2_with (at_builtin; refine wpList_append_own _ rfl _ _ 107 rfl w.heap.size 48 i0 _ 2 16 Try.underlying107 hi0 hz0 hz1 hz2 rfl (by decide) _ _ _ rfl HW.out ad l.length c cs rfl HL.out HC.out HO.out (by simp [maxLen]; omega) (by omega) (by simp) ?_; intro v' w1 hown hgrow _)
    go_ret
    refine ⟨_, rfl, by simpa using hown, ?_⟩
    have hg : Below w.heap.size w w1 := Below.grown (HE.out) hgrow (by simp) (fun k hk => by injection hk with hk; exact Nat.le_of_eq hk)
    exact hg
end Go.Proofs.Ytkejebdfbkgaiaa
