/- Exams: Wrongs, IsPossible. -/
import Derived.Test.YtbpilgflejdhaaaExC
import Derived.Deep.RegionHeld3
namespace Go.Proofs.Ytbpilgflejdhaaa
open Go.RowKit

/-- A judge in memory, read. -/
theorem JudgesAt.get {w : World} {A : Option Addr} {l : List Judge} (h : JudgesAt w A l) {k : Nat} (hk : k < l.length) :
    ∃ b off lo hi err ma mA mc, A = some ⟨b, off, none⟩ ∧ b < w.heap.size ∧ w.cell? ⟨b, off + k * 4, none⟩ = some (.int .i64 lo) ∧ w.cell? ⟨b, off + k * 4 + 1, none⟩ = some (.int .i64 hi) ∧
      w.cell? ⟨b, off + k * 4 + 2, none⟩ = some (.int .i64 err) ∧ w.cell? ⟨b, off + k * 4 + 3, none⟩ = some (.slice mA ma.length mc) ∧ Ints w mA ma ∧ ma.length ≤ 9223372036854775807 ∧ Hid (l.getD k default = ⟨lo, hi, err, ma⟩) := by
  obtain ⟨b, off, h1, h2, h3, h4, h5, mA, mc, h6, h7, h8⟩ := h k hk
  exact ⟨b, off, _, _, _, _, mA, mc, h1, h2, h3, h4, h5, h6, h7, h8, rfl⟩

/-- What IsRight, Wrongs, IsPossible ask of points. -/
structure PointsOk (p : Paper) (t : List Int) : Prop where
  len : t.length = p.items.length
  rng : ∀ k, k < t.length → 0 ≤ t.getD k 0 ∧ t.getD k 0 ≤ 30

theorem pointsOk_of {p : Paper} {t : List Int} (hv : Valid p) (h : isTruth p t = true) : PointsOk p t := by
  simp only [isTruth, Bool.and_eq_true, decide_eq_true_eq] at h
  refine ⟨h.1, fun k hk => ?_⟩
  have h1 := wi_true (range_all.1 h.2 k hk)
  have h2 := hv.it k (by omega)
  omega

set_option maxHeartbeats 1000000 in
theorem wrongs_any (iA jA gA tA : Option Addr) (ic jc gc tc : Nat) (p : Paper) (t : List Int) (w : World) (h : PaperAt w iA jA gA p) (hv : Valid p) (ht : Ints w tA t) (hp : PointsOk p t) :
    Calls Try.prog 26 #[.agg #[.slice iA p.items.length ic, .slice jA p.judges.length jc, .int .i64 p.wrong, .slice gA p.grades.length gc], .slice tA t.length tc] w fun e w' => e = .returned (.int .i64 (wrongs p t)) ∧ Ext w w' := by
  have hjl := hv.jl
  have hj := h.judges
  have HP := Lib.hid hp
  have HV := Lib.hid hv
  have HS := Lib.hid (wrongsTo_succ p t)
  have HB := Lib.hid (wrongsTo_le p t)
  have HW := Lib.hid (show wrongs p t = wrongsTo p t p.judges.length from rfl)
  have HZ := Lib.hid (show wrongsTo p t 0 = 0 from by simp [wrongsTo])
  generalize wrongs p t = wo at *
  generalize wrongsTo p t = wt at *
  clear hp hv h
  generalize p.items.length = il, p.grades.length = gl, p.wrong = pw
  go_enter Try.func26, Try.ntmps26
  go_wp2
  go_loopw [5, 6] (fun n i wr' => ∃ k : Nat, k ≤ p.judges.length ∧ i = .int .i64 k ∧ n = .int .i64 (wt k) ∧ Ext (w.alloc (.cells #[.slice iA il ic, .slice jA p.judges.length jc, .int .i64 pw, .slice gA gl gc] 26)) wr') (fun _ i _ => p.judges.length - (intOf i).toNat)
  case atStart => exact ⟨0, by omega, rfl, by rw [HZ.out]; rfl, Ext.refl _⟩
  case round =>
    obtain ⟨k, hk, rfl, rfl, hE⟩ := hrel
    have HE := Lib.hid hE
    have hbox := hE.box
    have htr := ht.ext hE.unalloc
    have hjr := hj.ext hE.unalloc
    clear hE
    have hkb := HB.out k
    by_cases hlt : k < p.judges.length
    · obtain ⟨b, off, lo, hi, err, ma, mA, mc, rfl, hb, hc1, hc2, hc3, hc4, hma, hml, hx⟩ := hjr.get hlt
      have HS1 := Lib.hid (HS.out k hlt)
      have hju := HV.out.ju k hlt
      have hmk := HV.out.ma k hlt
      rw [hx.out] at hju hmk
      have HMk := Lib.hid hmk
      have HPl := HP.out.len
      have HPr := Lib.hid HP.out.rng
      have hil := HV.out.il.2
      have HLen := Lib.hid (show ma.length = t.length by have := hju.2.2.2.2.2; simp at this; omega)
      clear hmk
      simp only at hju
      obtain ⟨hj1, hj2, hj3, hj4, hj5, hj6⟩ := hju
      clear hj6
      have HQ := Lib.hid HPl
      have ht4 : t.length ≤ 4 := by omega
      clear HPl
      cases hr : isRight ⟨lo, hi, err, ma⟩ t
      · have HR := Lib.hid hr
        clear hr
        go_wp2_with fail
        refine (isRight_any mA tA mc tc ⟨lo, hi, err, ma⟩ t _ hma htr HLen.out ht4 (fun k hk => HMk.out k (by have := HQ.out; omega)) HPr.out hj1 hj2 hj3 hj4 hj5).mono ?_
        rintro e w1 ⟨rfl, hE1⟩
        rw [HR.out]
        have HE1 := Lib.hid hE1
        have hbox := (HE.out.trans hE1).box
        clear hE1
        go_wp2
        go_roundw
        case rel => exact ⟨k + 1, by omega, by go_num, by rw [HS1.out, hx.out, HR.out]; simp, HE.out.trans HE1.out⟩
        case measure => simp [intOf]; omega
      · have HR := Lib.hid hr
        clear hr
        go_wp2_with fail
        refine (isRight_any mA tA mc tc ⟨lo, hi, err, ma⟩ t _ hma htr HLen.out ht4 (fun k hk => HMk.out k (by have := HQ.out; omega)) HPr.out hj1 hj2 hj3 hj4 hj5).mono ?_
        rintro e w1 ⟨rfl, hE1⟩
        rw [HR.out]
        have HE1 := Lib.hid hE1
        have hbox := (HE.out.trans hE1).box
        clear hE1
        go_wp2
        go_roundw
        case rel => exact ⟨k + 1, by omega, by go_num, by rw [HS1.out, hx.out, HR.out]; simp, HE.out.trans HE1.out⟩
        case measure => simp [intOf]; omega
    · go_wp2
      go_ret
      exact ⟨ret_int (by rw [HW.out, show p.judges.length = k by omega]), HE.out.unalloc⟩

set_option maxHeartbeats 1000000 in
theorem isPossible_any (iA jA gA tA : Option Addr) (ic jc gc tc : Nat) (p : Paper) (t : List Int) (w : World) (h : PaperAt w iA jA gA p) (hv : Valid p) (ht : Ints w tA t) (htl : t.length ≤ 9223372036854775807) :
    Calls Try.prog 22 #[.agg #[.slice iA p.items.length ic, .slice jA p.judges.length jc, .int .i64 p.wrong, .slice gA p.grades.length gc], .slice tA t.length tc] w fun e w' => e = .returned (.bool (isPossible p t)) ∧ Ext w w' := by
  have H := Lib.hid h
  have HV := Lib.hid hv
  have HIP := Lib.hid (show isPossible p t = (isTruth p t && decide ((wrongs p t : Int) ≤ p.wrong)) from rfl)
  generalize isPossible p t = ip at *
  clear h hv
  obtain ⟨C, hC⟩ : ∃ C : World → Prop, ∀ W, C W ↔ Ext (w.alloc (.cells #[.slice iA p.items.length ic, .slice jA p.judges.length jc, .int .i64 p.wrong, .slice gA p.grades.length gc] 26)) W := ⟨_, fun W => Iff.rfl⟩
  have HC := Lib.hid hC
  have hB : ∀ W, C W → ∀ i, W.cell? ⟨w.heap.size, i, none⟩ = #[Value.slice iA p.items.length ic, .slice jA p.judges.length jc, .int .i64 p.wrong, .slice gA p.grades.length gc][i]? := fun W h i => ((hC W).1 h).box i
  have HB := Lib.hid hB
  have C1 : ∀ W : World, C W → Calls Try.prog 25 #[.agg #[.slice iA p.items.length ic, .slice jA p.judges.length jc, .int .i64 p.wrong, .slice gA p.grades.length gc], .slice tA t.length tc] W fun e W => e = .returned (.bool (isTruth p t)) ∧ C W :=
      fun W hW => (isTruth_any iA jA gA tA ic jc gc tc _ _ _ p t _ (H.out.items.ext ((hC W).1 hW).unalloc) H.out.il (ht.ext ((hC W).1 hW).unalloc) htl).mono fun e w1 ⟨he, hE1⟩ => ⟨he, (hC _).2 (((hC W).1 hW).trans hE1)⟩
  have C2 : PointsOk p t → ∀ W : World, C W → Calls Try.prog 26 #[.agg #[.slice iA p.items.length ic, .slice jA p.judges.length jc, .int .i64 p.wrong, .slice gA p.grades.length gc], .slice tA t.length tc] W fun e W => e = .returned (.int .i64 (wrongs p t)) ∧ C W :=
      fun hp W hW => (wrongs_any iA jA gA tA ic jc gc tc p t _ (H.out.ext ((hC W).1 hW).unalloc) HV.out (ht.ext ((hC W).1 hW).unalloc) hp).mono fun e w1 ⟨he, hE1⟩ => ⟨he, (hC _).2 (((hC W).1 hW).trans hE1)⟩
  have H1 := Lib.hid C1
  have H2 := Lib.hid C2
  clear C1 C2 hC hB
  cases hit : isTruth p t
  · rw [hit] at H1 HIP
    clear hit
    go_enter Try.func22, Try.ntmps22
    go_wp2
    refine wp_region_class C (by kernel_rfl) (by kernel_rfl) ((HC.out _).2 (Ext.refl _).drew) ?_
    repeat
      (refine wpQuiet_step (fun K hK => ?_)
       go_simp
       first
       | (refine hK _ ?_; clear hK K)
       | (apply Exists.intro
          refine ⟨fun W hW => ?_, hK _ ?_⟩
          · first | exact H1.out W hW | (have hb := HB.out W hW; go_simp; rfl)
          clear hK K))
    refine wpQuiet_nil ?_
    intro w1 hw1
    have HE := Lib.hid ((HC.out _).1 hw1)
    go_wp2
    go_ret
    exact ⟨ret_bool HIP.out.symm, HE.out.unalloc⟩
  · have hp := pointsOk_of HV.out hit
    rw [hit] at H1 HIP
    have H3 := Lib.hid (H2.out hp)
    clear hit hp
    go_enter Try.func22, Try.ntmps22
    go_wp2
    refine wp_region_class C (by kernel_rfl) (by kernel_rfl) ((HC.out _).2 (Ext.refl _).drew) ?_
    repeat
      (refine wpQuiet_step (fun K hK => ?_)
       go_simp
       first
       | (refine hK _ ?_; clear hK K)
       | (apply Exists.intro
          refine ⟨fun W hW => ?_, hK _ ?_⟩
          · first | exact H1.out W hW | exact H3.out W hW | (have hb := HB.out W hW; go_simp; rfl)
          clear hK K))
    refine wpQuiet_nil ?_
    intro w1 hw1
    have HE := Lib.hid ((HC.out _).1 hw1)
    go_wp2
    go_ret
    exact ⟨ret_bool HIP.out.symm, HE.out.unalloc⟩
end Go.Proofs.Ytbpilgflejdhaaa
