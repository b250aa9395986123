/- Exams: Result, IsRight. / Exams: Wrongs, IsPossible. / Exams: the reference's Check. -/
import Derived.Test.YtbpilgflejdhaaaBm1
import Derived.Deep.RegionHeld3

namespace Go.Proofs.Ytbpilgflejdhaaa
open Go.RowKit

theorem resultTo_le {p : Paper} {t : List Int} (hw : ∀ k, k < t.length → 0 ≤ (p.items.getD k default).weight ∧ (p.items.getD k default).weight ≤ 10) (ht : ∀ k, k < t.length → 0 ≤ t.getD k 0 ∧ t.getD k 0 ≤ 30) :
    ∀ k, k ≤ t.length → 0 ≤ resultTo p t k ∧ resultTo p t k ≤ 300 * k := by
  intro k
  induction k with
  | zero => intro _; simp [resultTo]
  | succ k ih =>
    intro hk
    have h1 := ih (by omega)
    have h2 := hw k (by omega)
    have h3 := ht k (by omega)
    generalize hx : t.getD k 0 = x at *
    generalize hy : (p.items.getD k default).weight = y at *
    have h4 : 0 ≤ x * y := Int.mul_nonneg h3.1 h2.1
    have h5 : x * y ≤ 30 * 10 := Int.mul_le_mul h3.2 h2.2 h2.1 (by omega)
    simp only [resultTo, hx, hy]
    omega

theorem mul_bd {x y : Int} (h2 : 0 ≤ y ∧ y ≤ 10) (h3 : 0 ≤ x ∧ x ≤ 30) : 0 ≤ x * y ∧ x * y ≤ 300 :=
  ⟨Int.mul_nonneg h3.1 h2.1, by have := Int.mul_le_mul h3.2 h2.2 h2.1 (show (0:Int) ≤ 30 by omega); omega⟩

set_option maxHeartbeats 400000 in
theorem result_any (iA jA gA tA : Option Addr) (ic jc gc tc jn gn : Nat) (wr : Int) (p : Paper) (t : List Int) (w : World) (h : ItemsAt w iA p.items) (hil : p.items.length ≤ 4) (ht : Ints w tA t) (htl : t.length = p.items.length)
    (hW : ∀ k, k < t.length → 0 ≤ (p.items.getD k default).weight ∧ (p.items.getD k default).weight ≤ 10) (hT : ∀ k, k < t.length → 0 ≤ t.getD k 0 ∧ t.getD k 0 ≤ 30) :
    Calls Try.prog 23 #[.agg #[.slice iA p.items.length ic, .slice jA jn jc, .int .i64 wr, .slice gA gn gc], .slice tA t.length tc] w fun e w' => e = .returned (.int .i64 (resultOf p t)) ∧ Ext w w' := by
  have htl2 : t.length ≤ 4 := by omega
  have HL := Lib.hid htl
  have HB := Lib.hid (resultTo_le hW hT)
  have HW := Lib.hid hW
  have HT := Lib.hid hT
  have HR := Lib.hid (show ∀ k, resultTo p t (k + 1) = resultTo p t k + t.getD k 0 * (p.items.getD k default).weight from fun k => rfl)
  have HZ := Lib.hid (show resultTo p t 0 = 0 from rfl)
  have HO := Lib.hid (show resultOf p t = resultTo p t t.length from rfl)
  generalize resultOf p t = ro at *
  generalize resultTo p t = rt at *
  clear htl hW hT
  generalize p.items = L at *
  go_enter Try.func23, Try.ntmps23
  go_wp2
  go_loopw [5, 6] (fun n i wr' => ∃ k : Nat, k ≤ t.length ∧ i = .int .i64 k ∧ n = .int .i64 (rt k) ∧ Ext (w.alloc (.cells #[.slice iA L.length ic, .slice jA jn jc, .int .i64 wr, .slice gA gn gc] 26)) wr') (fun _ i _ => t.length - (intOf i).toNat)
  case atStart => exact ⟨0, by omega, rfl, by rw [HZ.out], Ext.refl _⟩
  case round =>
    rename_i wr'
    obtain ⟨k, hk, rfl, rfl, hE⟩ := hrel
    have HE := Lib.hid hE
    have hbox := hE.box
    have htr := ht.ext hE.unalloc
    have hir := h.ext hE.unalloc
    clear hE ht h
    by_cases hlt : k < t.length
    · have hlL : k < L.length := by have := HL.out; omega
      obtain ⟨b, off, x, rfl, hb, hc, hx⟩ := htr.get hlt
      obtain ⟨b', off', y, z, rfl, hb', hc1, hc2, hy, hz⟩ := hir.get hlL
      have hm := mul_bd (x := x) (y := y) (by have := HW.out k hlt; rw [hy.out] at this; exact this) (by have := HT.out k hlt; rw [hx.out] at this; exact this)
      have hrb := HB.out k hk
      have HS := Lib.hid (show rt (k + 1) = rt k + x * y by rw [HR.out, hx.out, hy.out])
      have hk4 : k ≤ 4 := by omega
      go_wp2
      go_quiet (fail)
      go_wp2
      go_roundw
      case rel => exact ⟨k + 1, by omega, by go_num, by rw [HS.out], HE.out.drewN _⟩
      case measure => simp [intOf]; omega
    · go_wp2
      go_ret
      exact ⟨ret_int (by rw [HO.out, show t.length = k by omega]), HE.out.unalloc⟩

theorem biases_mem {x : Judge} {b : Int} : b ∈ biases x ↔ x.lo ≤ b ∧ b ≤ x.hi := by
  unfold biases
  simp only [List.mem_map, List.mem_range]
  constructor
  · rintro ⟨n, hn, rfl⟩; omega
  · rintro ⟨h1, h2⟩; exact ⟨(b - x.lo).toNat, by omega, by omega⟩
theorem isRight_iff {x : Judge} {t : List Int} : isRight x t = true ↔ ∃ b, x.lo ≤ b ∧ b ≤ x.hi ∧ agree x t b = true := by
  unfold isRight
  simp only [List.any_eq_true, biases_mem]
  constructor
  · rintro ⟨b, h1, h2⟩; exact ⟨b, h1.1, h1.2, h2⟩
  · rintro ⟨b, h1, h2, h3⟩; exact ⟨b, ⟨h1, h2⟩, h3⟩

set_option maxHeartbeats 1000000 in
theorem isRight_any (mA tA : Option Addr) (mc tc : Nat) (x : Judge) (t : List Int) (w : World) (hm : Ints w mA x.marks) (ht : Ints w tA t) (hl : x.marks.length = t.length) (htl : t.length ≤ 4)
    (hM : ∀ k, k < t.length → -1 ≤ x.marks.getD k 0 ∧ x.marks.getD k 0 ≤ 50) (hT : ∀ k, k < t.length → 0 ≤ t.getD k 0 ∧ t.getD k 0 ≤ 30) (h1 : -3 ≤ x.lo) (h2 : x.lo ≤ x.hi) (h3 : x.hi ≤ 3) (h4 : 0 ≤ x.err) (h5 : x.err ≤ 5) :
    Calls Try.prog 35 #[.agg #[.int .i64 x.lo, .int .i64 x.hi, .int .i64 x.err, .slice mA x.marks.length mc], .slice tA t.length tc] w fun e w' => e = .returned (.bool (isRight x t)) ∧ Ext w w' := by
  obtain ⟨ag, hag⟩ : ∃ ag : Int → Nat → Bool, ∀ b k, ag b k = (List.range k).all (agree1 x t b) := ⟨_, fun _ _ => rfl⟩
  have HA := Lib.hid (show ∀ b k, ag b (k + 1) = (ag b k && (decide (x.marks.getD k 0 = -1) || wi (x.marks.getD k 0 - t.getD k 0 - b) (-x.err) x.err)) from fun b k => by rw [hag, hag]; exact allTo_snoc)
  have HZ := Lib.hid (show ∀ b, ag b 0 = true from fun b => by rw [hag]; rfl)
  have HD := Lib.hid (show ∀ b, agree x t b = ag b t.length from fun b => by rw [hag]; rfl)
  clear hag
  have HI := Lib.hid (isRight_iff (x := x) (t := t))
  generalize isRight x t = ir at *
  generalize agree x t = agr at *
  have HM := Lib.hid hM
  have HT := Lib.hid hT
  have HL := Lib.hid hl
  clear hM hT hl
  obtain ⟨lo, hi, err, ma⟩ := x
  simp only at *
  go_enter Try.func35, Try.ntmps35
  go_wp2
  go_loopw [5, 6, 7] (fun b _ _ wr' => ∃ bb : Int, lo ≤ bb ∧ bb ≤ hi + 1 ∧ b = .int .i64 bb ∧ Ext (w.alloc (.cells #[.int .i64 lo, .int .i64 hi, .int .i64 err, .slice mA ma.length mc] 37)) wr' ∧ ∀ b', lo ≤ b' → b' < bb → agr b' = false) (fun b _ _ _ => (hi + 1 - intOf b).toNat)
  case atStart => exact ⟨lo, by omega, by omega, rfl, Ext.refl _, fun b' _ _ => by omega⟩
  case round =>
    obtain ⟨bb, hb1, hb2, rfl, hE, hN⟩ := hrel
    have HN := Lib.hid hN
    clear hN
    have HE := Lib.hid hE
    have hbox := hE.box
    clear hE
    obtain ⟨wo, hwo⟩ : ∃ wo : World, wo = wr := ⟨_, rfl⟩
    subst hwo
    by_cases hlt : bb ≤ hi
    · go_wp2
      go_loopw [6, 7] (fun s i wr' => ∃ k : Nat, k ≤ t.length ∧ i = .int .i64 k ∧ s = .bool (ag bb k) ∧ Ext wo wr') (fun _ i _ => t.length - (intOf i).toNat)
      case atStart => exact ⟨0, by omega, rfl, by rw [HZ.out], Ext.refl _⟩
      case round =>
        obtain ⟨k, hk, rfl, rfl, hE'⟩ := hrel
        have HE' := Lib.hid hE'
        have hbox := (HE.out.trans hE').box
        have htr := ht.ext (HE.out.unalloc.trans hE')
        have hmr := hm.ext (HE.out.unalloc.trans hE')
        clear hE'
        by_cases hk1 : k < t.length
        · obtain ⟨b1, o1, y, rfl, _, hc1, hy⟩ := htr.get hk1
          have hkm : k < ma.length := by have := HL.out; omega
          obtain ⟨b2, o2, m, rfl, _, hc2, hm2⟩ := hmr.get hkm
          have hyb : 0 ≤ y ∧ y ≤ 30 := by have := HT.out k hk1; rw [hy.out] at this; exact this
          have hmb : -1 ≤ m ∧ m ≤ 50 := by have := HM.out k hk1; rw [hm2.out] at this; exact this
          have HS := Lib.hid (show ag bb (k + 1) = (ag bb k && (decide (m = -1) || wi (m - y - bb) (-err) err)) by rw [HA.out, hy.out, hm2.out])
          have hk4 : k ≤ 4 := by omega
          cases hag : ag bb k
          · have HG := Lib.hid hag
            clear hag
            go_wp2
            go_quiet (fail)
            go_wp2
            go_roundw
            case rel => exact ⟨k + 1, by omega, by go_num, by rw [HS.out, HG.out]; rfl, HE'.out.drewN _⟩
            case measure => simp [intOf]; omega
          · have HG := Lib.hid hag
            clear hag
            by_cases hm1 : m = -1
            · have hmq : (m == -1) = true := by simpa using hm1
              have HM1 := Lib.hid hm1
              clear hm1
              go_wp2
              go_quiet (fail)
              go_wp2
              go_roundw
              case rel => exact ⟨k + 1, by omega, by go_num, by rw [HS.out, HG.out, HM1.out]; rfl, HE'.out.drewN _⟩
              case measure => simp [intOf]; omega
            · have hmq : (m == -1) = false := by simpa using hm1
              have HM1 := Lib.hid hm1
              clear hm1
              go_wp2
              go_quiet ((go_at_call 52; exact Calls.quiet_of_same (withinR _ _ _ _)))
              go_wp2
              go_roundw
              case rel => exact ⟨k + 1, by omega, by go_num, by rw [HS.out, HG.out]; simp [HM1.out], HE'.out.drewN _⟩
              case measure => simp [intOf]; omega
        · have HK := Lib.hid (show k = t.length by omega)
          cases hag : ag bb k
          · have HG := Lib.hid hag
            clear hag
            go_wp2
            go_roundw
            case rel =>
              refine ⟨bb + 1, by omega, by omega, by go_num, HE.out.trans HE'.out, fun b' h1 h2 => ?_⟩
              by_cases e : b' = bb
              · rw [e, HD.out, ← HK.out]; exact HG.out
              · exact HN.out b' h1 (by omega)
            case measure => simp [intOf]; omega
          · have HG := Lib.hid hag
            clear hag
            go_wp2
            go_ret
            refine ⟨ret_bool ?_, HE.out.unalloc.trans HE'.out⟩
            have := HI.out.2 ⟨bb, hb1, hlt, by rw [HD.out, ← HK.out]; exact HG.out⟩
            exact this.symm
    · go_wp2
      go_ret
      refine ⟨ret_bool ?_, HE.out.unalloc⟩
      cases hir : ir
      · rfl
      · obtain ⟨b, h1, h2, h3⟩ := HI.out.1 hir
        rw [HN.out b h1 (by omega)] at h3
        cases h3
end Go.Proofs.Ytbpilgflejdhaaa

namespace Go.Proofs.Ytbpilgflejdhaaa
open Go.RowKit

/-- A judge in memory, read. -/
theorem JudgesAt.get {w : World} {A : Option Addr} {l : List Judge} (h : JudgesAt w A l) {k : Nat} (hk : k < l.length) :
    ∃ b off lo hi err ma mA mc, A = some ⟨b, off, none⟩ ∧ b < w.heap.size ∧ w.cell? ⟨b, off + k * 4, none⟩ = some (.int .i64 lo) ∧ w.cell? ⟨b, off + k * 4 + 1, none⟩ = some (.int .i64 hi) ∧
      w.cell? ⟨b, off + k * 4 + 2, none⟩ = some (.int .i64 err) ∧ w.cell? ⟨b, off + k * 4 + 3, none⟩ = some (.slice mA ma.length mc) ∧ Ints w mA ma ∧ ma.length ≤ 9223372036854775807 ∧ Hid (l.getD k default = ⟨lo, hi, err, ma⟩) := by
  obtain ⟨b, off, h1, h2, h3, h4, h5, mA, mc, h6, h7, h8⟩ := h k hk
  exact ⟨b, off, _, _, _, _, mA, mc, h1, h2, h3, h4, h5, h6, h7, h8, rfl⟩

/-- What IsRight, Wrongs, IsPossible ask of points. -/
structure PointsOk (p : Paper) (t : List Int) : Prop where
  len : t.length = p.items.length
  rng : ∀ k, k < t.length → 0 ≤ t.getD k 0 ∧ t.getD k 0 ≤ 30

theorem pointsOk_of {p : Paper} {t : List Int} (hv : Valid p) (h : isTruth p t = true) : PointsOk p t := by
  simp only [isTruth, Bool.and_eq_true, decide_eq_true_eq] at h
  refine ⟨h.1, fun k hk => ?_⟩
  have h1 := wi_true (range_all.1 h.2 k hk)
  have h2 := hv.it k (by omega)
  omega

set_option maxHeartbeats 1000000 in
theorem wrongs_any (iA jA gA tA : Option Addr) (ic jc gc tc : Nat) (p : Paper) (t : List Int) (w : World) (h : PaperAt w iA jA gA p) (hv : Valid p) (ht : Ints w tA t) (hp : PointsOk p t) :
    Calls Try.prog 26 #[.agg #[.slice iA p.items.length ic, .slice jA p.judges.length jc, .int .i64 p.wrong, .slice gA p.grades.length gc], .slice tA t.length tc] w fun e w' => e = .returned (.int .i64 (wrongs p t)) ∧ Ext w w' := by
  have hjl := hv.jl
  have hj := h.judges
  have HP := Lib.hid hp
  have HV := Lib.hid hv
  have HS := Lib.hid (wrongsTo_succ p t)
  have HB := Lib.hid (wrongsTo_le p t)
  have HW := Lib.hid (show wrongs p t = wrongsTo p t p.judges.length from rfl)
  have HZ := Lib.hid (show wrongsTo p t 0 = 0 from by simp [wrongsTo])
  generalize wrongs p t = wo at *
  generalize wrongsTo p t = wt at *
  clear hp hv h
  generalize p.items.length = il, p.grades.length = gl, p.wrong = pw
  go_enter Try.func26, Try.ntmps26
  go_wp2
  go_loopw [5, 6] (fun n i wr' => ∃ k : Nat, k ≤ p.judges.length ∧ i = .int .i64 k ∧ n = .int .i64 (wt k) ∧ Ext (w.alloc (.cells #[.slice iA il ic, .slice jA p.judges.length jc, .int .i64 pw, .slice gA gl gc] 26)) wr') (fun _ i _ => p.judges.length - (intOf i).toNat)
  case atStart => exact ⟨0, by omega, rfl, by rw [HZ.out]; rfl, Ext.refl _⟩
  case round =>
    obtain ⟨k, hk, rfl, rfl, hE⟩ := hrel
    have HE := Lib.hid hE
    have hbox := hE.box
    have htr := ht.ext hE.unalloc
    have hjr := hj.ext hE.unalloc
    clear hE
    have hkb := HB.out k
    by_cases hlt : k < p.judges.length
    · obtain ⟨b, off, lo, hi, err, ma, mA, mc, rfl, hb, hc1, hc2, hc3, hc4, hma, hml, hx⟩ := hjr.get hlt
      have HS1 := Lib.hid (HS.out k hlt)
      have hju := HV.out.ju k hlt
      have hmk := HV.out.ma k hlt
      rw [hx.out] at hju hmk
      have HMk := Lib.hid hmk
      have HPl := HP.out.len
      have HPr := Lib.hid HP.out.rng
      have hil := HV.out.il.2
      have HLen := Lib.hid (show ma.length = t.length by have := hju.2.2.2.2.2; simp at this; omega)
      clear hmk
      simp only at hju
      obtain ⟨hj1, hj2, hj3, hj4, hj5, hj6⟩ := hju
      clear hj6
      have HQ := Lib.hid HPl
      have ht4 : t.length ≤ 4 := by omega
      clear HPl
      cases hr : isRight ⟨lo, hi, err, ma⟩ t
      · have HR := Lib.hid hr
        clear hr
        go_wp2_with fail
        refine (isRight_any mA tA mc tc ⟨lo, hi, err, ma⟩ t _ hma htr HLen.out ht4 (fun k hk => HMk.out k (by have := HQ.out; omega)) HPr.out hj1 hj2 hj3 hj4 hj5).mono ?_
        rintro e w1 ⟨rfl, hE1⟩
        rw [HR.out]
        have HE1 := Lib.hid hE1
        have hbox := (HE.out.trans hE1).box
        clear hE1
        go_wp2
        go_roundw
        case rel => exact ⟨k + 1, by omega, by go_num, by rw [HS1.out, hx.out, HR.out]; simp, HE.out.trans HE1.out⟩
        case measure => simp [intOf]; omega
      · have HR := Lib.hid hr
        clear hr
        go_wp2_with fail
        refine (isRight_any mA tA mc tc ⟨lo, hi, err, ma⟩ t _ hma htr HLen.out ht4 (fun k hk => HMk.out k (by have := HQ.out; omega)) HPr.out hj1 hj2 hj3 hj4 hj5).mono ?_
        rintro e w1 ⟨rfl, hE1⟩
        rw [HR.out]
        have HE1 := Lib.hid hE1
        have hbox := (HE.out.trans hE1).box
        clear hE1
        go_wp2
        go_roundw
        case rel => exact ⟨k + 1, by omega, by go_num, by rw [HS1.out, hx.out, HR.out]; simp, HE.out.trans HE1.out⟩
        case measure => simp [intOf]; omega
    · go_wp2
      go_ret
      exact ⟨ret_int (by rw [HW.out, show p.judges.length = k by omega]), HE.out.unalloc⟩

set_option maxHeartbeats 1000000 in
theorem isPossible_any (iA jA gA tA : Option Addr) (ic jc gc tc : Nat) (p : Paper) (t : List Int) (w : World) (h : PaperAt w iA jA gA p) (hv : Valid p) (ht : Ints w tA t) (htl : t.length ≤ 9223372036854775807) :
    Calls Try.prog 22 #[.agg #[.slice iA p.items.length ic, .slice jA p.judges.length jc, .int .i64 p.wrong, .slice gA p.grades.length gc], .slice tA t.length tc] w fun e w' => e = .returned (.bool (isPossible p t)) ∧ Ext w w' := by
  have H := Lib.hid h
  have HV := Lib.hid hv
  have HIP := Lib.hid (show isPossible p t = (isTruth p t && decide ((wrongs p t : Int) ≤ p.wrong)) from rfl)
  generalize isPossible p t = ip at *
  clear h hv
  obtain ⟨C, hC⟩ : ∃ C : World → Prop, ∀ W, C W ↔ Ext (w.alloc (.cells #[.slice iA p.items.length ic, .slice jA p.judges.length jc, .int .i64 p.wrong, .slice gA p.grades.length gc] 26)) W := ⟨_, fun W => Iff.rfl⟩
  have HC := Lib.hid hC
  have hB : ∀ W, C W → ∀ i, W.cell? ⟨w.heap.size, i, none⟩ = #[Value.slice iA p.items.length ic, .slice jA p.judges.length jc, .int .i64 p.wrong, .slice gA p.grades.length gc][i]? := fun W h i => ((hC W).1 h).box i
  have HB := Lib.hid hB
  have C1 : ∀ W : World, C W → Calls Try.prog 25 #[.agg #[.slice iA p.items.length ic, .slice jA p.judges.length jc, .int .i64 p.wrong, .slice gA p.grades.length gc], .slice tA t.length tc] W fun e W => e = .returned (.bool (isTruth p t)) ∧ C W :=
      fun W hW => (isTruth_any iA jA gA tA ic jc gc tc _ _ _ p t _ (H.out.items.ext ((hC W).1 hW).unalloc) H.out.il (ht.ext ((hC W).1 hW).unalloc) htl).mono fun e w1 ⟨he, hE1⟩ => ⟨he, (hC _).2 (((hC W).1 hW).trans hE1)⟩
  have C2 : PointsOk p t → ∀ W : World, C W → Calls Try.prog 26 #[.agg #[.slice iA p.items.length ic, .slice jA p.judges.length jc, .int .i64 p.wrong, .slice gA p.grades.length gc], .slice tA t.length tc] W fun e W => e = .returned (.int .i64 (wrongs p t)) ∧ C W :=
      fun hp W hW => (wrongs_any iA jA gA tA ic jc gc tc p t _ (H.out.ext ((hC W).1 hW).unalloc) HV.out (ht.ext ((hC W).1 hW).unalloc) hp).mono fun e w1 ⟨he, hE1⟩ => ⟨he, (hC _).2 (((hC W).1 hW).trans hE1)⟩
  have H1 := Lib.hid C1
  have H2 := Lib.hid C2
  clear C1 C2 hC hB
  cases hit : isTruth p t
  · rw [hit] at H1 HIP
    clear hit
    go_enter Try.func22, Try.ntmps22
    go_wp2
    refine wp_region_class C (by kernel_rfl) (by kernel_rfl) ((HC.out _).2 (Ext.refl _).drew) ?_
    repeat
      (refine wpQuiet_step (fun K hK => ?_)
       go_simp
       first
       | (refine hK _ ?_; clear hK K)
       | (apply Exists.intro
          refine ⟨fun W hW => ?_, hK _ ?_⟩
          · first | exact H1.out W hW | (have hb := HB.out W hW; go_simp; rfl)
          clear hK K))
    refine wpQuiet_nil ?_
    intro w1 hw1
    have HE := Lib.hid ((HC.out _).1 hw1)
    go_wp2
    go_ret
    exact ⟨ret_bool HIP.out.symm, HE.out.unalloc⟩
  · have hp := pointsOk_of HV.out hit
    rw [hit] at H1 HIP
    have H3 := Lib.hid (H2.out hp)
    clear hit hp
    go_enter Try.func22, Try.ntmps22
    go_wp2
    refine wp_region_class C (by kernel_rfl) (by kernel_rfl) ((HC.out _).2 (Ext.refl _).drew) ?_
    repeat
      (refine wpQuiet_step (fun K hK => ?_)
       go_simp
       first
       | (refine hK _ ?_; clear hK K)
       | (apply Exists.intro
          refine ⟨fun W hW => ?_, hK _ ?_⟩
          · first | exact H1.out W hW | exact H3.out W hW | (have hb := HB.out W hW; go_simp; rfl)
          clear hK K))
    refine wpQuiet_nil ?_
    intro w1 hw1
    have HE := Lib.hid ((HC.out _).1 hw1)
    go_wp2
    go_ret
    exact ⟨ret_bool HIP.out.symm, HE.out.unalloc⟩
end Go.Proofs.Ytbpilgflejdhaaa

namespace Go.Proofs.Ytbpilgflejdhaaa
open Go.RowKit

set_option maxHeartbeats 2000000 in
theorem checkR_head (iA jA gA : Option Addr) (ic jc gc : Nat) (p : Paper) (w : World) (_hil : p.items.length ≤ 9223372036854775807) (_hjl : p.judges.length ≤ 9223372036854775807) (_hgl : p.grades.length ≤ 9223372036854775807) (hh : headOk p = false) :
    Calls Try.prog 20 #[.agg #[.slice iA p.items.length ic, .slice jA p.judges.length jc, .int .i64 p.wrong, .slice gA p.grades.length gc]] w fun e w' => e = .returned (.int .i64 90) ∧ Ext w w' := by
  rcases headOk_false hh with h | ⟨h, h2⟩ | ⟨h, h2, h3⟩ | ⟨h, h2, h3, h4⟩
  all_goals
    clear hh
    generalize p.wrong = W at *
    generalize p.items.length = il at *
    generalize p.judges.length = jl at *
    generalize p.grades.length = gl at *
    go_enter Try.func20, Try.ntmps20
    go_wp2_with (go_at_call 52; refine (withinR' _ _ _ _).mono ?_; rintro e w' ⟨rfl, rfl⟩)
    go_ret
    exact ⟨rfl, Ext.of_alloc _ _⟩

set_option maxHeartbeats 8000000 in
set_option maxRecDepth 100000 in
theorem checkR_any (iA jA gA : Option Addr) (ic jc gc : Nat) (p : Paper) (w : World) (h : PaperAt w iA jA gA p) :
    Calls Try.prog 20 #[.agg #[.slice iA p.items.length ic, .slice jA p.judges.length jc, .int .i64 p.wrong, .slice gA p.grades.length gc]] w fun e w' => e = .returned (.int .i64 (checkE p)) ∧ Ext w w' := by
  cases hh : headOk p
  · rw [checkE_head hh]
    exact checkR_head iA jA gA ic jc gc p w h.il h.jl h.gl hh
  have hi := h.items
  have hj := h.judges
  have hg := h.grades
  obtain ⟨hh1, hh2, hh3, hh4⟩ := headOk_true hh
  have hil : p.items.length ≤ 4 := by have := wi_true hh1; omega
  have HHH := Lib.hid hh
  have hJ4 : (p.judges.length : Int) ≤ 4 := by omega
  have hG5 : (p.grades.length : Int) ≤ 5 := by omega
  clear h hh
  have HE1 := Lib.hid (fun k => checkE_item (p := p) (k := k))
  have HE2 := Lib.hid (fun k => checkE_judge (p := p) (k := k))
  have HE3 := Lib.hid (fun k => checkE_grade (p := p) (k := k))
  have HE4 := Lib.hid (checkE_ok (p := p) HHH.out)
  generalize checkE p = ce at *
  obtain ⟨I, J, W, G⟩ := p
  simp only at *
  go_enter Try.func20, Try.ntmps20
  go_wp2_with (go_at_call 52; refine (withinR' _ _ _ _).mono ?_; rintro e w' ⟨rfl, rfl⟩)
  -- the items
  go_loopw [3] (fun i wr' => ∃ k : Nat, k ≤ I.length ∧ i = .int .i64 k ∧ Ext (w.alloc (.cells #[.slice iA I.length ic, .slice jA J.length jc, .int .i64 W, .slice gA G.length gc] 26)) wr' ∧ allTo (fun j => itemOk (I.getD j default)) k) (fun i _ => I.length - (intOf i).toNat)
  case atStart => exact ⟨0, by omega, rfl, Ext.refl _, allTo_zero _⟩
  case round =>
    obtain ⟨k, hk, rfl, hE, hs⟩ := hrel
    have HS := Lib.hid hs
    have HE := Lib.hid hE
    have hbox := hE.box
    have hir := hi.ext hE.unalloc
    clear hs hE
    by_cases hlt : k < I.length
    · obtain ⟨b, off, x, y, rfl, hb, hc1, hc2, hx, hy⟩ := hir.get hlt
      have HI := Lib.hid (show itemOk (I.getD k default) = (wi x 0 10 && wi y 0 30) by unfold itemOk; rw [hx.out, hy.out])
      cases h1 : wi x 0 10
      · rw [h1] at HI
        go_wp2_with (go_at_call 52; refine (withinR' _ _ _ _).mono ?_; rintro e w' ⟨rfl, rfl⟩)
        go_ret
        exact ⟨ret_int (HE1.out k hlt HI.out).symm, HE.out.unalloc⟩
      · rw [h1] at HI
        cases h2 : wi y 0 30
        · rw [h2] at HI
          go_wp2_with (go_at_call 52; refine (withinR' _ _ _ _).mono ?_; rintro e w' ⟨rfl, rfl⟩)
          go_ret
          exact ⟨ret_int (HE1.out k hlt HI.out).symm, HE.out.unalloc⟩
        · rw [h2] at HI
          go_wp2_with (go_at_call 52; refine (withinR' _ _ _ _).mono ?_; rintro e w' ⟨rfl, rfl⟩)
          go_roundw
          case rel => exact ⟨k + 1, by omega, by go_num, HE.out, allTo_succ HS.out HI.out⟩
          case measure => simp [intOf]; omega
    · have HA1 := Lib.hid (show allTo (fun j => itemOk (I.getD j default)) I.length from fun j hj => HS.out j (by omega))
      clear HS hir hi
      go_wp2
      -- the judges
      obtain ⟨w1, hw1⟩ : ∃ w1 : World, w1 = wr := ⟨_, rfl⟩
      subst hw1
      go_loopw [4, 5, 6] (fun i _ _ wr' => ∃ k : Nat, k ≤ J.length ∧ i = .int .i64 k ∧ Ext (w.alloc (.cells #[.slice iA I.length ic, .slice jA J.length jc, .int .i64 W, .slice gA G.length gc] 26)) wr' ∧ allTo (fun j => judgeOk I.length (J.getD j default)) k) (fun i _ _ _ => J.length - (intOf i).toNat)
      case atStart => exact ⟨0, by omega, rfl, HE.out, allTo_zero _⟩
      case round =>
        clear hbox HE hlt hk
        obtain ⟨k, hk, rfl, hE, hs⟩ := hrel
        have HS := Lib.hid hs
        have HE := Lib.hid hE
        have hbox := hE.box
        have hjr := hj.ext hE.unalloc
        have hwl := hE.lt
        clear hs hE
        by_cases hlt : k < J.length
        · obtain ⟨b, off, lo, hi', err, ma, mA, mc, rfl, hb, hc1, hc2, hc3, hc4, hma, hml, hx⟩ := hjr.get hlt
          cases hj1 : judgeOk1 I.length ⟨lo, hi', err, ma⟩
          · have HF := Lib.hid (show judgeOk I.length (J.getD k default) = false by rw [hx.out, judgeOk, hj1]; rfl)
            rcases judgeOk1_false hj1 with q | ⟨q, q2⟩ | ⟨q, q2, q3⟩ | ⟨q, q2, q3, q4⟩ | ⟨q, q2, q3, q4, q5, q6⟩
            all_goals
              clear hj1
              try clear q6
              go_wp2_with (go_at_call 52; refine (withinR' _ _ _ _).mono ?_; rintro e w' ⟨rfl, rfl⟩)
              go_ret
              exact ⟨ret_int (HE2.out k hlt HF.out).symm, (HE.out.unalloc).alloc _⟩
          · obtain ⟨q, q2, q3, q4, q5, q6⟩ := judgeOk1_true hj1
            clear q6
            have HJ1 := Lib.hid hj1
            clear hj1
            go_wp2_with (go_at_call 52; refine (withinR' _ _ _ _).mono ?_; rintro e w' ⟨rfl, rfl⟩)
            obtain ⟨w2, hw2⟩ : ∃ w2 : World, w2 = wr := ⟨_, rfl⟩
            subst hw2
            go_loopw [6] (fun i wr' => ∃ m : Nat, m ≤ ma.length ∧ i = .int .i64 m ∧ Ext (w2.alloc (.cells #[.int .i64 lo, .int .i64 hi', .int .i64 err, .slice mA ma.length mc] 37)) wr' ∧ allTo (fun j => markOk (ma.getD j 0)) m) (fun i _ => ma.length - (intOf i).toNat)
            case atStart => exact ⟨0, by omega, rfl, Ext.refl _, allTo_zero _⟩
            case round =>
              obtain ⟨m, hm, rfl, hE2, hs2⟩ := hrel
              have HS2 := Lib.hid hs2
              have HE2' := Lib.hid hE2
              have hbox2 := hE2.box
              have hbox1 := (HE.out.trans hE2.unalloc).box
              have hmr := hma.ext hE2.unalloc
              clear hs2 hE2 hbox
              by_cases hlm : m < ma.length
              · obtain ⟨b2, o2, x, rfl, _, hcm, hxm⟩ := hmr.get hlm
                cases hx1 : wi x (-1) 50
                · have HX := Lib.hid (show markOk (ma.getD m 0) = false by rw [hxm.out]; exact hx1)
                  go_wp2_with (go_at_call 52; refine (withinR' _ _ _ _).mono ?_; rintro e w' ⟨rfl, rfl⟩)
                  go_ret
                  exact ⟨ret_int (HE2.out k hlt (by rw [hx.out, judgeOk, HJ1.out]; exact all_getD_false hlm HX.out)).symm, HE.out.unalloc.trans HE2'.out.unalloc⟩
                · have HX := Lib.hid (show markOk (ma.getD m 0) = true by rw [hxm.out]; exact hx1)
                  go_wp2_with (go_at_call 52; refine (withinR' _ _ _ _).mono ?_; rintro e w' ⟨rfl, rfl⟩)
                  go_roundw
                  case rel => exact ⟨m + 1, by omega, by go_num, HE2'.out, allTo_succ HS2.out HX.out⟩
                  case measure => simp [intOf]; omega
              · have HX := Lib.hid (show judgeOk I.length (J.getD k default) = true by rw [hx.out, judgeOk, HJ1.out]; exact (all_getD _ 0 _).2 (fun j hj => HS2.out j (by have : j < ma.length := hj; omega)))
                go_wp2
                go_roundw
                case rel => exact ⟨k + 1, by omega, by go_num, HE.out.trans HE2'.out.unalloc, allTo_succ HS.out HX.out⟩
                case measure => simp [intOf]; omega
        · have HA2 := Lib.hid (show allTo (fun j => judgeOk I.length (J.getD j default)) J.length from fun j hj => HS.out j (by omega))
          clear HS hjr hj
          go_wp2
          obtain ⟨w2, hw2⟩ : ∃ w2 : World, w2 = wr := ⟨_, rfl⟩
          subst hw2
          -- the grades
          go_loopw [7] (fun i wr' => ∃ k : Nat, k ≤ G.length ∧ i = .int .i64 k ∧ Ext (w.alloc (.cells #[.slice iA I.length ic, .slice jA J.length jc, .int .i64 W, .slice gA G.length gc] 26)) wr' ∧ allTo (gradeOk G) k) (fun i _ => G.length - (intOf i).toNat)
          case atStart => exact ⟨0, by omega, rfl, HE.out, allTo_zero _⟩
          case round =>
            clear hbox HE hlt hk
            obtain ⟨k, hk, rfl, hE, hs⟩ := hrel
            have HS := Lib.hid hs
            have HE := Lib.hid hE
            have hbox := hE.box
            have hgr := hg.ext hE.unalloc
            clear hs hE
            by_cases hlt : k < G.length
            · obtain ⟨b, off, x, rfl, hb, hc1, hx⟩ := hgr.get hlt
              cases h1 : wi x 0 1200
              · have HF := Lib.hid (show gradeOk G k = false by rw [gradeOk, hx.out, h1]; rfl)
                go_wp2
                go_quiet ((go_at_call 52; exact Calls.quiet_of_same (withinR _ _ _ _)))
                go_wp2
                go_ret
                exact ⟨ret_int (HE3.out k hlt HF.out).symm, HE.out.unalloc.drewN _⟩
              · by_cases hk0 : 0 < k
                · obtain ⟨b', off', x', hA', hb', hc1', hx'⟩ := hgr.get (show k - 1 < G.length by omega)
                  simp only [Option.some.injEq, Addr.mk.injEq, and_true] at hA'
                  obtain ⟨rfl, rfl⟩ := hA'
                  have hkk : (0 : Int) < (k : Int) := by omega
                  have e2 : IntKind.i64.wrap ((k : Int) - 1) = (k : Int) - 1 := IntWalk.i64_in _ (by omega)
                  have e3 : ((k : Int) - 1).toNat = k - 1 := by omega
                  have e4 : (0 : Int) ≤ (k : Int) - 1 := by omega
                  have e5 : (k : Int) - 1 < (G.length : Int) := by omega
                  by_cases hlx : x' < x
                  · have HX := Lib.hid (show gradeOk G k = true by rw [gradeOk, hx.out, hx'.out, h1]; simp [hlx])
                    go_wp2
                    go_quiet ((go_at_call 52; exact Calls.quiet_of_same (withinR _ _ _ _)))
                    clear e2 e3
                    go_wp2
                    go_roundw
                    case rel => exact ⟨k + 1, by omega, by go_num, HE.out.drewN _, allTo_succ HS.out HX.out⟩
                    case measure => simp [intOf]; omega
                  · have HX := Lib.hid (show gradeOk G k = false by rw [gradeOk, hx.out, hx'.out, h1]; simp [hlx]; omega)
                    go_wp2
                    go_quiet ((go_at_call 52; exact Calls.quiet_of_same (withinR _ _ _ _)))
                    clear e2 e3
                    go_wp2
                    go_ret
                    exact ⟨ret_int (HE3.out k hlt HX.out).symm, HE.out.unalloc.drewN _⟩
                · have HX := Lib.hid (show gradeOk G k = true by rw [gradeOk, hx.out, h1, show k = 0 by omega]; rfl)
                  have hd : decide ((0 : Int) < (k : Int)) = false := by simp; omega
                  go_wp2
                  go_quiet ((go_at_call 52; exact Calls.quiet_of_same (withinR _ _ _ _)))
                  go_wp2
                  go_roundw
                  case rel => exact ⟨k + 1, by omega, by go_num, HE.out.drewN _, allTo_succ HS.out HX.out⟩
                  case measure => simp [intOf]; omega
            · go_wp2
              go_ret
              exact ⟨ret_int (HE4.out HA1.out HA2.out (fun j hj => HS.out j (by omega))).symm, HE.out.unalloc⟩
end Go.Proofs.Ytbpilgflejdhaaa
