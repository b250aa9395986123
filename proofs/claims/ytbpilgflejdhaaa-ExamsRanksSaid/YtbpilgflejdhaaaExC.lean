/- Exams: Result, IsRight. -/
import Derived.Test.YtbpilgflejdhaaaExB
namespace Go.Proofs.Ytbpilgflejdhaaa
open Go.RowKit

theorem resultTo_le {p : Paper} {t : List Int} (hw : ∀ k, k < t.length → 0 ≤ (p.items.getD k default).weight ∧ (p.items.getD k default).weight ≤ 10) (ht : ∀ k, k < t.length → 0 ≤ t.getD k 0 ∧ t.getD k 0 ≤ 30) :
    ∀ k, k ≤ t.length → 0 ≤ resultTo p t k ∧ resultTo p t k ≤ 300 * k := by
  intro k
  induction k with
  | zero => intro _; simp [resultTo]
  | succ k ih =>
    intro hk
    have h1 := ih (by omega)
    have h2 := hw k (by omega)
    have h3 := ht k (by omega)
    generalize hx : t.getD k 0 = x at *
    generalize hy : (p.items.getD k default).weight = y at *
    have h4 : 0 ≤ x * y := Int.mul_nonneg h3.1 h2.1
    have h5 : x * y ≤ 30 * 10 := Int.mul_le_mul h3.2 h2.2 h2.1 (by omega)
    simp only [resultTo, hx, hy]
    omega

theorem mul_bd {x y : Int} (h2 : 0 ≤ y ∧ y ≤ 10) (h3 : 0 ≤ x ∧ x ≤ 30) : 0 ≤ x * y ∧ x * y ≤ 300 :=
  ⟨Int.mul_nonneg h3.1 h2.1, by have := Int.mul_le_mul h3.2 h2.2 h2.1 (show (0:Int) ≤ 30 by omega); omega⟩

set_option maxHeartbeats 400000 in
theorem result_any (iA jA gA tA : Option Addr) (ic jc gc tc jn gn : Nat) (wr : Int) (p : Paper) (t : List Int) (w : World) (h : ItemsAt w iA p.items) (hil : p.items.length ≤ 4) (ht : Ints w tA t) (htl : t.length = p.items.length)
    (hW : ∀ k, k < t.length → 0 ≤ (p.items.getD k default).weight ∧ (p.items.getD k default).weight ≤ 10) (hT : ∀ k, k < t.length → 0 ≤ t.getD k 0 ∧ t.getD k 0 ≤ 30) :
    Calls Try.prog 23 #[.agg #[.slice iA p.items.length ic, .slice jA jn jc, .int .i64 wr, .slice gA gn gc], .slice tA t.length tc] w fun e w' => e = .returned (.int .i64 (resultOf p t)) ∧ Ext w w' := by
  have htl2 : t.length ≤ 4 := by omega
  have HL := Lib.hid htl
  have HB := Lib.hid (resultTo_le hW hT)
  have HW := Lib.hid hW
  have HT := Lib.hid hT
  have HR := Lib.hid (show ∀ k, resultTo p t (k + 1) = resultTo p t k + t.getD k 0 * (p.items.getD k default).weight from fun k => rfl)
  have HZ := Lib.hid (show resultTo p t 0 = 0 from rfl)
  have HO := Lib.hid (show resultOf p t = resultTo p t t.length from rfl)
  generalize resultOf p t = ro at *
  generalize resultTo p t = rt at *
  clear htl hW hT
  generalize p.items = L at *
  go_enter Try.func23, Try.ntmps23
  go_wp2
  go_loopw [5, 6] (fun n i wr' => ∃ k : Nat, k ≤ t.length ∧ i = .int .i64 k ∧ n = .int .i64 (rt k) ∧ Ext (w.alloc (.cells #[.slice iA L.length ic, .slice jA jn jc, .int .i64 wr, .slice gA gn gc] 26)) wr') (fun _ i _ => t.length - (intOf i).toNat)
  case atStart => exact ⟨0, by omega, rfl, by rw [HZ.out], Ext.refl _⟩
  case round =>
    rename_i wr'
    obtain ⟨k, hk, rfl, rfl, hE⟩ := hrel
    have HE := Lib.hid hE
    have hbox := hE.box
    have htr := ht.ext hE.unalloc
    have hir := h.ext hE.unalloc
    clear hE ht h
    by_cases hlt : k < t.length
    · have hlL : k < L.length := by have := HL.out; omega
      obtain ⟨b, off, x, rfl, hb, hc, hx⟩ := htr.get hlt
      obtain ⟨b', off', y, z, rfl, hb', hc1, hc2, hy, hz⟩ := hir.get hlL
      have hm := mul_bd (x := x) (y := y) (by have := HW.out k hlt; rw [hy.out] at this; exact this) (by have := HT.out k hlt; rw [hx.out] at this; exact this)
      have hrb := HB.out k hk
      have HS := Lib.hid (show rt (k + 1) = rt k + x * y by rw [HR.out, hx.out, hy.out])
      have hk4 : k ≤ 4 := by omega
      go_wp2
      go_quiet (fail)
      go_wp2
      go_roundw
      case rel => exact ⟨k + 1, by omega, by go_num, by rw [HS.out], HE.out.drewN _⟩
      case measure => simp [intOf]; omega
    · go_wp2
      go_ret
      exact ⟨ret_int (by rw [HO.out, show t.length = k by omega]), HE.out.unalloc⟩

theorem biases_mem {x : Judge} {b : Int} : b ∈ biases x ↔ x.lo ≤ b ∧ b ≤ x.hi := by
  unfold biases
  simp only [List.mem_map, List.mem_range]
  constructor
  · rintro ⟨n, hn, rfl⟩; omega
  · rintro ⟨h1, h2⟩; exact ⟨(b - x.lo).toNat, by omega, by omega⟩
theorem isRight_iff {x : Judge} {t : List Int} : isRight x t = true ↔ ∃ b, x.lo ≤ b ∧ b ≤ x.hi ∧ agree x t b = true := by
  unfold isRight
  simp only [List.any_eq_true, biases_mem]
  constructor
  · rintro ⟨b, h1, h2⟩; exact ⟨b, h1.1, h1.2, h2⟩
  · rintro ⟨b, h1, h2, h3⟩; exact ⟨b, ⟨h1, h2⟩, h3⟩

set_option maxHeartbeats 1000000 in
theorem isRight_any (mA tA : Option Addr) (mc tc : Nat) (x : Judge) (t : List Int) (w : World) (hm : Ints w mA x.marks) (ht : Ints w tA t) (hl : x.marks.length = t.length) (htl : t.length ≤ 4)
    (hM : ∀ k, k < t.length → -1 ≤ x.marks.getD k 0 ∧ x.marks.getD k 0 ≤ 50) (hT : ∀ k, k < t.length → 0 ≤ t.getD k 0 ∧ t.getD k 0 ≤ 30) (h1 : -3 ≤ x.lo) (h2 : x.lo ≤ x.hi) (h3 : x.hi ≤ 3) (h4 : 0 ≤ x.err) (h5 : x.err ≤ 5) :
    Calls Try.prog 35 #[.agg #[.int .i64 x.lo, .int .i64 x.hi, .int .i64 x.err, .slice mA x.marks.length mc], .slice tA t.length tc] w fun e w' => e = .returned (.bool (isRight x t)) ∧ Ext w w' := by
  obtain ⟨ag, hag⟩ : ∃ ag : Int → Nat → Bool, ∀ b k, ag b k = (List.range k).all (agree1 x t b) := ⟨_, fun _ _ => rfl⟩
  have HA := Lib.hid (show ∀ b k, ag b (k + 1) = (ag b k && (decide (x.marks.getD k 0 = -1) || wi (x.marks.getD k 0 - t.getD k 0 - b) (-x.err) x.err)) from fun b k => by rw [hag, hag]; exact allTo_snoc)
  have HZ := Lib.hid (show ∀ b, ag b 0 = true from fun b => by rw [hag]; rfl)
  have HD := Lib.hid (show ∀ b, agree x t b = ag b t.length from fun b => by rw [hag]; rfl)
  clear hag
  have HI := Lib.hid (isRight_iff (x := x) (t := t))
  generalize isRight x t = ir at *
  generalize agree x t = agr at *
  have HM := Lib.hid hM
  have HT := Lib.hid hT
  have HL := Lib.hid hl
  clear hM hT hl
  obtain ⟨lo, hi, err, ma⟩ := x
  simp only at *
  go_enter Try.func35, Try.ntmps35
  go_wp2
  go_loopw [5, 6, 7] (fun b _ _ wr' => ∃ bb : Int, lo ≤ bb ∧ bb ≤ hi + 1 ∧ b = .int .i64 bb ∧ Ext (w.alloc (.cells #[.int .i64 lo, .int .i64 hi, .int .i64 err, .slice mA ma.length mc] 37)) wr' ∧ ∀ b', lo ≤ b' → b' < bb → agr b' = false) (fun b _ _ _ => (hi + 1 - intOf b).toNat)
  case atStart => exact ⟨lo, by omega, by omega, rfl, Ext.refl _, fun b' _ _ => by omega⟩
  case round =>
    obtain ⟨bb, hb1, hb2, rfl, hE, hN⟩ := hrel
    have HN := Lib.hid hN
    clear hN
    have HE := Lib.hid hE
    have hbox := hE.box
    clear hE
    obtain ⟨wo, hwo⟩ : ∃ wo : World, wo = wr := ⟨_, rfl⟩
    subst hwo
    by_cases hlt : bb ≤ hi
    · go_wp2
      go_loopw [6, 7] (fun s i wr' => ∃ k : Nat, k ≤ t.length ∧ i = .int .i64 k ∧ s = .bool (ag bb k) ∧ Ext wo wr') (fun _ i _ => t.length - (intOf i).toNat)
      case atStart => exact ⟨0, by omega, rfl, by rw [HZ.out], Ext.refl _⟩
      case round =>
        obtain ⟨k, hk, rfl, rfl, hE'⟩ := hrel
        have HE' := Lib.hid hE'
        have hbox := (HE.out.trans hE').box
        have htr := ht.ext (HE.out.unalloc.trans hE')
        have hmr := hm.ext (HE.out.unalloc.trans hE')
        clear hE'
        by_cases hk1 : k < t.length
        · obtain ⟨b1, o1, y, rfl, _, hc1, hy⟩ := htr.get hk1
          have hkm : k < ma.length := by have := HL.out; omega
          obtain ⟨b2, o2, m, rfl, _, hc2, hm2⟩ := hmr.get hkm
          have hyb : 0 ≤ y ∧ y ≤ 30 := by have := HT.out k hk1; rw [hy.out] at this; exact this
          have hmb : -1 ≤ m ∧ m ≤ 50 := by have := HM.out k hk1; rw [hm2.out] at this; exact this
          have HS := Lib.hid (show ag bb (k + 1) = (ag bb k && (decide (m = -1) || wi (m - y - bb) (-err) err)) by rw [HA.out, hy.out, hm2.out])
          have hk4 : k ≤ 4 := by omega
          cases hag : ag bb k
          · have HG := Lib.hid hag
            clear hag
            go_wp2
            go_quiet (fail)
            go_wp2
            go_roundw
            case rel => exact ⟨k + 1, by omega, by go_num, by rw [HS.out, HG.out]; rfl, HE'.out.drewN _⟩
            case measure => simp [intOf]; omega
          · have HG := Lib.hid hag
            clear hag
            by_cases hm1 : m = -1
            · have hmq : (m == -1) = true := by simpa using hm1
              have HM1 := Lib.hid hm1
              clear hm1
              go_wp2
              go_quiet (fail)
              go_wp2
              go_roundw
              case rel => exact ⟨k + 1, by omega, by go_num, by rw [HS.out, HG.out, HM1.out]; rfl, HE'.out.drewN _⟩
              case measure => simp [intOf]; omega
            · have hmq : (m == -1) = false := by simpa using hm1
              have HM1 := Lib.hid hm1
              clear hm1
              go_wp2
              go_quiet ((go_at_call 52; exact Calls.quiet_of_same (withinR _ _ _ _)))
              go_wp2
              go_roundw
              case rel => exact ⟨k + 1, by omega, by go_num, by rw [HS.out, HG.out]; simp [HM1.out], HE'.out.drewN _⟩
              case measure => simp [intOf]; omega
        · have HK := Lib.hid (show k = t.length by omega)
          cases hag : ag bb k
          · have HG := Lib.hid hag
            clear hag
            go_wp2
            go_roundw
            case rel =>
              refine ⟨bb + 1, by omega, by omega, by go_num, HE.out.trans HE'.out, fun b' h1 h2 => ?_⟩
              by_cases e : b' = bb
              · rw [e, HD.out, ← HK.out]; exact HG.out
              · exact HN.out b' h1 (by omega)
            case measure => simp [intOf]; omega
          · have HG := Lib.hid hag
            clear hag
            go_wp2
            go_ret
            refine ⟨ret_bool ?_, HE.out.unalloc.trans HE'.out⟩
            have := HI.out.2 ⟨bb, hb1, hlt, by rw [HD.out, ← HK.out]; exact HG.out⟩
            exact this.symm
    · go_wp2
      go_ret
      refine ⟨ret_bool ?_, HE.out.unalloc⟩
      cases hir : ir
      · rfl
      · obtain ⟨b, h1, h2, h3⟩ := HI.out.1 hir
        rw [HN.out b h1 (by omega)] at h3
        cases h3
end Go.Proofs.Ytbpilgflejdhaaa
