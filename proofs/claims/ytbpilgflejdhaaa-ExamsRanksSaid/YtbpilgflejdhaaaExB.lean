/- Exams: IsTruth, IsRight, Result. -/
import Derived.Test.YtbpilgflejdhaaaExA
namespace Go.Proofs.Ytbpilgflejdhaaa
open Go.RowKit

theorem ItemsAt.get {w : World} {A : Option Addr} {l : List Item} (h : ItemsAt w A l) {k : Nat} (hk : k < l.length) :
    ∃ b off x y, A = some ⟨b, off, none⟩ ∧ b < w.heap.size ∧ w.cell? ⟨b, off + k * 2, none⟩ = some (.int .i64 x) ∧ w.cell? ⟨b, off + k * 2 + 1, none⟩ = some (.int .i64 y) ∧ Hid ((l.getD k default).weight = x) ∧ Hid ((l.getD k default).most = y) := by
  obtain ⟨b, off, h1, h2, h3, h4⟩ := h k hk
  exact ⟨b, off, _, _, h1, h2, h3, h4, rfl, rfl⟩

set_option maxHeartbeats 400000 in
theorem isTruth_any (iA jA gA tA : Option Addr) (ic jc gc tc jn gn : Nat) (wr : Int) (p : Paper) (t : List Int) (w : World) (h : ItemsAt w iA p.items) (hil : p.items.length ≤ 9223372036854775807) (ht : Ints w tA t) (htl : t.length ≤ 9223372036854775807) :
    Calls Try.prog 25 #[.agg #[.slice iA p.items.length ic, .slice jA jn jc, .int .i64 wr, .slice gA gn gc], .slice tA t.length tc] w fun e w' => e = .returned (.bool (isTruth p t)) ∧ Ext w w' := by
  generalize hG : p.items = L at *
  have HG := Lib.hid hG
  clear hG
  go_enter Try.func25, Try.ntmps25
  go_wp2
  go_loopw [5] (fun i wr' => ∃ k : Nat, k ≤ t.length ∧ k ≤ L.length ∧ i = .int .i64 k ∧ Ext (w.alloc (.cells #[.slice iA L.length ic, .slice jA jn jc, .int .i64 wr, .slice gA gn gc] 26)) wr' ∧ allTo (fun i => wi (t.getD i 0) 0 (L.getD i default).most) k) (fun i _ => t.length - (intOf i).toNat)
  case atStart => exact ⟨0, by omega, by omega, rfl, Ext.refl _, allTo_zero _⟩
  case round =>
    rename_i wr'
    obtain ⟨k, hk, hkL, rfl, hE, hs⟩ := hrel
    have HS := Lib.hid hs
    have HE := Lib.hid hE
    have hbox := hE.box
    have htr := ht.ext hE.unalloc
    have hir := h.ext hE.unalloc
    clear hs hE ht h
    by_cases hlt : k < t.length
    · by_cases hlL : k < L.length
      · obtain ⟨b, off, x, rfl, hb, hc, hx⟩ := htr.get hlt
        obtain ⟨b', off', y, z, rfl, hb', hc1, hc2, hy, hz⟩ := hir.get hlL
        cases hw : wi x 0 z
        · have HW := Lib.hid (show wi (t.getD k 0) 0 (L.getD k default).most = false by rw [hx.out, hz.out]; exact hw)
          go_wp2
          go_quiet ((go_at_call 52; exact Calls.quiet_of_same (withinR _ _ _ _)))
          go_wp2
          go_ret
          exact ⟨ret_bool (by unfold isTruth; rw [HG.out]; by_cases hl : t.length = L.length
                              · rw [range_all_false hlt HW.out]; simp
                              · simp [hl]), HE.out.unalloc.drewN _⟩
        · have HW := Lib.hid (show wi (t.getD k 0) 0 (L.getD k default).most = true by rw [hx.out, hz.out]; exact hw)
          go_wp2
          go_quiet ((go_at_call 52; exact Calls.quiet_of_same (withinR _ _ _ _)))
          go_wp2
          go_roundw
          case rel => exact ⟨k + 1, by omega, by omega, by go_num, HE.out.drewN _, allTo_succ HS.out HW.out⟩
          case measure => simp [intOf]; omega
      · go_wp2
        go_ret
        exact ⟨ret_bool (by unfold isTruth; rw [HG.out]; have : ¬ t.length = L.length := by omega
                            simp [this]; omega), HE.out.unalloc⟩
    · go_wp2
      go_ret
      exact ⟨ret_bool (by
        unfold isTruth; rw [HG.out]
        rw [range_all.2 (show allTo _ t.length from fun j hj => HS.out j (by omega))]
        simp only [Bool.and_true]
        rw [Bool.eq_iff_iff]; simp; omega), HE.out.unalloc⟩
end Go.Proofs.Ytbpilgflejdhaaa
