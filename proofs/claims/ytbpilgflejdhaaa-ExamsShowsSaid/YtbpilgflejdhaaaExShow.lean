/- Exams: the walk over Show. -/
import Derived.Test.YtbpilgflejdhaaaExV2
import Derived.Test.YtbpilgflejdhaaaExLaw3
import Derived.Laws.CopyOwn
namespace Go.Proofs.Ytbpilgflejdhaaa
open Go.RowKit

theorem getL_shown (l : List (Int × List Int)) (k : Int) : getL (shownV l) k = (getS l k).map truthV := by
  induction l with
  | nil => rfl
  | cons x l ih =>
    simp only [getL, getS, shownV, List.map_cons, List.find?_cons] at ih ⊢
    cases h : x.1 == k
    · exact ih
    · rfl
theorem list4 {v : List Int} (h : v.length = 4) : ∃ a b c d, v = [a, b, c, d] := by
  match v, h with
  | [a, b, c, d], _ => exact ⟨a, b, c, d, rfl⟩
theorem run_makeInts (n : Nat) (hn : n ≤ 65536) (w : World) :
    (Instr.makeSlice 24 (.int .i64 n) (.int .i64 n)).run Try.prog w = .ok (.slice (some ⟨w.heap.size, 0, none⟩) n n) (w.alloc (.cells (List.replicate n (Value.int .i64 0)).toArray 3)) := by
  have hinfo : (Try.prog.info? 3).map (fun i => (i.zero, i.size, i.bytes)) = some (some (.int .i64 0), 1, 8) := by kernel_rfl
  obtain ⟨i0, hi0, hz0, hz1, hz2⟩ := info_parts hinfo
  have := run_make (P := Try.prog) w 24 3 i0 (.int .i64 0) Try.underlying24 hi0 hz0 .i64 .i64 n n (by omega) (by omega) (by rw [hz2]; omega) (by omega)
  rw [this, hz1]
  have hm : madeCells (Value.cells (.int .i64 0)) ((n : Int).toNat * 1) = (List.replicate n (Value.int .i64 0)).toArray := by
    apply Array.ext'
    simp [madeCells]
    apply List.ext_getElem?
    intro j
    by_cases hj : j < n
    · simp [hj, Value.cells, Nat.mod_one]
    · simp [hj]
  rw [hm]
  rfl

set_option maxHeartbeats 2000000 in
theorem show_err (iA jA gA : Option Addr) (ic jc gc : Nat) (p : Paper) (g c : Int) (w : World) (h : PaperAt w iA jA gA p) (hk : knownE p (wi g 0 p.grades.length) = c) (hc : c ≠ 0) :
    Calls Try.prog 27 #[.agg #[.slice iA p.items.length ic, .slice jA p.judges.length jc, .int .i64 p.wrong, .slice gA p.grades.length gc], .int .i64 g] w fun e w' => e = .returned (.tuple #[.slice none 0 0, .int .i64 c]) ∧ Ext w w' := by
  have HK := Lib.hid (keep4 w (.slice iA p.items.length ic) (.slice jA p.judges.length jc) (.int .i64 p.wrong) (.slice gA p.grades.length gc) 26)
  have HX := Lib.hid ((Ext.of_alloc w (.cells #[.slice iA p.items.length ic, .slice jA p.judges.length jc, .int .i64 p.wrong, .slice gA p.grades.length gc] 26)))
  have HO := Lib.hid (known_err iA jA gA ic jc gc p _ c _ (h.ext HX.out.drew) hk hc)
  have hc0 : (c != 0) = true := by simpa using hc
  clear hk h hc
  go_enter Try.func27, Try.ntmps27
  go_wp2_with fail
  go_region_held3 (fun w' => w'.cell? ⟨w.heap.size, 0, none⟩ = some (.slice iA p.items.length ic) ∧ w'.cell? ⟨w.heap.size, 1, none⟩ = some (.slice jA p.judges.length jc) ∧ w'.cell? ⟨w.heap.size, 2, none⟩ = some (.int .i64 p.wrong) ∧ w'.cell? ⟨w.heap.size, 3, none⟩ = some (.slice gA p.grades.length gc))
    (first | exact HK.out _ (Ext.refl _).drew | exact HK.out _ (Ext.refl _) | exact HK.out _ hE1)
    (first
      | (go_at_call 48; refine (withinE _ _ _ _).mono ?_; rintro e w' ⟨rfl, rfl⟩)
      | (go_at_call 47; refine HO.out.mono ?_; rintro e w1 ⟨rfl, hE1⟩))
  have HE1 := Lib.hid hE1
  clear hE1
  go_wp2
  go_ret2
  exact ⟨rfl, HX.out.drew.trans HE1.out⟩

set_option maxHeartbeats 4000000 in
set_option maxRecDepth 100000 in
theorem show_ok (iA jA gA : Option Addr) (ic jc gc : Nat) (p : Paper) (g c : Int) (l : List Int) (w : World) (h : PaperAt w iA jA gA p) (hk : knownE p (wi g 0 p.grades.length) = 0) (hr : showM p g = (l, c)) :
    Calls Try.prog 27 #[.agg #[.slice iA p.items.length ic, .slice jA p.judges.length jc, .int .i64 p.wrong, .slice gA p.grades.length gc], .int .i64 g] w fun e w' => ∃ A cc, e = .returned (.tuple #[.slice A l.length cc, .int .i64 c]) ∧ Ints w' A l ∧ Ext w w' := by
  have HK := Lib.hid (keep4 w (.slice iA p.items.length ic) (.slice jA p.judges.length jc) (.int .i64 p.wrong) (.slice gA p.grades.length gc) 26)
  have HX := Lib.hid ((Ext.of_alloc w (.cells #[.slice iA p.items.length ic, .slice jA p.judges.length jc, .int .i64 p.wrong, .slice gA p.grades.length gc] 26)))
  have HO := Lib.hid (known_ok iA jA gA ic jc gc p _ _ (h.ext HX.out.drew) hk)
  have hV := valid_of (knownE_ok hk).1
  have hil := hV.il.2
  unfold showM at hr
  rw [if_pos hk] at hr
  have hz : ∀ w', (zeroValue 93).run Try.prog w' = .ok (.agg #[.int .i64 0, .int .i64 0, .int .i64 0, .int .i64 0]) w' := fun w' => by kernel_rfl
  cases hs : getS (openM p).shown g with
  | none =>
    rw [hs] at hr
    injection hr with h1 h2
    subst h1; subst h2
    have hL : getL (shownV (openM p).shown) g = none := by rw [getL_shown, hs]; rfl
    clear hs hk h
    go_enter Try.func27, Try.ntmps27
    go_wp2_with fail
    go_region_held3 (fun w' => w'.cell? ⟨w.heap.size, 0, none⟩ = some (.slice iA p.items.length ic) ∧ w'.cell? ⟨w.heap.size, 1, none⟩ = some (.slice jA p.judges.length jc) ∧ w'.cell? ⟨w.heap.size, 2, none⟩ = some (.int .i64 p.wrong) ∧ w'.cell? ⟨w.heap.size, 3, none⟩ = some (.slice gA p.grades.length gc))
      (first | exact HK.out _ (Ext.refl _).drew | exact HK.out _ (Ext.refl _) | exact HK.out _ hE1)
      (first
        | (go_at_call 48; refine (withinE _ _ _ _).mono ?_; rintro e w' ⟨rfl, rfl⟩)
        | (go_at_call 47; refine HO.out.mono ?_; rintro e w1 ⟨B, M, R, rc, rfl, hS1, hE1⟩))
    have HE1 := Lib.hid hE1
    obtain ⟨c0, c1, c2, c3, c4, c5, c6, c7, c8, c9⟩ := hS1.cell
    have hB := hS1.ltB
    have hlk := run_lookup_not (P := Try.prog) w1 81 3 93 _ Try.underlying81 Try.underlying3 hz M _ hS1.map g hL
    clear hE1 hS1 hL hz
    go_wp2
    go_ret2
    exact ⟨none, ⟨0, rfl⟩, (fun k hk => by simp at hk), (HX.out.drew.trans HE1.out).alloc _⟩
  | some v =>
    rw [hs] at hr
    injection hr with h1 h2
    subst h2
    obtain ⟨t, ht, _, hv⟩ := (open_shown hV g).1 v hs
    have hlt := (isTruth_iff.1 (possible_truth ht)).1
    obtain ⟨a, b, cc, d, hvv⟩ := list4 (v := v) (by rw [hv]; exact padT_len (by omega))
    have hL : getL (shownV (openM p).shown) g = some (.agg #[.int .i64 a, .int .i64 b, .int .i64 cc, .int .i64 d]) := by rw [getL_shown, hs, hvv]; rfl
    obtain ⟨zc, hzc⟩ : ∃ zc, zc = (List.replicate p.items.length (Value.int .i64 0)).toArray := ⟨_, rfl⟩
    have hmk := fun W => run_makeInts p.items.length (by omega) W
    rw [← hzc] at hmk
    have HZl := Lib.hid (show zc.toList.length = p.items.length by rw [hzc]; simp)
    clear hzc
    have hsz1 : (Try.prog.info? 3).map (·.size) = some 1 := by kernel_rfl
    have HL := Lib.hid (show l = [a, b, cc, d].take p.items.length by rw [← h1, hvv])
    have hll : l.length = p.items.length := by rw [HL.out, List.length_take]; simp; omega
    have HLL := Lib.hid hll
    clear hs hk h hv hvv hz h1 hlt hll ht
    go_enter Try.func27, Try.ntmps27
    go_wp2_with fail
    go_region_held3 (fun w' => w'.cell? ⟨w.heap.size, 0, none⟩ = some (.slice iA p.items.length ic) ∧ w'.cell? ⟨w.heap.size, 1, none⟩ = some (.slice jA p.judges.length jc) ∧ w'.cell? ⟨w.heap.size, 2, none⟩ = some (.int .i64 p.wrong) ∧ w'.cell? ⟨w.heap.size, 3, none⟩ = some (.slice gA p.grades.length gc))
      (first | exact HK.out _ (Ext.refl _).drew | exact HK.out _ (Ext.refl _) | exact HK.out _ hE1)
      (first
        | (go_at_call 48; refine (withinE _ _ _ _).mono ?_; rintro e w' ⟨rfl, rfl⟩)
        | (go_at_call 47; refine HO.out.mono ?_; rintro e w1 ⟨B, M, R, rc, rfl, hS1, hE1⟩))
    have HE1 := Lib.hid hE1
    obtain ⟨c0, c1, c2, c3, c4, c5, c6, c7, c8, c9⟩ := hS1.cell
    have hB := hS1.ltB
    have hlk := run_lookup_ok (P := Try.prog) w1 81 3 93 Try.underlying81 Try.underlying3 M _ hS1.map g _ hL
    have HE2 := Lib.hid (HE1.out.alloc (.cells #[.int .i64 a, .int .i64 b, .int .i64 cc, .int .i64 d] 93))
    obtain ⟨k0, k1, k2, k3⟩ := HK.out _ HE2.out
    have HB2 := Lib.hid (Blk.new w1 93 #[.int .i64 a, .int .i64 b, .int .i64 cc, .int .i64 d])
    clear hE1 hS1 hL
    have HSrc := Lib.hid (show ∀ j u, (([Value.int .i64 a, .int .i64 b, .int .i64 cc, .int .i64 d]).take p.items.length)[j]? = some u → ((w1.alloc (.cells #[.int .i64 a, .int .i64 b, .int .i64 cc, .int .i64 d] 93)).alloc (.cells zc 3)).cell? ((⟨w1.heap.size, 0, none⟩ : Addr).add j) = some u from fun j u hu => by
      refine (HB2.out.alloc (.cells zc 3)).news (cs := [Value.int .i64 a, .int .i64 b, .int .i64 cc, .int .i64 d]) j u ?_
      rw [List.getElem?_take] at hu
      split at hu
      · exact hu
      · cases hu)
    have HDst := Lib.hid (show ((w1.alloc (.cells #[.int .i64 a, .int .i64 b, .int .i64 cc, .int .i64 d] 93)).alloc (.cells zc 3)).heap[w1.heap.size + 1]? = some (.cells zc.toList.toArray 3 (0, 0)) from by
      have := blk_second w1 (.cells #[.int .i64 a, .int .i64 b, .int .i64 cc, .int .i64 d] 93) zc 3
      simpa [Blk] using this)
    have HCl := Lib.hid (show (([Value.int .i64 a, .int .i64 b, .int .i64 cc, .int .i64 d]).take p.items.length).length = Nat.min 4 p.items.length by simp [Nat.min_comm])
    have HCl2 := Lib.hid (show (([Value.int .i64 a, .int .i64 b, .int .i64 cc, .int .i64 d]).take p.items.length).length = p.items.length by simp; omega)
    have HOne := Lib.hid (show ∀ v ∈ ([Value.int .i64 a, .int .i64 b, .int .i64 cc, .int .i64 d]).take p.items.length, v.oneCell' = true from fun v hv => by
      have := List.mem_of_mem_take hv
      simp at this
      rcases this with rfl | rfl | rfl | rfl <;> rfl)
    have HEe := Lib.hid (show Below w1.heap.size w1 ((w1.alloc (.cells #[.int .i64 a, .int .i64 b, .int .i64 cc, .int .i64 d] 93)).alloc (.cells zc 3)) from (Ext.of_alloc _ _).alloc _)
    go_wp2_with (refine wpList_copy_splice (by rfl) (.tmp 39) (.tmp 40) 24 24 (by rfl) 3 Try.underlying24 hsz1 (some ⟨w1.heap.size + 1, 0, none⟩) (some ⟨w1.heap.size, 0, none⟩) p.items.length p.items.length 4 4 (by rfl) (by rfl) (w1.heap.size + 1) 0 zc.toList 3 HDst.out (([Value.int .i64 a, .int .i64 b, .int .i64 cc, .int .i64 d]).take p.items.length) HCl.out (fun _ => ⟨rfl, _, rfl, HSrc.out⟩) (by have := HCl2.out; have := HZl.out; omega) HOne.out w1.heap.size w1 HEe.out (by omega) ?_; intro w6 hh6 hb6)
    have Hb6 := Lib.hid hb6
    clear hb6
    go_ret2
    have hblk := hh6.out
    have hspl : splice zc.toList 0 (([Value.int .i64 a, .int .i64 b, .int .i64 cc, .int .i64 d]).take p.items.length) = ([Value.int .i64 a, .int .i64 b, .int .i64 cc, .int .i64 d]).take p.items.length := by
      unfold splice
      rw [List.take_zero, List.nil_append, Nat.zero_add, List.drop_eq_nil_of_le (by have := HCl2.out; have := HZl.out; omega), List.append_nil]
    rw [hspl] at hblk
    have hblk : Blk w6 (w1.heap.size + 1) 3 (([Value.int .i64 a, .int .i64 b, .int .i64 cc, .int .i64 d]).take p.items.length).toArray := hblk
    refine ⟨some ⟨w1.heap.size + 1, 0, none⟩, ⟨p.items.length, by rw [HLL.out]; rfl⟩, fun k hk => ⟨w1.heap.size + 1, 0, rfl, hblk.lt, ?_⟩, HX.out.drew.trans (HE1.out.trans Hb6.out)⟩
    rw [hblk.cell, Nat.zero_add, HL.out]
    rw [HLL.out] at hk
    have hk4 : k < 4 := by omega
    simp only [List.getElem?_toArray, List.getElem?_take, if_pos hk, List.getD]
    rcases (show k = 0 ∨ k = 1 ∨ k = 2 ∨ k = 3 by omega) with rfl | rfl | rfl | rfl <;> rfl
end Go.Proofs.Ytbpilgflejdhaaa
