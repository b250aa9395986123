/- Exams: the walk over Example. -/
import Derived.Test.YtbpilgflejdhaaaExX
import Derived.Test.YtbpilgflejdhaaaExEx
namespace Go.Proofs.Ytbpilgflejdhaaa
open Go.RowKit
set_option maxHeartbeats 2000000 in
theorem example_any (w : World) :
    Calls Try.prog 46 #[] w fun e w' => ∃ iA jA gA ic jc gc, e = .returned (.agg #[.slice iA exP.items.length ic, .slice jA exP.judges.length jc, .int .i64 exP.wrong, .slice gA exP.grades.length gc]) ∧ PaperAt w' iA jA gA exP ∧ Ext w w' := by
  go_enter Try.func46, Try.ntmps46
  go_wp2_with fail
  refine (spanL_any _ _ _).mono ?_
  rintro e w1 ⟨rfl, hE1⟩
  have HE1 := Lib.hid hE1
  have hlt := hE1.unalloc.unalloc.lt
  have h0 : ∀ i, w1.cell? ⟨w.heap.size, i, none⟩ = #[Value.slice none 0 0, Value.slice none 0 0, Value.int IntKind.i64 0, Value.slice none 0 0][i]? := hE1.unalloc.unalloc.box
  have f0 : ∀ i, w1.frozen? ⟨w.heap.size, i, none⟩ = false := hE1.unalloc.unalloc.boxFree
  clear hE1
  go_wp2_with fail
  refine (spanL_any _ _ _).mono ?_
  rintro e w2 ⟨rfl, hE2⟩
  have HE2 := Lib.hid hE2
  have hlt2 : w.heap.size < w2.heap.size := Nat.lt_of_lt_of_le hlt hE2.unalloc.size
  have h0' : ∀ i, w2.cell? ⟨w.heap.size, i, none⟩ = #[Value.slice none 0 0, Value.slice none 0 0, Value.int IntKind.i64 0, Value.slice none 0 0][i]? := fun i => (hE2.unalloc.cellOf (p := ⟨_, _, none⟩) hlt).trans (h0 i)
  have f0' : ∀ i, w2.frozen? ⟨w.heap.size, i, none⟩ = false := fun i => (Below.frozen hE2.unalloc (p := ⟨_, _, none⟩) hlt).trans (f0 i)
  have q0 : w2.cell? ⟨w.heap.size, 0, none⟩ = some (.slice none 0 0) := h0' 0
  have q1 : w2.cell? ⟨w.heap.size, 1, none⟩ = some (.slice none 0 0) := h0' 1
  have q2 : w2.cell? ⟨w.heap.size, 2, none⟩ = some (.int .i64 0) := h0' 2
  have q3 : w2.cell? ⟨w.heap.size, 3, none⟩ = some (.slice none 0 0) := h0' 3
  have hEW : Ext w2 ((((w2.alloc (.cells #[.int .i64 6, .int .i64 13] 3)).alloc (.cells #[.int .i64 3, .int .i64 14] 3)).alloc (.cells #[.int .i64 0, .int .i64 1, .int .i64 1, .slice (some ⟨w1.heap.size, 0, none⟩) 2 2, .int .i64 (-1), .int .i64 0, .int .i64 0, .slice (some ⟨w2.heap.size, 0, none⟩) 2 2, .int .i64 0, .int .i64 0, .int .i64 1, .slice (some ⟨w2.heap.size + 1, 0, none⟩) 2 2] 37))) := ((Ext.of_alloc _ _).alloc _).alloc _
  have p0 := (hEW.cellOf (p := ⟨w.heap.size, 0, none⟩) hlt2).trans q0
  have p1 := (hEW.cellOf (p := ⟨w.heap.size, 1, none⟩) hlt2).trans q1
  have p2 := (hEW.cellOf (p := ⟨w.heap.size, 2, none⟩) hlt2).trans q2
  have p3 := (hEW.cellOf (p := ⟨w.heap.size, 3, none⟩) hlt2).trans q3
  have g0 := (Below.frozen hEW (p := ⟨w.heap.size, 0, none⟩) hlt2).trans (f0' 0)
  have g1 := (Below.frozen hEW (p := ⟨w.heap.size, 1, none⟩) hlt2).trans (f0' 1)
  have g2 := (Below.frozen hEW (p := ⟨w.heap.size, 2, none⟩) hlt2).trans (f0' 2)
  have g3 := (Below.frozen hEW (p := ⟨w.heap.size, 3, none⟩) hlt2).trans (f0' 3)
  clear hE2 h0 f0 h0' hEW q0 q1 q2 q3 f0'
  go_wp2
  have n1 : w.heap.size + 1 + 1 < w1.heap.size := by have := HE1.out.lt; simpa using this
  have n2 : w1.heap.size < w2.heap.size := HE2.out.lt
  have k0 := (((((((Blk.new w 26 #[.slice none 0 0, .slice none 0 0, .int .i64 0, .slice none 0 0]).ext HE1.out.unalloc.unalloc).ext HE2.out.unalloc).alloc (.cells #[.int .i64 6, .int .i64 13] 3)).alloc (.cells #[.int .i64 3, .int .i64 14] 3)).alloc (.cells #[.int .i64 0, .int .i64 1, .int .i64 1, .slice (some ⟨w1.heap.size, 0, none⟩) 2 2, .int .i64 (-1), .int .i64 0, .int .i64 0, .slice (some ⟨w2.heap.size, 0, none⟩) 2 2, .int .i64 0, .int .i64 0, .int .i64 1, .slice (some ⟨w2.heap.size + 1, 0, none⟩) 2 2] 37)))
  have k1 : Blk w2 (w.heap.size + 1) 90 #[.int .i64 2, .int .i64 10, .int .i64 1, .int .i64 20] := ((blk_second w (.cells #[.slice none 0 0, .slice none 0 0, .int .i64 0, .slice none 0 0] 26) #[.int .i64 2, .int .i64 10, .int .i64 1, .int .i64 20] 90).ext HE1.out.unalloc).ext HE2.out.unalloc
  have k2 : Blk w2 (w.heap.size + 1 + 1) 3 #[.int .i64 20, .int .i64 30] := by
    have := blk_second (w.alloc (.cells #[.slice none 0 0, .slice none 0 0, .int .i64 0, .slice none 0 0] 26)) (.cells #[.int .i64 2, .int .i64 10, .int .i64 1, .int .i64 20] 90) #[.int .i64 20, .int .i64 30] 3
    exact (by simpa using this : Blk _ _ _ _).ext HE1.out |>.ext HE2.out.unalloc
  have k3 : Blk w2 w1.heap.size 3 #[.int .i64 7, .int .i64 15] := (Blk.new w1 3 #[.int .i64 7, .int .i64 15]).ext HE2.out
  have k4 := ((Blk.new w2 3 #[.int .i64 6, .int .i64 13]).alloc (.cells #[.int .i64 3, .int .i64 14] 3)).alloc (.cells #[.int .i64 0, .int .i64 1, .int .i64 1, .slice (some ⟨w1.heap.size, 0, none⟩) 2 2, .int .i64 (-1), .int .i64 0, .int .i64 0, .slice (some ⟨w2.heap.size, 0, none⟩) 2 2, .int .i64 0, .int .i64 0, .int .i64 1, .slice (some ⟨w2.heap.size + 1, 0, none⟩) 2 2] 37)
  have k5 := (blk_second w2 (.cells #[.int .i64 6, .int .i64 13] 3) #[.int .i64 3, .int .i64 14] 3).alloc (.cells #[.int .i64 0, .int .i64 1, .int .i64 1, .slice (some ⟨w1.heap.size, 0, none⟩) 2 2, .int .i64 (-1), .int .i64 0, .int .i64 0, .slice (some ⟨w2.heap.size, 0, none⟩) 2 2, .int .i64 0, .int .i64 0, .int .i64 1, .slice (some ⟨w2.heap.size + 1, 0, none⟩) 2 2] 37)
  have k6 := blk_second (w2.alloc (.cells #[.int .i64 6, .int .i64 13] 3)) (.cells #[.int .i64 3, .int .i64 14] 3) #[.int .i64 0, .int .i64 1, .int .i64 1, .slice (some ⟨w1.heap.size, 0, none⟩) 2 2, .int .i64 (-1), .int .i64 0, .int .i64 0, .slice (some ⟨w2.heap.size, 0, none⟩) 2 2, .int .i64 0, .int .i64 0, .int .i64 1, .slice (some ⟨w2.heap.size + 1, 0, none⟩) 2 2] 37
  have hAl : Ext w2 (((w2.alloc (.cells #[.int .i64 6, .int .i64 13] 3)).alloc (.cells #[.int .i64 3, .int .i64 14] 3)).alloc (.cells #[.int .i64 0, .int .i64 1, .int .i64 1, .slice (some ⟨w1.heap.size, 0, none⟩) 2 2, .int .i64 (-1), .int .i64 0, .int .i64 0, .slice (some ⟨w2.heap.size, 0, none⟩) 2 2, .int .i64 0, .int .i64 0, .int .i64 1, .slice (some ⟨w2.heap.size + 1, 0, none⟩) 2 2] 37)) := ((Ext.of_alloc _ _).alloc _).alloc _
  rw [show (w2.alloc (.cells #[.int .i64 6, .int .i64 13] 3)).heap.size = w2.heap.size + 1 by simp] at k6
  have k1 := k1.ext hAl
  have k2 := k2.ext hAl
  have k3 := k3.ext hAl
  generalize (((w2.alloc (.cells #[.int .i64 6, .int .i64 13] 3)).alloc (.cells #[.int .i64 3, .int .i64 14] 3)).alloc (.cells #[.int .i64 0, .int .i64 1, .int .i64 1, .slice (some ⟨w1.heap.size, 0, none⟩) 2 2, .int .i64 (-1), .int .i64 0, .int .i64 0, .slice (some ⟨w2.heap.size, 0, none⟩) 2 2, .int .i64 0, .int .i64 0, .int .i64 1, .slice (some ⟨w2.heap.size + 1, 0, none⟩) 2 2] 37)) = w3 at *
  have r0 := (((k0.set 0 (.slice (some ⟨w.heap.size + 1, 0, none⟩) 2 2)).set 1 (.slice (some ⟨w2.heap.size + 1 + 1, 0, none⟩) 3 3)).set 2 (.int .i64 1)).set 3 (.slice (some ⟨w.heap.size + 1 + 1, 0, none⟩) 2 2)
  have hfar : ∀ g T cs, Blk w3 g T cs → g ≠ w.heap.size → Blk ((((w3.setCell ⟨w.heap.size, 0, none⟩ (.slice (some ⟨w.heap.size + 1, 0, none⟩) 2 2)).setCell ⟨w.heap.size, 1, none⟩ (.slice (some ⟨w2.heap.size + 1 + 1, 0, none⟩) 3 3)).setCell ⟨w.heap.size, 2, none⟩ (.int .i64 1)).setCell ⟨w.heap.size, 3, none⟩ (.slice (some ⟨w.heap.size + 1 + 1, 0, none⟩) 2 2)) g T cs :=
    fun g T cs hb hg => (((hb.far (p := ⟨_, _, none⟩) hg _).far (p := ⟨_, _, none⟩) hg _).far (p := ⟨_, _, none⟩) hg _).far (p := ⟨_, _, none⟩) hg _
  have k1 := hfar _ _ _ k1 (by omega)
  have k2 := hfar _ _ _ k2 (by omega)
  have k3 := hfar _ _ _ k3 (by omega)
  have k4 := hfar _ _ _ k4 (by omega)
  have k5 := hfar _ _ _ k5 (by omega)
  have k6 := hfar _ _ _ k6 (by omega)
  have hE3 : Ext w ((((w3.setCell ⟨w.heap.size, 0, none⟩ (.slice (some ⟨w.heap.size + 1, 0, none⟩) 2 2)).setCell ⟨w.heap.size, 1, none⟩ (.slice (some ⟨w2.heap.size + 1 + 1, 0, none⟩) 3 3)).setCell ⟨w.heap.size, 2, none⟩ (.int .i64 1)).setCell ⟨w.heap.size, 3, none⟩ (.slice (some ⟨w.heap.size + 1 + 1, 0, none⟩) 2 2)) :=
    ((((HE1.out.unalloc.unalloc.unalloc.trans (HE2.out.unalloc.trans hAl)).setCell (p := ⟨_, _, none⟩) (Nat.le_refl _) _).setCell (p := ⟨_, _, none⟩) (Nat.le_refl _) _).setCell (p := ⟨_, _, none⟩) (Nat.le_refl _) _).setCell (p := ⟨_, _, none⟩) (Nat.le_refl _) _
  generalize ((((w3.setCell ⟨w.heap.size, 0, none⟩ (.slice (some ⟨w.heap.size + 1, 0, none⟩) 2 2)).setCell ⟨w.heap.size, 1, none⟩ (.slice (some ⟨w2.heap.size + 1 + 1, 0, none⟩) 3 3)).setCell ⟨w.heap.size, 2, none⟩ (.int .i64 1)).setCell ⟨w.heap.size, 3, none⟩ (.slice (some ⟨w.heap.size + 1 + 1, 0, none⟩) 2 2)) = w4 at *
  have c0 : w4.cell? ⟨w.heap.size, 0, none⟩ = some (.slice (some ⟨w.heap.size + 1, 0, none⟩) 2 2) := r0.cell 0
  have c1 : w4.cell? ⟨w.heap.size, 1, none⟩ = some (.slice (some ⟨w2.heap.size + 1 + 1, 0, none⟩) 3 3) := r0.cell 1
  have c2 : w4.cell? ⟨w.heap.size, 2, none⟩ = some (.int .i64 1) := r0.cell 2
  have c3 : w4.cell? ⟨w.heap.size, 3, none⟩ = some (.slice (some ⟨w.heap.size + 1 + 1, 0, none⟩) 2 2) := r0.cell 3
  have hI : ∀ b x y, Blk w4 b 3 #[.int .i64 x, .int .i64 y] → Ints w4 (some ⟨b, 0, none⟩) [x, y] := fun b x y hb k hk => by
    rcases (show k = 0 ∨ k = 1 by simp at hk; omega) with rfl | rfl
    · exact ⟨b, 0, rfl, hb.lt, hb.cell _⟩
    · exact ⟨b, 0, rfl, hb.lt, hb.cell _⟩
  refine bodyPost_ret (v := .agg #[.slice (some ⟨w.heap.size + 1, 0, none⟩) 2 2, .slice (some ⟨w2.heap.size + 1 + 1, 0, none⟩) 3 3, .int .i64 1, .slice (some ⟨w.heap.size + 1 + 1, 0, none⟩) 2 2]) (by simp [results, Try.results46, go_sem, c0, c1, c2, c3]) rfl ⟨_, _, _, _, _, _, rfl, ⟨?_, ?_, hI _ _ _ k2, by simp [exP], by simp [exP], by simp [exP]⟩, hE3⟩
  · intro k hk
    rcases (show k = 0 ∨ k = 1 by simp [exP] at hk; omega) with rfl | rfl
    · exact ⟨_, 0, rfl, k1.lt, k1.cell _, k1.cell _⟩
    · exact ⟨_, 0, rfl, k1.lt, k1.cell _, k1.cell _⟩
  · intro k hk
    rcases (show k = 0 ∨ k = 1 ∨ k = 2 by simp [exP] at hk; omega) with rfl | rfl | rfl
    · exact ⟨_, 0, rfl, k6.lt, k6.cell _, k6.cell _, k6.cell _, _, _, k6.cell _, hI _ _ _ k3, by decide⟩
    · exact ⟨_, 0, rfl, k6.lt, k6.cell _, k6.cell _, k6.cell _, _, _, k6.cell _, hI _ _ _ k4, by decide⟩
    · exact ⟨_, 0, rfl, k6.lt, k6.cell _, k6.cell _, k6.cell _, _, _, k6.cell _, hI _ _ _ k5, by decide⟩
end Go.Proofs.Ytbpilgflejdhaaa
