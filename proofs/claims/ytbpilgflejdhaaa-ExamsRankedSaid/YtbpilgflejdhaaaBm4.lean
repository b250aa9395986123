/- Exams: the program's Check, whole. / Exams: none, add, width, the survey's grade. / Exams: slices.Clone of spans; what a survey is, and how it lies in memory. / Maps with int keys, as lists of pairs: what a store and a look-up do. -/
import Derived.Test.YtbpilgflejdhaaaBm3
import Derived.Laws.EntriesVeiled
import Derived.StillTailTactics
import Derived.BigRegion
import Derived.Test.YtbpilgflejdhaaaBm1
import Derived.Maps.Own

namespace Go.Proofs.Ytbpilgflejdhaaa
open Go.RowKit

/-- What Check returns, in the program's order. -/
theorem checkE_order {p : Paper} (h : (wi p.items.length 1 4 = false ∨ p.items.all itemOk = false ∨ 4 < p.judges.length ∨ p.judges.all (judgeOk p.items.length) = false ∨ wi p.wrong 0 2 = false ∨ 5 < p.grades.length ∨ gradesOk p.grades = false)) : checkE p = 90 := by
  unfold checkE validB headOk
  rcases h with h | h | h | h | h | h | h
  · simp [h]
  · simp [h]
  · simp [show ¬ p.judges.length ≤ 4 by omega]
  · simp [h]
  · simp [h]
  · simp [show ¬ p.grades.length ≤ 5 by omega]
  · simp [h]
theorem checkE_all {p : Paper} (h1 : wi p.items.length 1 4 = true) (h2 : p.items.all itemOk = true) (h3 : p.judges.length ≤ 4) (h4 : p.judges.all (judgeOk p.items.length) = true) (h5 : wi p.wrong 0 2 = true) (h6 : p.grades.length ≤ 5) (h7 : gradesOk p.grades = true) : checkE p = 0 := by
  unfold checkE validB headOk
  simp only [h1, h2, h4, h5, h7, Bool.and_true, Bool.true_and]
  simp [h3, h6]

theorem everyItem (A : Option Addr) (c : Nat) (l : List Item) (w : World) (h : ItemsAt w A l) (hl : l.length ≤ 9223372036854775807) :
    Calls Try.prog 63 #[.slice A l.length c, .func (.func 58) #[] #[]] w fun e w' => e = .returned (.bool (l.all itemOk)) ∧ Ext w w' := by
  refine (every_item A l.length c 58 #[] (fun k => .int .i64 (l.getD k default).weight) (fun k => .int .i64 (l.getD k default).most) (fun k => itemOk (l.getD k default)) (fun _ w' => Ext w w') none w hl (Ext.refl w) (fun _ _ _ h k => Ext.trans h k) (fun g hg => by cases hg) (fun args w' => by kernel_rfl)
    (fun k w' hk h' => ?_) (fun k w' hk _ h' => ?_)).mono ?_
  · obtain ⟨b, off, h1, h2, h3, h4⟩ := (h.ext h') k hk
    exact ⟨b, off, h1, h3, h4⟩
  · exact (itemFn (l.getD k default).weight (l.getD k default).most w').mono fun e w'' ⟨he, hE⟩ => ⟨he, Ext.trans h' hE, hE.grown none⟩
  · rintro e w' ⟨m, hE, ⟨k, hk, hq, rfl⟩ | ⟨hq, rfl⟩⟩
    · exact ⟨ret_bool (all_getD_false (d := default) hk hq).symm, hE⟩
    · exact ⟨ret_bool ((all_getD l default itemOk).2 hq).symm, hE⟩

theorem everyJudge (iA A : Option Addr) (ic n c pb mb : Nat) (l : List Judge) (w : World) (h : JudgesAt w A l) (hl : l.length ≤ 9223372036854775807) (hn : n ≤ 4) (hc1 : w.cell? ⟨pb, 0, none⟩ = some (.slice iA n ic)) (hc2 : w.cell? ⟨mb, 0, none⟩ = some (.func (.func 59) #[] #[]))
    (h1 : pb < w.heap.size) (h2 : mb < w.heap.size) :
    Calls Try.prog 64 #[.slice A l.length c, .func (.func 60) #[] #[.pointer (some ⟨pb, 0, none⟩), .pointer (some ⟨mb, 0, none⟩)]] w fun e w' => e = .returned (.bool (l.all (judgeOk n))) ∧ Ext w w' := by
  have hch : ∀ k, ∃ mA mc, ∀ w', k < l.length → Ext w w' → ∃ b off, A = some ⟨b, off, none⟩ ∧ w'.cell? ⟨b, off + k * 4, none⟩ = some (.int .i64 (l.getD k default).lo) ∧ w'.cell? ⟨b, off + k * 4 + 1, none⟩ = some (.int .i64 (l.getD k default).hi) ∧
      w'.cell? ⟨b, off + k * 4 + 2, none⟩ = some (.int .i64 (l.getD k default).err) ∧ w'.cell? ⟨b, off + k * 4 + 3, none⟩ = some (.slice mA (l.getD k default).marks.length mc) ∧ Ints w' mA (l.getD k default).marks ∧ (l.getD k default).marks.length ≤ 9223372036854775807 := by
    intro k
    by_cases hk : k < l.length
    · obtain ⟨b, off, hA, hb, q1, q2, q3, mA, mc, q4, q5, q6⟩ := h k hk
      refine ⟨mA, mc, fun w' _ hE => ⟨b, off, hA, ?_, ?_, ?_, ?_, q5.ext hE, q6⟩⟩
      · exact (hE.cellOf (p := ⟨b, _, none⟩) hb).trans q1
      · exact (hE.cellOf (p := ⟨b, _, none⟩) hb).trans q2
      · exact (hE.cellOf (p := ⟨b, _, none⟩) hb).trans q3
      · exact (hE.cellOf (p := ⟨b, _, none⟩) hb).trans q4
    · exact ⟨none, 0, fun w' h => absurd h hk⟩
  have hch2 : ∃ (mA : Nat → Option Addr) (mc : Nat → Nat), ∀ k w', k < l.length → Ext w w' → ∃ b off, A = some ⟨b, off, none⟩ ∧ w'.cell? ⟨b, off + k * 4, none⟩ = some (.int .i64 (l.getD k default).lo) ∧ w'.cell? ⟨b, off + k * 4 + 1, none⟩ = some (.int .i64 (l.getD k default).hi) ∧
      w'.cell? ⟨b, off + k * 4 + 2, none⟩ = some (.int .i64 (l.getD k default).err) ∧ w'.cell? ⟨b, off + k * 4 + 3, none⟩ = some (.slice (mA k) (l.getD k default).marks.length (mc k)) ∧ Ints w' (mA k) (l.getD k default).marks ∧ (l.getD k default).marks.length ≤ 9223372036854775807 :=
    ⟨fun k => (hch k).choose, fun k => (hch k).choose_spec.choose, fun k w' hk hE => (hch k).choose_spec.choose_spec w' hk hE⟩
  obtain ⟨mA, mc, hj⟩ := hch2
  refine (every_judge A l.length c 60 #[.pointer (some ⟨pb, 0, none⟩), .pointer (some ⟨mb, 0, none⟩)] (fun k => .int .i64 (l.getD k default).lo) (fun k => .int .i64 (l.getD k default).hi) (fun k => .int .i64 (l.getD k default).err) (fun k => .slice (mA k) (l.getD k default).marks.length (mc k)) (fun k => judgeOk n (l.getD k default)) (fun _ w' => Ext w w') none w hl (Ext.refl w) (fun _ _ _ h k => Ext.trans h k) (fun g hg => by cases hg) (fun args w' => by kernel_rfl)
    (fun k w' hk h' => ?_) (fun k w' hk _ h' => ?_)).mono ?_
  · obtain ⟨b, off, q1, q2, q3, q4, q5, _⟩ := hj k w' hk h'
    exact ⟨b, off, q1, q2, q3, q4, q5⟩
  · obtain ⟨b, off, q1, q2, q3, q4, q5, q6, q7⟩ := hj k w' hk h'
    exact (judgeFn iA (mA k) ic n (mc k) pb mb _ _ _ _ w' hn q6 q7 ((h'.cellOf (p := ⟨pb, 0, none⟩) h1).trans hc1) ((h'.cellOf (p := ⟨mb, 0, none⟩) h2).trans hc2) (Nat.lt_of_lt_of_le h1 h'.size) (Nat.lt_of_lt_of_le h2 h'.size)).mono fun e w'' ⟨he, hE⟩ => ⟨he, Ext.trans h' hE, hE.grown none⟩
  · rintro e w' ⟨m, hE, ⟨k, hk, hq, rfl⟩ | ⟨hq, rfl⟩⟩
    · exact ⟨ret_bool (all_getD_false (d := default) hk hq).symm, hE⟩
    · exact ⟨ret_bool ((all_getD l default (judgeOk n)).2 hq).symm, hE⟩

theorem boxes3 {w W : World} {cs : Array Value} {x y : Value} {T1 T2 T3 : TypeId} (h : Ext (((w.alloc (.cells cs T1)).alloc (.cells #[x] T2)).alloc (.cells #[y] T3)) W) :
    (∀ i, W.cell? ⟨w.heap.size, i, none⟩ = cs[i]?) ∧ W.cell? ⟨w.heap.size + 1, 0, none⟩ = some x ∧ W.cell? ⟨w.heap.size + 2, 0, none⟩ = some y ∧ W.frozen? ⟨w.heap.size + 2, 0, none⟩ = false ∧ w.heap.size + 2 < W.heap.size := by
  refine ⟨fun i => h.unalloc.unalloc.box i, ?_, ?_, ?_, ?_⟩
  · have := h.unalloc.box 0; simpa using this
  · have := h.box 0; simpa using this
  · have := h.boxFree 0; simpa using this
  · have := h.lt; simpa using this

set_option maxHeartbeats 4000000 in
theorem checkP_any (iA jA gA : Option Addr) (ic jc gc : Nat) (p : Paper) (w : World) (h : PaperAt w iA jA gA p) :
    Calls Try.prog 39 #[.agg #[.slice iA p.items.length ic, .slice jA p.judges.length jc, .int .i64 p.wrong, .slice gA p.grades.length gc]] w fun e w' => e = .returned (.int .i64 (checkE p)) ∧ Ext w w' := by
  have hEx : Ext w (((w.alloc (.cells #[.slice iA p.items.length ic, .slice jA p.judges.length jc, .int .i64 p.wrong, .slice gA p.grades.length gc] 26)).alloc (.cells #[.func (.func 59) #[] #[]] 100)).alloc (.cells #[.int .i64 (-1)] 3)) := ((Ext.of_alloc _ _).alloc _).alloc _
  have HEx := Lib.hid hEx
  have HBX := Lib.hid (fun W (hW : Ext (((w.alloc (.cells #[.slice iA p.items.length ic, .slice jA p.judges.length jc, .int .i64 p.wrong, .slice gA p.grades.length gc] 26)).alloc (.cells #[.func (.func 59) #[] #[]] 100)).alloc (.cells #[.int .i64 (-1)] 3)) W) => boxes3 hW)
  have HO := Lib.hid (checkE_order (p := p))
  have HA := Lib.hid (checkE_all (p := p))
  have hil := h.il
  have hjl := h.jl
  have hgl := h.gl
  have C1 := everyItem iA ic p.items (((w.alloc (.cells #[.slice iA p.items.length ic, .slice jA p.judges.length jc, .int .i64 p.wrong, .slice gA p.grades.length gc] 26)).alloc (.cells #[.func (.func 59) #[] #[]] 100)).alloc (.cells #[.int .i64 (-1)] 3)) (h.items.ext hEx) h.il
  have C2 : p.items.length ≤ 4 → ∀ W, Ext (((w.alloc (.cells #[.slice iA p.items.length ic, .slice jA p.judges.length jc, .int .i64 p.wrong, .slice gA p.grades.length gc] 26)).alloc (.cells #[.func (.func 59) #[] #[]] 100)).alloc (.cells #[.int .i64 (-1)] 3)) W → Calls Try.prog 64 #[.slice jA p.judges.length jc, .func (.func 60) #[] #[.pointer (some ⟨w.heap.size, 0, none⟩), .pointer (some ⟨w.heap.size + 1, 0, none⟩)]] W fun e w' => e = .returned (.bool (p.judges.all (judgeOk p.items.length))) ∧ Ext W w' :=
    fun hn W hW => by
      obtain ⟨q1, q2, q3, q4, q5⟩ := boxes3 hW
      exact everyJudge iA jA ic p.items.length jc w.heap.size (w.heap.size + 1) p.judges W (h.judges.ext (hEx.trans hW)) h.jl hn (q1 0) q2 (by omega) (by omega)
  have C3 : ∀ W, Ext (((w.alloc (.cells #[.slice iA p.items.length ic, .slice jA p.judges.length jc, .int .i64 p.wrong, .slice gA p.grades.length gc] 26)).alloc (.cells #[.func (.func 59) #[] #[]] 100)).alloc (.cells #[.int .i64 (-1)] 3)) W → Calls Try.prog 61 #[.slice gA p.grades.length gc, .func (.func 62) #[] #[.pointer (some ⟨w.heap.size + 2, 0, none⟩)]] W fun e w' => e = .returned (.bool (gradesOk p.grades)) ∧ Ext w w' :=
    fun W hW => by
      obtain ⟨q1, q2, q3, q4, q5⟩ := boxes3 hW
      exact everyGrade gA gc (w.heap.size + 2) p.grades w W (h.grades.ext (hEx.trans hW)) h.gl (hEx.trans hW) (by omega) q3 q4 q5 h.grades
  generalize checkE p = ce at *
  clear h hEx
  cases h1 : wi p.items.length 1 4
  · rw [h1] at HO
    have H1 := Lib.hid C1
    clear C1 C2 C3
    go_enter Try.func39, Try.ntmps39
    go_wp2_with (first
      | (go_at_call 48; refine (withinE _ _ _ _).mono ?_; rintro e w' ⟨rfl, rfl⟩)
      | (go_at_call 63; refine H1.out.mono ?_; rintro e w4 ⟨rfl, hE4⟩; obtain ⟨hb1, hb2, hb3, hb4, hb5⟩ := HBX.out w4 hE4)
      | (go_at_call 64; refine (H1.out).mono ?_; rintro e w5 ⟨rfl, hE5⟩; obtain ⟨hc1, hc2, hc3, hc4, hc5⟩ := HBX.out w5 (Ext.trans hE4 hE5))
      | (go_at_call 61; refine (H1.out).mono ?_; rintro e w6 ⟨rfl, hE6⟩))
    go_ret
    exact ⟨ret_int (HO.out (.inl (by trivial))).symm, HEx.out⟩
  · have hi4 : p.items.length ≤ 4 := by have := wi_true h1; omega
    have C2 := C2 hi4
    cases h2 : p.items.all itemOk
    · rw [h2] at C1 HO
      have H1 := Lib.hid C1
      have H2 := Lib.hid C2
      have H3 := Lib.hid C3
      clear C1 C2 C3 h2
      go_enter Try.func39, Try.ntmps39
      go_wp2_with (first
        | (go_at_call 48; refine (withinE _ _ _ _).mono ?_; rintro e w' ⟨rfl, rfl⟩)
        | (go_at_call 63; refine H1.out.mono ?_; rintro e w4 ⟨rfl, hE4⟩; obtain ⟨hb1, hb2, hb3, hb4, hb5⟩ := HBX.out w4 hE4)
        | (go_at_call 64; refine (H2.out _ hE4).mono ?_; rintro e w5 ⟨rfl, hE5⟩; obtain ⟨hc1, hc2, hc3, hc4, hc5⟩ := HBX.out w5 (Ext.trans hE4 hE5))
        | (go_at_call 61; refine (H3.out _ (Ext.trans hE4 hE5)).mono ?_; rintro e w6 ⟨rfl, hE6⟩))
      go_ret
      exact ⟨ret_int (HO.out (.inr (.inl (by trivial)))).symm, HEx.out.trans hE4⟩
    · rw [h2] at C1 HA
      have H1 := Lib.hid C1
      clear C1 h2
      by_cases h3 : p.judges.length ≤ 4
      · have h3' : (p.judges.length : Int) ≤ 4 := by omega
        cases h4 : p.judges.all (judgeOk p.items.length)
        · rw [h4] at C2 HO
          have H2 := Lib.hid C2
          have H3 := Lib.hid C3
          clear C2 C3 h4
          go_enter Try.func39, Try.ntmps39
          go_wp2_with (first
            | (go_at_call 48; refine (withinE _ _ _ _).mono ?_; rintro e w' ⟨rfl, rfl⟩)
            | (go_at_call 63; refine H1.out.mono ?_; rintro e w4 ⟨rfl, hE4⟩; obtain ⟨hb1, hb2, hb3, hb4, hb5⟩ := HBX.out w4 hE4)
            | (go_at_call 64; refine (H2.out _ hE4).mono ?_; rintro e w5 ⟨rfl, hE5⟩; obtain ⟨hc1, hc2, hc3, hc4, hc5⟩ := HBX.out w5 (Ext.trans hE4 hE5))
            | (go_at_call 61; refine (H3.out _ (Ext.trans hE4 hE5)).mono ?_; rintro e w6 ⟨rfl, hE6⟩))
          go_ret
          exact ⟨ret_int (HO.out (.inr (.inr (.inr (.inl (by trivial)))))).symm, (HEx.out.trans hE4).trans hE5⟩
        · rw [h4] at C2 HA
          have H2 := Lib.hid C2
          clear C2 h4
          cases h5 : wi p.wrong 0 2
          · rw [h5] at HO
            have H3 := Lib.hid C3
            clear C3
            go_enter Try.func39, Try.ntmps39
            go_wp2_with (first
              | (go_at_call 48; refine (withinE _ _ _ _).mono ?_; rintro e w' ⟨rfl, rfl⟩)
              | (go_at_call 63; refine H1.out.mono ?_; rintro e w4 ⟨rfl, hE4⟩; obtain ⟨hb1, hb2, hb3, hb4, hb5⟩ := HBX.out w4 hE4)
              | (go_at_call 64; refine (H2.out _ hE4).mono ?_; rintro e w5 ⟨rfl, hE5⟩; obtain ⟨hc1, hc2, hc3, hc4, hc5⟩ := HBX.out w5 (Ext.trans hE4 hE5))
              | (go_at_call 61; refine (H3.out _ (Ext.trans hE4 hE5)).mono ?_; rintro e w6 ⟨rfl, hE6⟩))
            go_ret
            exact ⟨ret_int (HO.out (.inr (.inr (.inr (.inr (.inl (by trivial))))))).symm, (HEx.out.trans hE4).trans hE5⟩
          · by_cases h6 : p.grades.length ≤ 5
            · have h6' : (p.grades.length : Int) ≤ 5 := by omega
              cases h7 : gradesOk p.grades
              · rw [h7] at HO C3
                have H3 := Lib.hid C3
                clear C3 h7
                go_enter Try.func39, Try.ntmps39
                go_wp2_with (first
                  | (go_at_call 48; refine (withinE _ _ _ _).mono ?_; rintro e w' ⟨rfl, rfl⟩)
                  | (go_at_call 63; refine H1.out.mono ?_; rintro e w4 ⟨rfl, hE4⟩; obtain ⟨hb1, hb2, hb3, hb4, hb5⟩ := HBX.out w4 hE4)
                  | (go_at_call 64; refine (H2.out _ hE4).mono ?_; rintro e w5 ⟨rfl, hE5⟩; obtain ⟨hc1, hc2, hc3, hc4, hc5⟩ := HBX.out w5 (Ext.trans hE4 hE5))
                  | (go_at_call 61; refine (H3.out _ (Ext.trans hE4 hE5)).mono ?_; rintro e w6 ⟨rfl, hE6⟩))
                go_ret
                exact ⟨ret_int (HO.out (.inr (.inr (.inr (.inr (.inr (.inr (by trivial)))))))).symm, hE6⟩
              · rw [h7] at HA C3
                have H3 := Lib.hid C3
                clear C3 h7
                go_enter Try.func39, Try.ntmps39
                go_wp2_with (first
                  | (go_at_call 48; refine (withinE _ _ _ _).mono ?_; rintro e w' ⟨rfl, rfl⟩)
                  | (go_at_call 63; refine H1.out.mono ?_; rintro e w4 ⟨rfl, hE4⟩; obtain ⟨hb1, hb2, hb3, hb4, hb5⟩ := HBX.out w4 hE4)
                  | (go_at_call 64; refine (H2.out _ hE4).mono ?_; rintro e w5 ⟨rfl, hE5⟩; obtain ⟨hc1, hc2, hc3, hc4, hc5⟩ := HBX.out w5 (Ext.trans hE4 hE5))
                  | (go_at_call 61; refine (H3.out _ (Ext.trans hE4 hE5)).mono ?_; rintro e w6 ⟨rfl, hE6⟩))
                go_ret
                exact ⟨ret_int (HA.out h1 (by trivial) h3 (by trivial) h5 h6 (by trivial)).symm, hE6⟩
            · have h6' : (5 : Int) < (p.grades.length : Int) := by omega
              have H3 := Lib.hid C3
              clear C3
              go_enter Try.func39, Try.ntmps39
              go_wp2_with (first
                | (go_at_call 48; refine (withinE _ _ _ _).mono ?_; rintro e w' ⟨rfl, rfl⟩)
                | (go_at_call 63; refine H1.out.mono ?_; rintro e w4 ⟨rfl, hE4⟩; obtain ⟨hb1, hb2, hb3, hb4, hb5⟩ := HBX.out w4 hE4)
                | (go_at_call 64; refine (H2.out _ hE4).mono ?_; rintro e w5 ⟨rfl, hE5⟩; obtain ⟨hc1, hc2, hc3, hc4, hc5⟩ := HBX.out w5 (Ext.trans hE4 hE5))
                | (go_at_call 61; refine (H3.out _ (Ext.trans hE4 hE5)).mono ?_; rintro e w6 ⟨rfl, hE6⟩))
              go_ret
              exact ⟨ret_int (HO.out (.inr (.inr (.inr (.inr (.inr (.inl (by omega)))))))).symm, (HEx.out.trans hE4).trans hE5⟩
      · have h3' : (4 : Int) < (p.judges.length : Int) := by omega
        have H2 := Lib.hid C2
        have H3 := Lib.hid C3
        clear C2 C3
        go_enter Try.func39, Try.ntmps39
        go_wp2_with (first
          | (go_at_call 48; refine (withinE _ _ _ _).mono ?_; rintro e w' ⟨rfl, rfl⟩)
          | (go_at_call 63; refine H1.out.mono ?_; rintro e w4 ⟨rfl, hE4⟩; obtain ⟨hb1, hb2, hb3, hb4, hb5⟩ := HBX.out w4 hE4)
          | (go_at_call 64; refine (H2.out _ hE4).mono ?_; rintro e w5 ⟨rfl, hE5⟩; obtain ⟨hc1, hc2, hc3, hc4, hc5⟩ := HBX.out w5 (Ext.trans hE4 hE5))
          | (go_at_call 61; refine (H3.out _ (Ext.trans hE4 hE5)).mono ?_; rintro e w6 ⟨rfl, hE6⟩))
        go_ret
        exact ⟨ret_int (HO.out (.inr (.inr (.inl (by omega))))).symm, HEx.out.trans hE4⟩
end Go.Proofs.Ytbpilgflejdhaaa

namespace Go.Proofs.Ytbpilgflejdhaaa
open Go.RowKit

/-- A region that draws: what reads, then a tail in a forced order. -/
theorem wp_region_tail {P : Program} {id : Nat} {Q : Exit → Act → World → Prop} {a : Act} {w : World} {l : List Oper} (n : Nat) (hm : P.follows .mixedOrders = true) (hB : Region.lexTailB .any l.toArray n = true)
    (h : wpStill P l.toArray w.drew (fun a' => wpList P l.toArray Q (l.drop n) a' w.drew) (l.take n) a) : (Code.region id l.toArray true).wp P Q a w :=
  wp_region_still_tail n hm hB h

theorem wpStill_want {P : Program} {ops : Array Oper} {w : World} {Q : Act → Prop} {a : Act} {o : Oper} {rest : List Oper} (hw : Region.wanted o (yielded ops a.tmps) = true) (h : ∀ K : Act → Prop, (∀ a, wpStill P ops w Q rest a → K a) → o.still P a w K) : wpStill P ops w Q (o :: rest) a :=
  wpStill_step fun K hK => by rw [if_pos hw]; exact h K hK
theorem wpStill_skip {P : Program} {ops : Array Oper} {w : World} {Q : Act → Prop} {a : Act} {o : Oper} {rest : List Oper} (hw : Region.wanted o (yielded ops a.tmps) = false) (h : wpStill P ops w Q rest (a.put o.dst undef)) : wpStill P ops w Q (o :: rest) a :=
  wpStill_step fun K hK => by rw [if_neg (by rw [hw]; exact Bool.false_ne_true)]; exact hK _ h

theorem none_any (w : World) : Calls Try.prog 49 #[] w fun e w' => e = .returned (.agg #[.int .i64 1073741824, .int .i64 (-1073741824)]) ∧ w.alloc (.cells #[.int .i64 1073741824, .int .i64 (-1073741824)] 35) = w' := by
  go_enter Try.func49, Try.ntmps49
  go_wp2
  refine bodyPost_ret (v := .agg #[.int .i64 1073741824, .int .i64 (-1073741824)]) (by simp [results, Try.results49, go_sem]) rfl ⟨rfl, rfl⟩

set_option maxHeartbeats 1000000 in
theorem add_any (b o : Nat) (T : TypeId) (cs : Array Value) (lo hi x y : Int) (w : World) (hb : Blk w b T cs) (h1 : cs[o]? = some (.int .i64 lo)) (h2 : cs[o + 1]? = some (.int .i64 hi)) :
    Calls Try.prog 50 #[.pointer (some ⟨b, o, none⟩), .agg #[.int .i64 x, .int .i64 y]] w fun e w' => e = .returned (.tuple #[]) ∧
      Blk w' b T ((cs.setIfInBounds o (.int .i64 (min lo x))).setIfInBounds (o + 1) (.int .i64 (max hi y))) ∧ w.grownBy w' (some b) := by
  have hlt := hb.lt
  have hE := Ext.of_alloc w (.cells #[.int .i64 x, .int .i64 y] 35)
  have hB1 := hb.ext hE
  have hfin : ∀ w1 u v, u = min lo x → v = max hi y → Blk w1 b T cs → w.grownBy w1 (some b) → Blk (((w1.setCell ⟨b, o, none⟩ (.int .i64 u)).setCell ⟨b, o + 1, none⟩ (.int .i64 v)).drew) b T ((cs.setIfInBounds o (.int .i64 (min lo x))).setIfInBounds (o + 1) (.int .i64 (max hi y))) ∧ w.grownBy (((w1.setCell ⟨b, o, none⟩ (.int .i64 u)).setCell ⟨b, o + 1, none⟩ (.int .i64 v)).drew) (some b) := by
    intro w1 u v hu hv h g
    subst hu; subst hv
    exact ⟨(h.set o _).set (o + 1) _, grown_trans (grown_trans (grown_trans g (grown_setCell w1 ⟨b, o, none⟩ _)) (grown_setCell _ ⟨b, o + 1, none⟩ _)) (grown_drew _ _)⟩
  have HF := Lib.hid hfin
  have HE := Lib.hid hE
  clear hfin
  go_enter Try.func50, Try.ntmps50
  go_wp2
  generalize hw1 : w.alloc (.cells #[.int .i64 x, .int .i64 y] 35) = w1 at *
  have g1 : w1.cell? ⟨b, o, none⟩ = some (.int .i64 lo) := (hB1.cell o).trans h1
  have g2 : w1.cell? ⟨b, o + 1, none⟩ = some (.int .i64 hi) := (hB1.cell (o + 1)).trans h2
  have g3 : w1.cell? ⟨w.heap.size, 0, none⟩ = some (.int .i64 x) := by rw [← hw1, World.cell?_alloc_at _ _ _ _ rfl]; rfl
  have g4 : w1.cell? ⟨w.heap.size, 1, none⟩ = some (.int .i64 y) := by rw [← hw1, World.cell?_alloc_at _ _ _ _ rfl]; rfl
  have g5 := hB1.free o
  have g6 := hB1.free (o + 1)
  have hne : ¬ w.heap.size = b := by omega
  have hne' : ¬ b = w.heap.size := by omega
  have HW := Lib.hid hw1
  have HB := Lib.hid hB1
  clear h1 h2 hw1 hB1 hE hb
  go_region
  all_goals
    go_wp2
  all_goals
    go_end0
    exact ⟨rfl, HF.out _ _ _ (by omega) (by omega) HB.out (HE.out.grown _)⟩

set_option maxHeartbeats 1000000 in
theorem width_any (lo hi : Int) (w : World) (h1 : -1099511627776 ≤ lo) (h2 : lo ≤ 1099511627776) (h3 : -1099511627776 ≤ hi) (h4 : hi ≤ 1099511627776) :
    Calls Try.prog 51 #[.agg #[.int .i64 lo, .int .i64 hi]] w fun e w' => e = .returned (.int .i64 (max 0 (hi - lo))) ∧ Ext w w' := by
  go_enter Try.func51, Try.ntmps51
  go_wp2
  all_goals
    go_ret
    exact ⟨ret_int (by omega), Ext.of_alloc _ _⟩
end Go.Proofs.Ytbpilgflejdhaaa

namespace Go.Proofs.Ytbpilgflejdhaaa
open Go.RowKit

def spanCells (l : List (Int × Int)) : List Value := l.flatMap fun s => [.int .i64 s.1, .int .i64 s.2]
theorem spanCells_length (l : List (Int × Int)) : (spanCells l).length = l.length * 2 := by
  induction l with
  | nil => rfl
  | cons a l ih => simp [spanCells] at ih ⊢; omega
theorem spanCells_get (l : List (Int × Int)) (k : Nat) : (spanCells l)[k * 2]? = (l[k]?).map (fun s => Value.int .i64 s.1) ∧ (spanCells l)[k * 2 + 1]? = (l[k]?).map (fun s => Value.int .i64 s.2) := by
  induction l generalizing k with
  | nil => simp [spanCells]
  | cons a l ih =>
    cases k with
    | zero => simp [spanCells]
    | succ k =>
      have := ih k
      simp only [spanCells, List.flatMap_cons] at this ⊢
      rw [show (k + 1) * 2 = k * 2 + 2 by omega, show k * 2 + 2 + 1 = k * 2 + 1 + 2 by omega]
      simpa using this
theorem spanCells_one (l : List (Int × Int)) : ∀ u ∈ spanCells l, u.oneCell' = true := by
  intro u hu
  simp [spanCells] at hu
  obtain ⟨a, b, _, rfl | rfl⟩ := hu <;> rfl
theorem spanCells_snoc (l : List (Int × Int)) (s : Int × Int) : spanCells (l ++ [s]) = spanCells l ++ [.int .i64 s.1, .int .i64 s.2] := by
  simp [spanCells]

/-- A slice of spans. -/
def Spans (w : World) (A : Option Addr) (l : List (Int × Int)) : Prop :=
  ∀ k, k < l.length → ∃ b off, A = some ⟨b, off, none⟩ ∧ b < w.heap.size ∧ w.cell? ⟨b, off + k * 2, none⟩ = some (.int .i64 (l.getD k (0, 0)).1) ∧ w.cell? ⟨b, off + k * 2 + 1, none⟩ = some (.int .i64 (l.getD k (0, 0)).2)
theorem Spans.ext {w w' : World} {A : Option Addr} {l : List (Int × Int)} (h : Spans w A l) (e : Ext w w') : Spans w' A l := fun k hk => by
  obtain ⟨b, off, hA, hb, h1, h2⟩ := h k hk
  exact ⟨b, off, hA, Nat.lt_of_lt_of_le hb e.size, (e.cellOf (p := ⟨b, _, none⟩) hb).trans h1, (e.cellOf (p := ⟨b, _, none⟩) hb).trans h2⟩
theorem Spans.get {w : World} {A : Option Addr} {l : List (Int × Int)} (h : Spans w A l) {k : Nat} (hk : k < l.length) :
    ∃ b off x y, A = some ⟨b, off, none⟩ ∧ b < w.heap.size ∧ w.cell? ⟨b, off + k * 2, none⟩ = some (.int .i64 x) ∧ w.cell? ⟨b, off + k * 2 + 1, none⟩ = some (.int .i64 y) ∧ Hid (l.getD k (0, 0) = (x, y)) := by
  obtain ⟨b, off, h1, h2, h3, h4⟩ := h k hk
  exact ⟨b, off, _, _, h1, h2, h3, h4, rfl⟩
theorem Spans.of_own {w : World} {base n c : Nat} {e : TypeId} {A : Option Addr} {l : List (Int × Int)} (h : w.ownsRow base e 2 (.slice A n c) n (spanCells l)) : n = l.length ∧ Spans w A l := by
  have hl : n = l.length := by have := h.1; rw [spanCells_length] at this; omega
  refine ⟨hl, fun k hk => ?_⟩
  obtain ⟨b, off, hA, hb, hc⟩ := (Sl.of_own h).2 (by omega)
  have hg := spanCells_get l k
  rw [List.getElem?_eq_getElem hk] at hg
  refine ⟨b, off, hA, hb, ?_, ?_⟩
  · have := hc _ _ hg.1
    rw [this]; simp [List.getD, hk]
  · have := hc _ _ hg.2
    rw [show off + k * 2 + 1 = off + (k * 2 + 1) by omega, this]; simp [List.getD, hk]
/-- The cells of spans, as the laws on append ask them. -/
theorem Spans.cells {w : World} {ad : Addr} {l : List (Int × Int)} (h : Spans w (some ad) l) : ∀ j u, (spanCells l)[j]? = some u → w.cell? (ad.add j) = some u := by
  intro j u hu
  have hj : j < l.length * 2 := by
    rw [← spanCells_length]
    rcases Nat.lt_or_ge j (spanCells l).length with h | h
    · exact h
    · rw [List.getElem?_eq_none h] at hu; cases hu
  obtain ⟨b, off, hA, hb, h1, h2⟩ := h (j / 2) (by omega)
  injection hA with hA
  subst hA
  have hg := spanCells_get l (j / 2)
  have hlt : j / 2 < l.length := by omega
  rw [List.getElem?_eq_getElem hlt] at hg
  have hadd : (⟨b, off, none⟩ : Addr).add j = ⟨b, off + j, none⟩ := by
    unfold Addr.add
    by_cases h0 : j = 0 <;> simp [h0]
  rw [hadd]
  by_cases hp : j % 2 = 0
  · have e : j / 2 * 2 = j := by omega
    rw [e] at hg h1
    rw [hg.1] at hu
    rw [h1]; simpa [List.getD, hlt] using hu
  · have e : j / 2 * 2 + 1 = j := by omega
    rw [e] at hg
    rw [show off + j / 2 * 2 + 1 = off + j by omega] at h2
    rw [hg.2] at hu
    rw [h2]; simpa [List.getD, hlt] using hu

theorem span_info : (Try.prog.info? 35).map (fun i => (i.zero, i.size, i.bytes)) = some (some (.agg #[.int .i64 0, .int .i64 0]), 2, 16) := by kernel_rfl

theorem own_empty (w : World) (base : Nat) (e : TypeId) (size : Nat) (hb : base ≤ w.heap.size) : (w.alloc (.cells #[] e)).ownsRow base e size (.slice (some ⟨w.heap.size, 0, none⟩) 0 0) 0 [] :=
  ⟨by simp, .inr ⟨w.heap.size, 0, #[], rfl, hb, heap_alloc_new w _, Nat.le_refl _, by simp [maxLen], by simp, by simp⟩⟩

set_option maxHeartbeats 1000000 in
theorem cloneSpans (A : Option Addr) (c : Nat) (l : List (Int × Int)) (w : World) (h : Spans w A l) (hl : l.length ≤ 65536) (hnil : A = none → l = []) :
    Calls Try.prog 78 #[.slice A l.length c] w fun e w' => ∃ v, e = .returned v ∧ w'.ownsRow w.heap.size 35 2 v l.length (spanCells l) ∧ Ext w w' := by
  obtain ⟨i0, hi0, hz0, hz1, hz2⟩ := info_parts span_info
  have heq := fun w' : World => Lib.run_eql_slice_nil (P := Try.prog) w' 58 35 A l.length c 0 0 Try.underlying58
  rcases A with _ | ad
  · have hl0 := hnil rfl
    subst hl0
    clear hnil h heq hz0 hi0 hz1 hz2
    have heq := fun w' : World => Lib.run_eql_slice_nil (P := Try.prog) w' 58 35 none 0 c 0 0 Try.underlying58
    simp only [Option.isNone_none] at heq
    go_enter Try.func78, Try.ntmps78
    go_wp2
    go_ret
    exact ⟨_, rfl, World.ownsRow_nil _ _ _ _, Ext.refl _⟩
  · have hc := (h.ext (Ext.of_alloc w (.cells #[] 35))).cells
    have HO := Lib.hid (spanCells_one l)
    have HL := Lib.hid (spanCells_length l)
    have HC := Lib.hid hc
    have HE := Lib.hid (Ext.of_alloc w (.cells #[] 35))
    have HW := Lib.hid (own_empty w w.heap.size 35 2 (Nat.le_refl _))
    clear hc hnil h
    generalize spanCells l = cs at *
    go_enter Try.func78, Try.ntmps78
    go_wp2_with (at_builtin; refine wpList_append_own _ rfl _ _ 58 rfl w.heap.size 35 i0 _ 2 16 Try.underlying58 hi0 hz0 hz1 hz2 rfl (by decide) _ _ _ rfl HW.out ad l.length c cs rfl HL.out HC.out HO.out (by simp [maxLen]; omega) (by omega) (by simp) ?_; intro v' w1 hown hgrow _)
    go_ret
    refine ⟨_, rfl, by simpa using hown, ?_⟩
    have hg : Below w.heap.size w w1 := Below.grown (HE.out) hgrow (by simp) (fun k hk => by injection hk with hk; exact Nat.le_of_eq hk)
    exact hg
end Go.Proofs.Ytbpilgflejdhaaa

namespace Go.Proofs.Ytbpilgflejdhaaa
open Go.RowKit

/-- The entry of a key. -/
def getL (l : List (Int × Value)) (k : Int) : Option Value := (l.find? (fun x => x.1 == k)).map (·.2)
/-- A store: in place, or behind all. -/
def mputL : List (Int × Value) → Int → Value → List (Int × Value)
  | [], k, v => [(k, v)]
  | x :: l, k, v => if x.1 = k then (k, v) :: l else x :: mputL l k v
theorem getL_put (l : List (Int × Value)) (k : Int) (v : Value) (q : Int) : getL (mputL l k v) q = if q = k then some v else getL l q := by
  induction l with
  | nil =>
    simp only [mputL, getL]
    by_cases h : q = k
    · subst h; simp
    · have h' : (k == q) = false := by simpa using fun e => h e.symm
      simp [h, h']
  | cons x l ih =>
    simp only [mputL]
    by_cases hx : x.1 = k
    · rw [if_pos hx]
      by_cases h : q = k
      · subst h; simp [getL]
      · have h1 : (k == q) = false := by simpa using fun e => h e.symm
        have h2 : (x.1 == q) = false := by simpa using fun e => h (e.symm.trans hx)
        simp [getL, h, h1, h2]
    · rw [if_neg hx]
      by_cases h : x.1 = q
      · subst h; simp [getL, hx]
      · have h1 : (x.1 == q) = false := by simpa using h
        simp only [getL, List.find?_cons, h1] at ih ⊢
        exact ih

def MapAt (w : World) (b : Nat) (l : List (Int × Value)) : Prop :=
  ∃ es clock, w.heap[b]? = some (.map es clock) ∧ es.toList.map (fun e => (e.key, e.val)) = l.map (fun x => (Value.int .i64 x.1, x.2))
theorem MapAt.lt {w : World} {b : Nat} {l : List (Int × Value)} (h : MapAt w b l) : b < w.heap.size := by
  obtain ⟨_, _, h, _⟩ := h; exact own_lt h
theorem MapAt.of_block {w w' : World} {b : Nat} {l : List (Int × Value)} (h : MapAt w b l) (e : w'.heap[b]? = w.heap[b]?) : MapAt w' b l := by
  obtain ⟨es, c, h1, h2⟩ := h; exact ⟨es, c, e.trans h1, h2⟩
theorem MapAt.new (w : World) : MapAt (w.alloc (.map #[] 0)) w.heap.size [] := ⟨#[], 0, heap_alloc_new w _, rfl⟩
theorem MapAt.ne {w : World} {b g : Nat} {l : List (Int × Value)} {t : TypeId} {cs : Array Value} (h : MapAt w b l) (k : Blk w g t cs) : b ≠ g := by
  rintro rfl
  obtain ⟨_, _, h, _⟩ := h
  unfold Blk at k
  rw [h] at k; cases k

theorem findNow_int (k : Int) : ∀ (l : List (Int × Value)) (es : List MapEntry) (i : Nat), es.map (fun e => (e.key, e.val)) = l.map (fun x => (Value.int .i64 x.1, x.2)) →
    Instr.findNow (.int .i64) (.int .i64 k) es i = some ((l.findIdx? (fun x => x.1 == k)).bind (fun n => (l[n]?).map (fun x => (i + n, x.2))))
  | [], [], i, _ => rfl
  | [], e :: es, i, h => by simp at h
  | x :: l, [], i, h => by simp at h
  | x :: l, e :: es, i, h => by
    simp only [List.map_cons, List.cons.injEq, Prod.mk.injEq] at h
    obtain ⟨⟨h1, h2⟩, h3⟩ := h
    have ih := findNow_int k l es (i + 1) h3
    simp only [Instr.findNow, h1, Instr.sameNow, if_true]
    by_cases hx : x.1 = k
    · simp [hx, h2, List.findIdx?_cons]
    · have e1 : (k == x.1) = false := by simpa using fun e => hx e.symm
      have e2 : (x.1 == k) = false := by simpa using hx
      rw [e1]
      simp only [ih, List.findIdx?_cons, e2]
      cases hf : l.findIdx? (fun x => x.1 == k) with
      | none => simp
      | some n => simp [Nat.add_assoc, Nat.add_comm 1 n]

theorem getL_idx (l : List (Int × Value)) (k : Int) : getL l k = (l.findIdx? (fun x => x.1 == k)).bind (fun n => (l[n]?).map (·.2)) := by
  induction l with
  | nil => rfl
  | cons x l ih =>
    simp only [getL, List.find?_cons, List.findIdx?_cons] at ih ⊢
    cases hx : x.1 == k
    · simp only [ih]
      cases l.findIdx? (fun x => x.1 == k) <;> simp
    · simp

theorem put_idx_none {l : List (Int × Value)} {k : Int} {v : Value} (h : l.findIdx? (fun x => x.1 == k) = none) : mputL l k v = l ++ [(k, v)] := by
  induction l with
  | nil => rfl
  | cons x l ih =>
    simp only [List.findIdx?_cons] at h
    cases hx : x.1 == k
    · rw [hx] at h
      have hx' : ¬ x.1 = k := by simpa using hx
      simp only [mputL, if_neg hx', List.cons_append]
      rw [ih (by simpa using h)]
    · rw [hx] at h; simp at h
theorem put_idx_some {l : List (Int × Value)} {k : Int} {v : Value} {n : Nat} (h : l.findIdx? (fun x => x.1 == k) = some n) : mputL l k v = l.set n (k, v) ∧ ∃ x, l[n]? = some x ∧ x.1 = k := by
  induction l generalizing n with
  | nil => simp at h
  | cons x l ih =>
    simp only [List.findIdx?_cons] at h
    cases hx : x.1 == k
    · rw [hx] at h
      have hx' : ¬ x.1 = k := by simpa using hx
      simp at h
      obtain ⟨m, hm, rfl⟩ := h
      obtain ⟨h1, y, h2, h3⟩ := ih hm
      exact ⟨by simp only [mputL, if_neg hx', h1, List.set_cons_succ], y, by simpa using h2, h3⟩
    · rw [hx] at h
      simp at h
      subst h
      have hx' : x.1 = k := by simpa using hx
      exact ⟨by simp [mputL, hx'], x, by simp, hx'⟩

theorem run_findKey {P : Program} {kt : TypeId} (hk : P.underlying kt = some (.int .i64)) (k : Int) (l : List (Int × Value)) (es : List MapEntry) (w : World) (h : es.map (fun e => (e.key, e.val)) = l.map (fun x => (Value.int .i64 x.1, x.2))) :
    (Instr.findKey kt (.int .i64 k) es).run P w = .ok ((l.findIdx? (fun x => x.1 == k)).bind (fun n => (l[n]?).map (fun x => (n, x.2)))) w := by
  have := findNow_int k l es 0 h
  simp [Instr.findKey, run_underlying hk, this]

theorem run_checkKey_int {P : Program} {kt : TypeId} (hk : P.underlying kt = some (.int .i64)) (k : Int) (b : Bool) (n : Nat) (w : World) : (Instr.checkKey b (n + 1) kt (.int .i64 k)).run P w = .ok () w := by
  simp [Instr.checkKey, run_underlying hk]
theorem run_keyStays_int {P : Program} (k : Int) (w : World) : (Instr.keyThatStays (.int .i64 k) (.int .i64 k)).run P w = .ok (.int .i64 k) w := by
  simp [Instr.keyThatStays, Instr.sameBits]

theorem run_mapUpdate_at {P : Program} (w : World) (t kt et : TypeId) (ht : P.underlying t = some (.map kt et)) (hk : P.underlying kt = some (.int .i64)) (b : Nat) (l : List (Int × Value)) (h : MapAt w b l) (k : Int) (v : Value) :
    ∃ w', (Instr.mapUpdate t (.map (some b)) (.int .i64 k) v).run P w = .ok () w' ∧ MapAt w' b (mputL l k v) ∧ w.grownBy w' (some b) := by
  obtain ⟨es, c, hb, hl⟩ := h
  have hlt := own_lt hb
  have hf := run_findKey hk k l es.toList w hl
  have hlen : es.size = l.length := by have := congrArg List.length hl; simpa using this
  cases hi : l.findIdx? (fun x => x.1 == k) with
  | none =>
    rw [hi] at hf
    refine ⟨{ w with heap := w.heap.setIfInBounds b (.map (es.push { key := .int .i64 k, val := v, born := c }) (c + 1)) }, ?_, ⟨es.push { key := .int .i64 k, val := v, born := c }, c + 1, (by simp [hlt]), ?_⟩, ⟨rfl, rfl, rfl, by simp, fun i _ hne => ?_⟩⟩
    · simp [Instr.mapUpdate, run_underlying ht, MapKept.run_getObj_map hb, run_checkKey_int hk k false 9999, hf, MapKept.run_setObj_map _ hb, Result.andThen]
    · rw [put_idx_none hi]
      simp [hl]
    · have : b ≠ i := fun e => hne (by rw [e])
      simp [Array.getElem?_setIfInBounds_ne this]
  | some n =>
    obtain ⟨h1, x, h2, h3⟩ := put_idx_some (v := v) hi
    rw [hi] at hf
    simp only [Option.bind_some, h2, Option.map_some] at hf
    have hn : n < es.size := by
      rw [hlen]
      rcases Nat.lt_or_ge n l.length with q | q
      · exact q
      · rw [List.getElem?_eq_none q] at h2; cases h2
    have hkey : (es[n]).key = .int .i64 k := by
      have := congrArg (fun q => q[n]?) hl
      simp only [List.getElem?_map, h2, Option.map_some] at this
      rw [List.getElem?_eq_getElem (by simpa using hn)] at this
      simp at this
      rw [this.1, h3]
    refine ⟨{ w with heap := w.heap.setIfInBounds b (.map (es.modify n fun e => { e with key := .int .i64 k, val := v }) c) }, ?_, ⟨es.modify n fun e => { e with key := .int .i64 k, val := v }, c, (by simp [hlt]), ?_⟩, ⟨rfl, rfl, rfl, by simp, fun i _ hne => ?_⟩⟩
    · simp [Instr.mapUpdate, run_underlying ht, MapKept.run_getObj_map hb, run_checkKey_int hk k false 9999, hf, MapKept.run_setObj_map _ hb, Result.andThen, hn, hkey, run_keyStays_int]
    · rw [h1]
      apply List.ext_getElem?
      intro j
      have hj := congrArg (fun q => q[j]?) hl
      simp only [List.getElem?_map, Array.getElem?_toList] at hj ⊢
      by_cases e : n = j
      · subst e
        have hnl : n < l.length := by omega
        simp [hn, hnl, Array.getElem_modify_self]
      · rw [List.getElem?_set_ne e, ← hj]
        simp [Array.getElem?_modify, e]
    · have : b ≠ i := fun e => hne (by rw [e])
      simp [Array.getElem?_setIfInBounds_ne this]

theorem run_lookup_ok {P : Program} (w : World) (t kt et : TypeId) (ht : P.underlying t = some (.map kt et)) (hk : P.underlying kt = some (.int .i64)) (b : Nat) (l : List (Int × Value)) (h : MapAt w b l) (k : Int) (v : Value) (hv : getL l k = some v) :
    (Instr.lookup t (.map (some b)) (.int .i64 k) true).run P w = .ok (.tuple #[v, .bool true]) w := by
  obtain ⟨es, c, hb, hl⟩ := h
  have hf := run_findKey hk k l es.toList w hl
  rw [getL_idx] at hv
  cases hi : l.findIdx? (fun x => x.1 == k) with
  | none => rw [hi] at hv; cases hv
  | some n =>
    rw [hi] at hv hf
    simp only [Option.bind_some] at hv hf
    cases hn : l[n]? with
    | none => rw [hn] at hv; cases hv
    | some x =>
      rw [hn] at hv hf
      simp at hv
      simp [Instr.lookup, run_underlying ht, MapKept.run_getObj_map hb, run_checkKey_int hk k _ 9999, hf, hv, Result.andThen]
theorem run_lookup_not {P : Program} (w : World) (t kt et : TypeId) (z : Value) (ht : P.underlying t = some (.map kt et)) (hk : P.underlying kt = some (.int .i64)) (hz : ∀ w, (zeroValue et).run P w = .ok z w) (b : Nat) (l : List (Int × Value)) (h : MapAt w b l) (k : Int) (hv : getL l k = none) :
    (Instr.lookup t (.map (some b)) (.int .i64 k) true).run P w = .ok (.tuple #[z, .bool false]) w := by
  obtain ⟨es, c, hb, hl⟩ := h
  have hf := run_findKey hk k l es.toList w hl
  rw [getL_idx] at hv
  have hf' : (Instr.findKey kt (.int .i64 k) es.toList).run P w = .ok none w := by
    rw [hf]
    congr 1
    cases hi : l.findIdx? (fun x => x.1 == k) with
    | none => rfl
    | some n =>
      rw [hi] at hv
      simp only [Option.bind_some, Option.map_eq_none_iff] at hv
      simp [hv]
  simp [Instr.lookup, run_underlying ht, MapKept.run_getObj_map hb, run_checkKey_int hk k _ 9999, hf', hz, Result.andThen]
end Go.Proofs.Ytbpilgflejdhaaa
