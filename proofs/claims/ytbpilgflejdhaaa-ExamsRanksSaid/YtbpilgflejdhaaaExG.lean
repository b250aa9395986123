/- Exams: the program's Check, whole. -/
import Derived.Test.YtbpilgflejdhaaaExF
import Derived.Laws.EntriesVeiled
namespace Go.Proofs.Ytbpilgflejdhaaa
open Go.RowKit

/-- What Check returns, in the program's order. -/
theorem checkE_order {p : Paper} (h : (wi p.items.length 1 4 = false ∨ p.items.all itemOk = false ∨ 4 < p.judges.length ∨ p.judges.all (judgeOk p.items.length) = false ∨ wi p.wrong 0 2 = false ∨ 5 < p.grades.length ∨ gradesOk p.grades = false)) : checkE p = 90 := by
  unfold checkE validB headOk
  rcases h with h | h | h | h | h | h | h
  · simp [h]
  · simp [h]
  · simp [show ¬ p.judges.length ≤ 4 by omega]
  · simp [h]
  · simp [h]
  · simp [show ¬ p.grades.length ≤ 5 by omega]
  · simp [h]
theorem checkE_all {p : Paper} (h1 : wi p.items.length 1 4 = true) (h2 : p.items.all itemOk = true) (h3 : p.judges.length ≤ 4) (h4 : p.judges.all (judgeOk p.items.length) = true) (h5 : wi p.wrong 0 2 = true) (h6 : p.grades.length ≤ 5) (h7 : gradesOk p.grades = true) : checkE p = 0 := by
  unfold checkE validB headOk
  simp only [h1, h2, h4, h5, h7, Bool.and_true, Bool.true_and]
  simp [h3, h6]

theorem everyItem (A : Option Addr) (c : Nat) (l : List Item) (w : World) (h : ItemsAt w A l) (hl : l.length ≤ 9223372036854775807) :
    Calls Try.prog 63 #[.slice A l.length c, .func (.func 58) #[] #[]] w fun e w' => e = .returned (.bool (l.all itemOk)) ∧ Ext w w' := by
  refine (every_item A l.length c 58 #[] (fun k => .int .i64 (l.getD k default).weight) (fun k => .int .i64 (l.getD k default).most) (fun k => itemOk (l.getD k default)) (fun _ w' => Ext w w') none w hl (Ext.refl w) (fun _ _ _ h k => Ext.trans h k) (fun g hg => by cases hg) (fun args w' => by kernel_rfl)
    (fun k w' hk h' => ?_) (fun k w' hk _ h' => ?_)).mono ?_
  · obtain ⟨b, off, h1, h2, h3, h4⟩ := (h.ext h') k hk
    exact ⟨b, off, h1, h3, h4⟩
  · exact (itemFn (l.getD k default).weight (l.getD k default).most w').mono fun e w'' ⟨he, hE⟩ => ⟨he, Ext.trans h' hE, hE.grown none⟩
  · rintro e w' ⟨m, hE, ⟨k, hk, hq, rfl⟩ | ⟨hq, rfl⟩⟩
    · exact ⟨ret_bool (all_getD_false (d := default) hk hq).symm, hE⟩
    · exact ⟨ret_bool ((all_getD l default itemOk).2 hq).symm, hE⟩

theorem everyJudge (iA A : Option Addr) (ic n c pb mb : Nat) (l : List Judge) (w : World) (h : JudgesAt w A l) (hl : l.length ≤ 9223372036854775807) (hn : n ≤ 4) (hc1 : w.cell? ⟨pb, 0, none⟩ = some (.slice iA n ic)) (hc2 : w.cell? ⟨mb, 0, none⟩ = some (.func (.func 59) #[] #[]))
    (h1 : pb < w.heap.size) (h2 : mb < w.heap.size) :
    Calls Try.prog 64 #[.slice A l.length c, .func (.func 60) #[] #[.pointer (some ⟨pb, 0, none⟩), .pointer (some ⟨mb, 0, none⟩)]] w fun e w' => e = .returned (.bool (l.all (judgeOk n))) ∧ Ext w w' := by
  have hch : ∀ k, ∃ mA mc, ∀ w', k < l.length → Ext w w' → ∃ b off, A = some ⟨b, off, none⟩ ∧ w'.cell? ⟨b, off + k * 4, none⟩ = some (.int .i64 (l.getD k default).lo) ∧ w'.cell? ⟨b, off + k * 4 + 1, none⟩ = some (.int .i64 (l.getD k default).hi) ∧
      w'.cell? ⟨b, off + k * 4 + 2, none⟩ = some (.int .i64 (l.getD k default).err) ∧ w'.cell? ⟨b, off + k * 4 + 3, none⟩ = some (.slice mA (l.getD k default).marks.length mc) ∧ Ints w' mA (l.getD k default).marks ∧ (l.getD k default).marks.length ≤ 9223372036854775807 := by
    intro k
    by_cases hk : k < l.length
    · obtain ⟨b, off, hA, hb, q1, q2, q3, mA, mc, q4, q5, q6⟩ := h k hk
      refine ⟨mA, mc, fun w' _ hE => ⟨b, off, hA, ?_, ?_, ?_, ?_, q5.ext hE, q6⟩⟩
      · exact (hE.cellOf (p := ⟨b, _, none⟩) hb).trans q1
      · exact (hE.cellOf (p := ⟨b, _, none⟩) hb).trans q2
      · exact (hE.cellOf (p := ⟨b, _, none⟩) hb).trans q3
      · exact (hE.cellOf (p := ⟨b, _, none⟩) hb).trans q4
    · exact ⟨none, 0, fun w' h => absurd h hk⟩
  have hch2 : ∃ (mA : Nat → Option Addr) (mc : Nat → Nat), ∀ k w', k < l.length → Ext w w' → ∃ b off, A = some ⟨b, off, none⟩ ∧ w'.cell? ⟨b, off + k * 4, none⟩ = some (.int .i64 (l.getD k default).lo) ∧ w'.cell? ⟨b, off + k * 4 + 1, none⟩ = some (.int .i64 (l.getD k default).hi) ∧
      w'.cell? ⟨b, off + k * 4 + 2, none⟩ = some (.int .i64 (l.getD k default).err) ∧ w'.cell? ⟨b, off + k * 4 + 3, none⟩ = some (.slice (mA k) (l.getD k default).marks.length (mc k)) ∧ Ints w' (mA k) (l.getD k default).marks ∧ (l.getD k default).marks.length ≤ 9223372036854775807 :=
    ⟨fun k => (hch k).choose, fun k => (hch k).choose_spec.choose, fun k w' hk hE => (hch k).choose_spec.choose_spec w' hk hE⟩
  obtain ⟨mA, mc, hj⟩ := hch2
  refine (every_judge A l.length c 60 #[.pointer (some ⟨pb, 0, none⟩), .pointer (some ⟨mb, 0, none⟩)] (fun k => .int .i64 (l.getD k default).lo) (fun k => .int .i64 (l.getD k default).hi) (fun k => .int .i64 (l.getD k default).err) (fun k => .slice (mA k) (l.getD k default).marks.length (mc k)) (fun k => judgeOk n (l.getD k default)) (fun _ w' => Ext w w') none w hl (Ext.refl w) (fun _ _ _ h k => Ext.trans h k) (fun g hg => by cases hg) (fun args w' => by kernel_rfl)
    (fun k w' hk h' => ?_) (fun k w' hk _ h' => ?_)).mono ?_
  · obtain ⟨b, off, q1, q2, q3, q4, q5, _⟩ := hj k w' hk h'
    exact ⟨b, off, q1, q2, q3, q4, q5⟩
  · obtain ⟨b, off, q1, q2, q3, q4, q5, q6, q7⟩ := hj k w' hk h'
    exact (judgeFn iA (mA k) ic n (mc k) pb mb _ _ _ _ w' hn q6 q7 ((h'.cellOf (p := ⟨pb, 0, none⟩) h1).trans hc1) ((h'.cellOf (p := ⟨mb, 0, none⟩) h2).trans hc2) (Nat.lt_of_lt_of_le h1 h'.size) (Nat.lt_of_lt_of_le h2 h'.size)).mono fun e w'' ⟨he, hE⟩ => ⟨he, Ext.trans h' hE, hE.grown none⟩
  · rintro e w' ⟨m, hE, ⟨k, hk, hq, rfl⟩ | ⟨hq, rfl⟩⟩
    · exact ⟨ret_bool (all_getD_false (d := default) hk hq).symm, hE⟩
    · exact ⟨ret_bool ((all_getD l default (judgeOk n)).2 hq).symm, hE⟩

theorem boxes3 {w W : World} {cs : Array Value} {x y : Value} {T1 T2 T3 : TypeId} (h : Ext (((w.alloc (.cells cs T1)).alloc (.cells #[x] T2)).alloc (.cells #[y] T3)) W) :
    (∀ i, W.cell? ⟨w.heap.size, i, none⟩ = cs[i]?) ∧ W.cell? ⟨w.heap.size + 1, 0, none⟩ = some x ∧ W.cell? ⟨w.heap.size + 2, 0, none⟩ = some y ∧ W.frozen? ⟨w.heap.size + 2, 0, none⟩ = false ∧ w.heap.size + 2 < W.heap.size := by
  refine ⟨fun i => h.unalloc.unalloc.box i, ?_, ?_, ?_, ?_⟩
  · have := h.unalloc.box 0; simpa using this
  · have := h.box 0; simpa using this
  · have := h.boxFree 0; simpa using this
  · have := h.lt; simpa using this

set_option maxHeartbeats 4000000 in
theorem checkP_any (iA jA gA : Option Addr) (ic jc gc : Nat) (p : Paper) (w : World) (h : PaperAt w iA jA gA p) :
    Calls Try.prog 39 #[.agg #[.slice iA p.items.length ic, .slice jA p.judges.length jc, .int .i64 p.wrong, .slice gA p.grades.length gc]] w fun e w' => e = .returned (.int .i64 (checkE p)) ∧ Ext w w' := by
  have hEx : Ext w (((w.alloc (.cells #[.slice iA p.items.length ic, .slice jA p.judges.length jc, .int .i64 p.wrong, .slice gA p.grades.length gc] 26)).alloc (.cells #[.func (.func 59) #[] #[]] 100)).alloc (.cells #[.int .i64 (-1)] 3)) := ((Ext.of_alloc _ _).alloc _).alloc _
  have HEx := Lib.hid hEx
  have HBX := Lib.hid (fun W (hW : Ext (((w.alloc (.cells #[.slice iA p.items.length ic, .slice jA p.judges.length jc, .int .i64 p.wrong, .slice gA p.grades.length gc] 26)).alloc (.cells #[.func (.func 59) #[] #[]] 100)).alloc (.cells #[.int .i64 (-1)] 3)) W) => boxes3 hW)
  have HO := Lib.hid (checkE_order (p := p))
  have HA := Lib.hid (checkE_all (p := p))
  have hil := h.il
  have hjl := h.jl
  have hgl := h.gl
  have C1 := everyItem iA ic p.items (((w.alloc (.cells #[.slice iA p.items.length ic, .slice jA p.judges.length jc, .int .i64 p.wrong, .slice gA p.grades.length gc] 26)).alloc (.cells #[.func (.func 59) #[] #[]] 100)).alloc (.cells #[.int .i64 (-1)] 3)) (h.items.ext hEx) h.il
  have C2 : p.items.length ≤ 4 → ∀ W, Ext (((w.alloc (.cells #[.slice iA p.items.length ic, .slice jA p.judges.length jc, .int .i64 p.wrong, .slice gA p.grades.length gc] 26)).alloc (.cells #[.func (.func 59) #[] #[]] 100)).alloc (.cells #[.int .i64 (-1)] 3)) W → Calls Try.prog 64 #[.slice jA p.judges.length jc, .func (.func 60) #[] #[.pointer (some ⟨w.heap.size, 0, none⟩), .pointer (some ⟨w.heap.size + 1, 0, none⟩)]] W fun e w' => e = .returned (.bool (p.judges.all (judgeOk p.items.length))) ∧ Ext W w' :=
    fun hn W hW => by
      obtain ⟨q1, q2, q3, q4, q5⟩ := boxes3 hW
      exact everyJudge iA jA ic p.items.length jc w.heap.size (w.heap.size + 1) p.judges W (h.judges.ext (hEx.trans hW)) h.jl hn (q1 0) q2 (by omega) (by omega)
  have C3 : ∀ W, Ext (((w.alloc (.cells #[.slice iA p.items.length ic, .slice jA p.judges.length jc, .int .i64 p.wrong, .slice gA p.grades.length gc] 26)).alloc (.cells #[.func (.func 59) #[] #[]] 100)).alloc (.cells #[.int .i64 (-1)] 3)) W → Calls Try.prog 61 #[.slice gA p.grades.length gc, .func (.func 62) #[] #[.pointer (some ⟨w.heap.size + 2, 0, none⟩)]] W fun e w' => e = .returned (.bool (gradesOk p.grades)) ∧ Ext w w' :=
    fun W hW => by
      obtain ⟨q1, q2, q3, q4, q5⟩ := boxes3 hW
      exact everyGrade gA gc (w.heap.size + 2) p.grades w W (h.grades.ext (hEx.trans hW)) h.gl (hEx.trans hW) (by omega) q3 q4 q5 h.grades
  generalize checkE p = ce at *
  clear h hEx
  cases h1 : wi p.items.length 1 4
  · rw [h1] at HO
    have H1 := Lib.hid C1
    clear C1 C2 C3
    go_enter Try.func39, Try.ntmps39
    go_wp2_with (first
      | (go_at_call 48; refine (withinE _ _ _ _).mono ?_; rintro e w' ⟨rfl, rfl⟩)
      | (go_at_call 63; refine H1.out.mono ?_; rintro e w4 ⟨rfl, hE4⟩; obtain ⟨hb1, hb2, hb3, hb4, hb5⟩ := HBX.out w4 hE4)
      | (go_at_call 64; refine (H1.out).mono ?_; rintro e w5 ⟨rfl, hE5⟩; obtain ⟨hc1, hc2, hc3, hc4, hc5⟩ := HBX.out w5 (Ext.trans hE4 hE5))
      | (go_at_call 61; refine (H1.out).mono ?_; rintro e w6 ⟨rfl, hE6⟩))
    go_ret
    exact ⟨ret_int (HO.out (.inl (by trivial))).symm, HEx.out⟩
  · have hi4 : p.items.length ≤ 4 := by have := wi_true h1; omega
    have C2 := C2 hi4
    cases h2 : p.items.all itemOk
    · rw [h2] at C1 HO
      have H1 := Lib.hid C1
      have H2 := Lib.hid C2
      have H3 := Lib.hid C3
      clear C1 C2 C3 h2
      go_enter Try.func39, Try.ntmps39
      go_wp2_with (first
        | (go_at_call 48; refine (withinE _ _ _ _).mono ?_; rintro e w' ⟨rfl, rfl⟩)
        | (go_at_call 63; refine H1.out.mono ?_; rintro e w4 ⟨rfl, hE4⟩; obtain ⟨hb1, hb2, hb3, hb4, hb5⟩ := HBX.out w4 hE4)
        | (go_at_call 64; refine (H2.out _ hE4).mono ?_; rintro e w5 ⟨rfl, hE5⟩; obtain ⟨hc1, hc2, hc3, hc4, hc5⟩ := HBX.out w5 (Ext.trans hE4 hE5))
        | (go_at_call 61; refine (H3.out _ (Ext.trans hE4 hE5)).mono ?_; rintro e w6 ⟨rfl, hE6⟩))
      go_ret
      exact ⟨ret_int (HO.out (.inr (.inl (by trivial)))).symm, HEx.out.trans hE4⟩
    · rw [h2] at C1 HA
      have H1 := Lib.hid C1
      clear C1 h2
      by_cases h3 : p.judges.length ≤ 4
      · have h3' : (p.judges.length : Int) ≤ 4 := by omega
        cases h4 : p.judges.all (judgeOk p.items.length)
        · rw [h4] at C2 HO
          have H2 := Lib.hid C2
          have H3 := Lib.hid C3
          clear C2 C3 h4
          go_enter Try.func39, Try.ntmps39
          go_wp2_with (first
            | (go_at_call 48; refine (withinE _ _ _ _).mono ?_; rintro e w' ⟨rfl, rfl⟩)
            | (go_at_call 63; refine H1.out.mono ?_; rintro e w4 ⟨rfl, hE4⟩; obtain ⟨hb1, hb2, hb3, hb4, hb5⟩ := HBX.out w4 hE4)
            | (go_at_call 64; refine (H2.out _ hE4).mono ?_; rintro e w5 ⟨rfl, hE5⟩; obtain ⟨hc1, hc2, hc3, hc4, hc5⟩ := HBX.out w5 (Ext.trans hE4 hE5))
            | (go_at_call 61; refine (H3.out _ (Ext.trans hE4 hE5)).mono ?_; rintro e w6 ⟨rfl, hE6⟩))
          go_ret
          exact ⟨ret_int (HO.out (.inr (.inr (.inr (.inl (by trivial)))))).symm, (HEx.out.trans hE4).trans hE5⟩
        · rw [h4] at C2 HA
          have H2 := Lib.hid C2
          clear C2 h4
          cases h5 : wi p.wrong 0 2
          · rw [h5] at HO
            have H3 := Lib.hid C3
            clear C3
            go_enter Try.func39, Try.ntmps39
            go_wp2_with (first
              | (go_at_call 48; refine (withinE _ _ _ _).mono ?_; rintro e w' ⟨rfl, rfl⟩)
              | (go_at_call 63; refine H1.out.mono ?_; rintro e w4 ⟨rfl, hE4⟩; obtain ⟨hb1, hb2, hb3, hb4, hb5⟩ := HBX.out w4 hE4)
              | (go_at_call 64; refine (H2.out _ hE4).mono ?_; rintro e w5 ⟨rfl, hE5⟩; obtain ⟨hc1, hc2, hc3, hc4, hc5⟩ := HBX.out w5 (Ext.trans hE4 hE5))
              | (go_at_call 61; refine (H3.out _ (Ext.trans hE4 hE5)).mono ?_; rintro e w6 ⟨rfl, hE6⟩))
            go_ret
            exact ⟨ret_int (HO.out (.inr (.inr (.inr (.inr (.inl (by trivial))))))).symm, (HEx.out.trans hE4).trans hE5⟩
          · by_cases h6 : p.grades.length ≤ 5
            · have h6' : (p.grades.length : Int) ≤ 5 := by omega
              cases h7 : gradesOk p.grades
              · rw [h7] at HO C3
                have H3 := Lib.hid C3
                clear C3 h7
                go_enter Try.func39, Try.ntmps39
                go_wp2_with (first
                  | (go_at_call 48; refine (withinE _ _ _ _).mono ?_; rintro e w' ⟨rfl, rfl⟩)
                  | (go_at_call 63; refine H1.out.mono ?_; rintro e w4 ⟨rfl, hE4⟩; obtain ⟨hb1, hb2, hb3, hb4, hb5⟩ := HBX.out w4 hE4)
                  | (go_at_call 64; refine (H2.out _ hE4).mono ?_; rintro e w5 ⟨rfl, hE5⟩; obtain ⟨hc1, hc2, hc3, hc4, hc5⟩ := HBX.out w5 (Ext.trans hE4 hE5))
                  | (go_at_call 61; refine (H3.out _ (Ext.trans hE4 hE5)).mono ?_; rintro e w6 ⟨rfl, hE6⟩))
                go_ret
                exact ⟨ret_int (HO.out (.inr (.inr (.inr (.inr (.inr (.inr (by trivial)))))))).symm, hE6⟩
              · rw [h7] at HA C3
                have H3 := Lib.hid C3
                clear C3 h7
                go_enter Try.func39, Try.ntmps39
                go_wp2_with (first
                  | (go_at_call 48; refine (withinE _ _ _ _).mono ?_; rintro e w' ⟨rfl, rfl⟩)
                  | (go_at_call 63; refine H1.out.mono ?_; rintro e w4 ⟨rfl, hE4⟩; obtain ⟨hb1, hb2, hb3, hb4, hb5⟩ := HBX.out w4 hE4)
                  | (go_at_call 64; refine (H2.out _ hE4).mono ?_; rintro e w5 ⟨rfl, hE5⟩; obtain ⟨hc1, hc2, hc3, hc4, hc5⟩ := HBX.out w5 (Ext.trans hE4 hE5))
                  | (go_at_call 61; refine (H3.out _ (Ext.trans hE4 hE5)).mono ?_; rintro e w6 ⟨rfl, hE6⟩))
                go_ret
                exact ⟨ret_int (HA.out h1 (by trivial) h3 (by trivial) h5 h6 (by trivial)).symm, hE6⟩
            · have h6' : (5 : Int) < (p.grades.length : Int) := by omega
              have H3 := Lib.hid C3
              clear C3
              go_enter Try.func39, Try.ntmps39
              go_wp2_with (first
                | (go_at_call 48; refine (withinE _ _ _ _).mono ?_; rintro e w' ⟨rfl, rfl⟩)
                | (go_at_call 63; refine H1.out.mono ?_; rintro e w4 ⟨rfl, hE4⟩; obtain ⟨hb1, hb2, hb3, hb4, hb5⟩ := HBX.out w4 hE4)
                | (go_at_call 64; refine (H2.out _ hE4).mono ?_; rintro e w5 ⟨rfl, hE5⟩; obtain ⟨hc1, hc2, hc3, hc4, hc5⟩ := HBX.out w5 (Ext.trans hE4 hE5))
                | (go_at_call 61; refine (H3.out _ (Ext.trans hE4 hE5)).mono ?_; rintro e w6 ⟨rfl, hE6⟩))
              go_ret
              exact ⟨ret_int (HO.out (.inr (.inr (.inr (.inr (.inr (.inl (by omega)))))))).symm, (HEx.out.trans hE4).trans hE5⟩
      · have h3' : (4 : Int) < (p.judges.length : Int) := by omega
        have H2 := Lib.hid C2
        have H3 := Lib.hid C3
        clear C2 C3
        go_enter Try.func39, Try.ntmps39
        go_wp2_with (first
          | (go_at_call 48; refine (withinE _ _ _ _).mono ?_; rintro e w' ⟨rfl, rfl⟩)
          | (go_at_call 63; refine H1.out.mono ?_; rintro e w4 ⟨rfl, hE4⟩; obtain ⟨hb1, hb2, hb3, hb4, hb5⟩ := HBX.out w4 hE4)
          | (go_at_call 64; refine (H2.out _ hE4).mono ?_; rintro e w5 ⟨rfl, hE5⟩; obtain ⟨hc1, hc2, hc3, hc4, hc5⟩ := HBX.out w5 (Ext.trans hE4 hE5))
          | (go_at_call 61; refine (H3.out _ (Ext.trans hE4 hE5)).mono ?_; rintro e w6 ⟨rfl, hE6⟩))
        go_ret
        exact ⟨ret_int (HO.out (.inr (.inr (.inl (by omega))))).symm, HEx.out.trans hE4⟩
end Go.Proofs.Ytbpilgflejdhaaa
