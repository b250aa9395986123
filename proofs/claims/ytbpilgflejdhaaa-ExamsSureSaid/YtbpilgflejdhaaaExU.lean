/- Exams: the walk over Grade. -/
import Derived.Test.YtbpilgflejdhaaaExS
import Derived.Deep.RegionHeld3
namespace Go.Proofs.Ytbpilgflejdhaaa
open Go.RowKit



set_option maxHeartbeats 2000000 in
theorem grade_any (iA jA gA : Option Addr) (ic jc gc : Nat) (p : Paper) (lo hi c : Int) (w : World) (h : PaperAt w iA jA gA p) (hr : gradeMod p = ((lo, hi), c)) :
    Calls Try.prog 30 #[.agg #[.slice iA p.items.length ic, .slice jA p.judges.length jc, .int .i64 p.wrong, .slice gA p.grades.length gc]] w fun e w' => e = .returned (.tuple #[.agg #[.int .i64 lo, .int .i64 hi], .int .i64 c]) ∧ Ext w w' := by
  have HX := Lib.hid ((Ext.of_alloc w (.cells #[.slice iA p.items.length ic, .slice jA p.judges.length jc, .int .i64 p.wrong, .slice gA p.grades.length gc] 26)).alloc (.cells #[.int .i64 0, .int .i64 0] 35))
  unfold gradeMod at hr
  by_cases hk : knownE p true = 0
  · rw [if_pos hk] at hr
    have HO := Lib.hid (known_ok iA jA gA ic jc gc p true _ (h.ext HX.out) hk)
    have hgl := (valid_of (knownE_ok hk).1).gl
    injection hr with hr hc
    injection hr with h1 h2
    subst hc
    have H1 := Lib.hid h1
    have H2 := Lib.hid h2
    obtain ⟨r1, hr1⟩ : ∃ r1, (openM p).res.1 = r1 := ⟨_, rfl⟩
    obtain ⟨r2, hr2⟩ : ∃ r2, (openM p).res.2 = r2 := ⟨_, rfl⟩
    have HR1 := Lib.hid hr1
    have HR2 := Lib.hid hr2
    have HG := Lib.hid h.grades
    clear hk h1 h2 h hr1 hr2
    go_enter Try.func30, Try.ntmps30
    go_wp2_with fail
    refine HO.out.mono ?_
    rintro e w1 ⟨B, M, R, rc, rfl, hS1, hE1⟩
    have HE1 := Lib.hid hE1
    obtain ⟨c0, c1, c2, c3, c4, c5, c6, c7, c8, c9⟩ := hS1.cell
    rw [HR1.out] at c8
    rw [HR2.out] at c9
    have hB := hS1.ltB
    obtain ⟨b1, b2, f1, f2, hlt⟩ := box2 hE1
    have hne : ¬ B = w.heap.size + 1 := by
      intro e
      rw [e, b2 4] at c8
      cases c8
    have hne' : ¬ w.heap.size + 1 = B := fun e => hne e.symm
    have d0 : w1.cell? ⟨w.heap.size + 1, 0, none⟩ = some (.int .i64 0) := b2 0
    have d1 : w1.cell? ⟨w.heap.size + 1, 1, none⟩ = some (.int .i64 0) := b2 1
    have e0 := f2 0
    have e1 := f2 1
    have HF := Lib.hid (show ∀ W, Below w.heap.size w1 W → Ext w W from fun W hb => Below.trans (HX.out.trans hE1) hb)
    have HC := Lib.hid (show ∀ W r, Ext w1 W → Calls Try.prog 57 #[.pointer (some ⟨B, 0, none⟩), .int .i64 r] W fun e W' => e = .returned (.int .i64 (gradeP p.grades r)) ∧ W = W' from fun W r e => gradeS_any ⟨B, M, R, rc, iA, jA, gA, ic, jc, gc⟩ p (openM p) r W (hS1.ext e) (HG.out.ext ((HX.out.trans hE1).trans e)) hgl)
    clear hE1 hS1 b1 b2 f1 f2
    go_wp2_with fail
    go_region_held3 (fun w' => w'.cell? ⟨B, 4, none⟩ = some (.int .i64 r1) ∧ w'.cell? ⟨B, 5, none⟩ = some (.int .i64 r2)) (go_keep)
      (first
        | (go_at_call 57; refine (HC.out _ _ (Ext.refl _).drew).mono ?_; rintro e w' ⟨rfl, rfl⟩))
    all_goals
      go_wp2
      have q1 := HR1.out
      have q2 := HR2.out
      have h1 := H1.out
      have h2 := H2.out
      rw [q1] at h1
      rw [q2] at h2
      subst h1
      subst h2
      refine bodyPost_ret (v := .tuple #[.agg #[.int .i64 (gradeP p.grades r1 : Nat), .int .i64 (gradeP p.grades r2 : Nat)], .int .i64 0]) (by simp [results, Try.results30, go_sem, d0, d1]) rfl ⟨rfl, HF.out _ ?_⟩
      repeat (first | exact Below.refl _ _ | refine Below.drew ?_ | (refine Below.setCell ?_ (by simp) _))
  · rw [if_neg hk] at hr
    have HO := Lib.hid (known_err iA jA gA ic jc gc p true _ _ (h.ext HX.out) rfl hk)
    injection hr with hr hc
    injection hr with h1 h2
    subst h1; subst h2
    rw [hc] at HO hk
    have hc0 : (c != 0) = true := by simpa using hk
    clear hk hc h
    go_enter Try.func30, Try.ntmps30
    go_wp2_with fail
    refine HO.out.mono ?_
    rintro e w1 ⟨rfl, hE1⟩
    have HE1 := Lib.hid hE1
    obtain ⟨b1, b2, f1, f2, hlt⟩ := box2 hE1
    have HF := Lib.hid (show ∀ W, Below w.heap.size w1 W → Ext w W from fun W hb => Below.trans (HX.out.trans hE1) hb)
    clear hE1
    go_wp2
    refine bodyPost_ret (v := .tuple #[.agg #[.int .i64 0, .int .i64 0], .int .i64 c]) (by simp [results, Try.results30, go_sem, b2]) rfl ⟨rfl, HF.out _ ?_⟩
    exact ((Below.refl _ _).setCell (by simp) _).setCell (by simp) _
end Go.Proofs.Ytbpilgflejdhaaa
