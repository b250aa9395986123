/- Exams: known, Range, Fewest, Grade. -/
import Derived.Test.YtbpilgflejdhaaaExR
import Derived.Test.YtbpilgflejdhaaaExPl
namespace Go.Proofs.Ytbpilgflejdhaaa
open Go.RowKit

theorem box2 {w W : World} {cs cs' : Array Value} {T1 T2 : TypeId} (h : Ext ((w.alloc (.cells cs T1)).alloc (.cells cs' T2)) W) :
    (∀ i, W.cell? ⟨w.heap.size, i, none⟩ = cs[i]?) ∧ (∀ i, W.cell? ⟨w.heap.size + 1, i, none⟩ = cs'[i]?) ∧ (∀ i, W.frozen? ⟨w.heap.size, i, none⟩ = false) ∧ (∀ i, W.frozen? ⟨w.heap.size + 1, i, none⟩ = false) ∧ w.heap.size + 1 < W.heap.size := by
  refine ⟨fun i => h.unalloc.box i, fun i => ?_, fun i => h.unalloc.boxFree i, fun i => ?_, ?_⟩
  · have := h.box i; simpa using this
  · have := h.boxFree i; simpa using this
  · have := h.lt; simpa using this
set_option maxHeartbeats 1000000 in
theorem known_err (iA jA gA : Option Addr) (ic jc gc : Nat) (p : Paper) (t : Bool) (c : Int) (w : World) (h : PaperAt w iA jA gA p) (hk : knownE p t = c) (hc : c ≠ 0) :
    Calls Try.prog 47 #[.agg #[.slice iA p.items.length ic, .slice jA p.judges.length jc, .int .i64 p.wrong, .slice gA p.grades.length gc], .bool t] w fun e w' => e = .returned (.tuple #[.pointer none, .int .i64 c]) ∧ Ext w w' := by
  have HX := Lib.hid (Ext.of_alloc w (.cells #[.slice iA p.items.length ic, .slice jA p.judges.length jc, .int .i64 p.wrong, .slice gA p.grades.length gc] 26))
  have H := Lib.hid h
  clear h
  rcases knownE_err hk hc with ⟨hv, rfl⟩ | ⟨hv, rfl, rfl⟩ | ⟨hv, rfl, hp, rfl⟩
  · have HO := Lib.hid (open_err iA jA gA ic jc gc p _ (H.out.ext HX.out) (by simp [checkE, hv]))
    clear hk hc hv
    go_enter Try.func47, Try.ntmps47
    go_wp2_with fail
    refine HO.out.mono ?_
    rintro e w1 ⟨rfl, hE1⟩
    have HE1 := Lib.hid hE1
    clear hE1
    go_wp2
    go_ret2
    exact ⟨rfl, HX.out.trans HE1.out⟩
  · have HO := Lib.hid (open_ok iA jA gA ic jc gc p _ (H.out.ext HX.out) hv)
    clear hk hc hv
    go_enter Try.func47, Try.ntmps47
    go_wp2_with fail
    refine HO.out.mono ?_
    rintro e w1 ⟨B, M, R, rc, rfl, hS1, hE1⟩
    have HE1 := Lib.hid hE1
    clear hE1 hS1
    go_wp2
    go_ret2
    exact ⟨rfl, HX.out.trans HE1.out⟩
  · have HO := Lib.hid (open_ok iA jA gA ic jc gc p _ (H.out.ext HX.out) hv)
    have HP := Lib.hid hp
    clear hk hc hv hp
    go_enter Try.func47, Try.ntmps47
    go_wp2_with fail
    refine HO.out.mono ?_
    rintro e w1 ⟨B, M, R, rc, rfl, hS1, hE1⟩
    have HE1 := Lib.hid hE1
    obtain ⟨c0, c1, c2, c3, c4, c5, c6, c7, c8, c9⟩ := hS1.cell
    rw [HP.out] at c7
    have hB := hS1.ltB
    clear hE1 hS1
    go_wp2
    go_ret2
    exact ⟨rfl, HX.out.trans HE1.out⟩

set_option maxHeartbeats 1000000 in
theorem known_ok (iA jA gA : Option Addr) (ic jc gc : Nat) (p : Paper) (t : Bool) (w : World) (h : PaperAt w iA jA gA p) (hk : knownE p t = 0) :
    Calls Try.prog 47 #[.agg #[.slice iA p.items.length ic, .slice jA p.judges.length jc, .int .i64 p.wrong, .slice gA p.grades.length gc], .bool t] w fun e w' => ∃ B M R rc, e = .returned (.tuple #[.pointer (some ⟨B, 0, none⟩), .int .i64 0]) ∧ SurvAt w' ⟨B, M, R, rc, iA, jA, gA, ic, jc, gc⟩ p (openM p) ∧ Ext w w' := by
  have HX := Lib.hid (Ext.of_alloc w (.cells #[.slice iA p.items.length ic, .slice jA p.judges.length jc, .int .i64 p.wrong, .slice gA p.grades.length gc] 26))
  obtain ⟨hv, rfl, hp⟩ := knownE_ok hk
  have HO := Lib.hid (open_ok iA jA gA ic jc gc p _ (h.ext HX.out) hv)
  have HP := Lib.hid hp
  clear hk hv hp h
  go_enter Try.func47, Try.ntmps47
  go_wp2_with fail
  refine HO.out.mono ?_
  rintro e w1 ⟨B, M, R, rc, rfl, hS1, hE1⟩
  have HE1 := Lib.hid hE1
  have HS1 := Lib.hid hS1
  obtain ⟨c0, c1, c2, c3, c4, c5, c6, c7, c8, c9⟩ := hS1.cell
  rw [HP.out] at c7
  have hB := hS1.ltB
  clear hE1 hS1
  go_wp2
  go_ret2
  exact ⟨B, M, R, rc, rfl, HS1.out, HX.out.trans HE1.out⟩

set_option maxHeartbeats 1000000 in
theorem range_any (iA jA gA : Option Addr) (ic jc gc : Nat) (p : Paper) (lo hi c : Int) (w : World) (h : PaperAt w iA jA gA p) (hr : rangeM p = ((lo, hi), c)) :
    Calls Try.prog 19 #[.agg #[.slice iA p.items.length ic, .slice jA p.judges.length jc, .int .i64 p.wrong, .slice gA p.grades.length gc]] w fun e w' => e = .returned (.tuple #[.agg #[.int .i64 lo, .int .i64 hi], .int .i64 c]) ∧ Ext w w' := by
  have HX := Lib.hid ((Ext.of_alloc w (.cells #[.slice iA p.items.length ic, .slice jA p.judges.length jc, .int .i64 p.wrong, .slice gA p.grades.length gc] 26)).alloc (.cells #[.int .i64 0, .int .i64 0] 35))
  unfold rangeM at hr
  by_cases hk : knownE p true = 0
  · rw [if_pos hk] at hr
    have HO := Lib.hid (known_ok iA jA gA ic jc gc p true _ (h.ext HX.out) hk)
    injection hr with hr hc
    subst hc
    have HR := Lib.hid hr
    clear hk hr h
    go_enter Try.func19, Try.ntmps19
    go_wp2_with fail
    refine HO.out.mono ?_
    rintro e w1 ⟨B, M, R, rc, rfl, hS1, hE1⟩
    have HE1 := Lib.hid hE1
    obtain ⟨c0, c1, c2, c3, c4, c5, c6, c7, c8, c9⟩ := hS1.cell
    rw [HR.out] at c8 c9
    have hB := hS1.ltB
    obtain ⟨b1, b2, f1, f2, hlt⟩ := box2 hE1
    have HF := Lib.hid (show ∀ W, Below w.heap.size w1 W → Ext w W from fun W hb => Below.trans (HX.out.trans hE1) hb)
    clear hE1 hS1
    go_wp2
    refine bodyPost_ret (v := .tuple #[.agg #[.int .i64 lo, .int .i64 hi], .int .i64 0]) (by simp [results, Try.results19, go_sem, b2]) rfl ⟨rfl, HF.out _ ?_⟩
    exact ((Below.refl _ _).setCell (by simp) _).setCell (by simp) _
  · rw [if_neg hk] at hr
    have HO := Lib.hid (known_err iA jA gA ic jc gc p true _ _ (h.ext HX.out) rfl hk)
    injection hr with hr hc
    injection hr with h1 h2
    subst h1; subst h2
    rw [hc] at HO hk
    have hc0 : (c != 0) = true := by simpa using hk
    clear hk hc h
    go_enter Try.func19, Try.ntmps19
    go_wp2_with fail
    refine HO.out.mono ?_
    rintro e w1 ⟨rfl, hE1⟩
    have HE1 := Lib.hid hE1
    obtain ⟨b1, b2, f1, f2, hlt⟩ := box2 hE1
    have HF := Lib.hid (show ∀ W, Below w.heap.size w1 W → Ext w W from fun W hb => Below.trans (HX.out.trans hE1) hb)
    clear hE1
    go_wp2
    refine bodyPost_ret (v := .tuple #[.agg #[.int .i64 0, .int .i64 0], .int .i64 c]) (by simp [results, Try.results19, go_sem, b2]) rfl ⟨rfl, HF.out _ ?_⟩
    exact ((Below.refl _ _).setCell (by simp) _).setCell (by simp) _

set_option maxHeartbeats 1000000 in
theorem fewest_any (iA jA gA : Option Addr) (ic jc gc : Nat) (p : Paper) (n c : Int) (w : World) (h : PaperAt w iA jA gA p) (hr : fewestM p = (n, c)) :
    Calls Try.prog 24 #[.agg #[.slice iA p.items.length ic, .slice jA p.judges.length jc, .int .i64 p.wrong, .slice gA p.grades.length gc]] w fun e w' => e = .returned (.tuple #[.int .i64 n, .int .i64 c]) ∧ Ext w w' := by
  have HX := Lib.hid ((Ext.of_alloc w (.cells #[.slice iA p.items.length ic, .slice jA p.judges.length jc, .int .i64 p.wrong, .slice gA p.grades.length gc] 26)))
  unfold fewestM at hr
  cases hv : validB p
  · rw [hv] at hr
    injection hr with h1 h2
    subst h1; subst h2
    have HO := Lib.hid (open_err iA jA gA ic jc gc p _ (h.ext HX.out) (by simp [checkE, hv]))
    clear h hv
    go_enter Try.func24, Try.ntmps24
    go_wp2_with fail
    refine HO.out.mono ?_
    rintro e w1 ⟨rfl, hE1⟩
    have HE1 := Lib.hid hE1
    clear hE1
    go_wp2
    go_ret2
    exact ⟨rfl, HX.out.trans HE1.out⟩
  · rw [hv] at hr
    injection hr with h1 h2
    subst h2
    have HN := Lib.hid h1
    have HO := Lib.hid (open_ok iA jA gA ic jc gc p _ (h.ext HX.out) hv)
    clear h hv h1
    go_enter Try.func24, Try.ntmps24
    go_wp2_with fail
    refine HO.out.mono ?_
    rintro e w1 ⟨B, M, R, rc, rfl, hS1, hE1⟩
    have HE1 := Lib.hid hE1
    obtain ⟨c0, c1, c2, c3, c4, c5, c6, c7, c8, c9⟩ := hS1.cell
    rw [HN.out] at c6
    have hB := hS1.ltB
    clear hE1 hS1
    go_wp2
    go_ret2
    exact ⟨rfl, HX.out.trans HE1.out⟩
end Go.Proofs.Ytbpilgflejdhaaa
