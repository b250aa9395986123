/- THE THEOREM OF THE NEXT MARK (ExamsMarked) is true of every input: for any paper, any two lists of points, any mark and any error the law returns true and leaves its arguments as they were. No condition. -/
import Derived.Test.YtbpilgflejdhaaaRows
import Derived.Test.YtbpilgflejdhaaaExS5b
import Derived.Test.YtbpilgflejdhaaaExRead
import Derived.Test.YtbpilgflejdhaaaRow
import Derived.ClosedOfChecked
namespace Go.Proofs.Ytbpilgflejdhaaa
open Go.ChangeShapes Go.WideShapes Go.ChangeAt Go.RowKit

theorem marked_any (iA jA gA oA tA : Option Addr) (ic jc gc oc tc : Nat) (p : Paper) (one two : List Int) (mk err : Int) (w : World) (h : PaperAt w iA jA gA p) (hO : Ints w oA one) (hT : Ints w tA two) (hol : one.length ≤ 9223372036854775807) (htl : two.length ≤ 9223372036854775807) (hmk : I64 mk) :
    Calls Try.prog 5 #[.agg #[.slice iA p.items.length ic, .slice jA p.judges.length jc, .int .i64 p.wrong, .slice gA p.grades.length gc], .agg #[.slice oA one.length oc, .slice tA two.length tc, .int .i64 mk, .int .i64 err]] w fun e w' => e = .returned (.bool true) ∧ Ext w w' := by
  by_cases hc : readyM p = false ∨ 20 < one.length ∨ 20 < two.length ∨ err < 0 ∨ 5 < err
  · exact marked_early iA jA gA oA tA ic jc gc oc tc p one two mk err w h hol htl hc
  · have hr : readyM p = true := by
      cases hq : readyM p
      · exact absurd (.inl hq) hc
      · rfl
    rw [hr] at hc
    cases hp : (openM p).poss
    · exact marked_none iA jA gA oA tA ic jc gc oc tc p one two mk err w h hr (by omega) (by omega) (by omega) hp
    · exact marked_ok iA jA gA oA tA ic jc gc oc tc p one two mk err w hmk h hO hT hr (by omega) (by omega) (by omega) hp

section
variable {H : Type} {enc : TypeId × Value → H} {w : World} {base : Nat} {held : Bool}
theorem rdx_mark {n : Nat} {cs : List Value} {y : DataW H × List MemPlace} (h : DataW.trod enc Try.prog w base (fun _ => true) held n 46 cs = some y) :
    ∃ one two oA tA oc tc, ∃ mk err : Int, cs = [.slice oA (List.length one) oc, .slice tA (List.length two) tc, .int .i64 mk, .int .i64 err] ∧ Ints w oA one ∧ Ints w tA two ∧ one.length ≤ 9223372036854775807 ∧ two.length ≤ 9223372036854775807 ∧ I64 mk := by
  obtain ⟨k1, k2, k3, k4, k5, k6, k7, k8⟩ := cells_sizes
  have k9 : Try.prog.cellsOf 46 = 4 := by kernel_rfl
  obtain ⟨y0, y1, y2, y3, q, _, hlen, h0, h1, h2, h3⟩ := Joins.trod_struct4 Try.underlying46 h
  rw [k9] at hlen
  simp only [k1, k2] at h0 h1 h2 h3
  match cs, hlen with
  | [c0, c1, c2, c3], _ =>
    simp only [List.drop_zero, List.take_succ_cons, List.take_zero, List.drop_succ_cons] at h0 h1 h2 h3
    obtain ⟨oA, oc, lo, e0, ho, hol, _⟩ := rdx_ints h0
    obtain ⟨tA, tc, lt, e1, ht, htl, _⟩ := rdx_ints h1
    obtain ⟨mk, e2, hmk⟩ := rdx_int h2
    obtain ⟨er, e3, _⟩ := rdx_int h3
    injection e2 with e2
    injection e3 with e3
    exact ⟨lo, lt, oA, tA, oc, tc, mk, er, by rw [e0, e1, e2, e3], ho, ht, hol, htl, hmk⟩
end

theorem own : ownKnob Try.prog.godebug = none := by kernel_rfl
theorem laidOutT : laidOutB Try.prog = true := (Go.ClosedOfChecked.closed_of_checked Try.checked (by kernel_rfl) (by kernel_rfl) (by kernel_rfl)).1
set_option maxRecDepth 100000 in
theorem marked_lifted (os : Os) (started : os.Started) (H : Type) (enc : TypeId × Value → H) :
    ReturnsInHanded {} Try.checked os 5 .any (Rows.examsMarkedSpec.pre6 enc Try.prog Try.f5 Rows.examsMarkedRow.domain false) (Rows.examsMarkedSpec.post enc Try.prog Try.f5 false true false false) := by
  refine returnsInHanded_of_change (C := Try.checked) own started (by kernel_rfl) Try.func5
    (ChangeSpec.witness6 (enc := enc) (C := Try.checked) false ⟨#[], #[.agg #[.slice none 0 0, .slice none 0 0, .int .i64 0, .slice none 0 0], .agg #[.slice none 0 0, .slice none 0 0, .int .i64 0, .int .i64 0]], []⟩ 8 (by kernel_rfl) (by kernel_rfl) (by kernel_rfl) (by kernel_rfl)) ?_
  intro W base args ds gs before hval0 hW hcnd _
  have hval : ∀ (j : Nat) t v, Try.f5.params[j]? = some t → args[j]? = some v → Value.okWide Try.prog W .any base t v := hval0
  have hW' := hW
  obtain ⟨pp, q, hA0, hV, rfl, hfz, hnd⟩ := hW
  have hA : DataW.TrodAll enc Try.prog W 0 (fun _ => true) true Try.f5.params.toList args.toList ds pp := hA0
  rw [Try.params5] at hA hval
  obtain ⟨v0, vs0, d0, ds0, p0, q0, hargs, rfl, rfl, h0, r0⟩ := trodAll_cons hA
  obtain ⟨v1, vs1, d1, ds1, p1, q1, rfl, rfl, rfl, h1, r1⟩ := trodAll_cons r0
  obtain ⟨rfl, rfl, rfl⟩ := trodAll_nil r1
  obtain rfl : args = #[v0, v1] := by cases args; simp_all
  obtain ⟨cs0, rfl, _⟩ := okWide_struct Try.underlying26 (hval 0 26 v0 rfl rfl)
  obtain ⟨cs1, rfl, _⟩ := okWide_struct Try.underlying46 (hval 1 46 v1 rfl rfl)
  obtain ⟨n0, h0⟩ := h0
  obtain ⟨n1, h1⟩ := h1
  obtain ⟨p, iA, jA, gA, ic, jc, gc, hc0, hP, _⟩ := rdx_paper h0
  obtain ⟨one, two, oA, tA, oc, tc, mk, err, hc1, hO, hT, hol, htl, hmk⟩ := rdx_mark h1
  have e0 : cs0 = #[.slice iA p.items.length ic, .slice jA p.judges.length jc, .int .i64 p.wrong, .slice gA p.grades.length gc] := by
    apply Array.ext'; simpa [Value.cells] using hc0
  have e1 : cs1 = #[.slice oA one.length oc, .slice tA two.length tc, .int .i64 mk, .int .i64 err] := by
    apply Array.ext'; simpa [Value.cells] using hc1
  subst e0
  subst e1
  refine (marked_any iA jA gA oA tA ic jc gc oc tc p one two mk err W hP hO hT hol htl hmk).mono fun e W' ⟨he, hE⟩ => ?_
  subst he
  exact ⟨_, rfl, law_post (tb := 4) laidOutT (by rw [Try.params5]; intro t ht; simp at ht; rcases ht with rfl | rfl <;> exact ⟨by kernel_rfl, of_decide_eq_true (by kernel_rfl)⟩) rfl Try.underlying4 rfl (fun l hl => by
    rw [Try.params5] at hl
    match l, hl with
    | [a, b], _ => rfl) hW' hE⟩

/-- THE STATEMENT. -/
theorem marked_over : Rows.examsMarkedRow.holds Try.pinned (OpenSpec.ofChange Rows.examsMarkedSpec) :=
  OpenClaim.holds_of_wide 5 Try.f5 rfl rfl rfl rfl rfl rfl rfl ⟨rfl, rfl, rfl, rfl, rfl⟩ rfl rfl rfl rfl rfl (by kernel_rfl) Try.func5 (by kernel_rfl)
    (of_decide_eq_true (by kernel_rfl)) (by unfold Func.isWrapper; first | (rw [if_pos (by decide +kernel)]; kernel_rfl) | (rw [if_neg (by decide +kernel)]; exact ⟨rfl, rfl⟩))
    (fun os started H enc _ => marked_lifted os started H enc)
theorem marked_holds : Rows.ExamsMarkedSaid := marked_over
end Go.Proofs.Ytbpilgflejdhaaa
