/- Check, Range, Points, Grade, Blame and Fewest return what the document specifies (ExamsRanges): for any paper the law returns true and leaves its argument as it was. No condition. -/
import Derived.Test.YtbpilgflejdhaaaRows
import Derived.Test.YtbpilgflejdhaaaExS12
import Derived.Test.YtbpilgflejdhaaaExRead
import Derived.Test.YtbpilgflejdhaaaRow
import Derived.ClosedOfChecked
namespace Go.Proofs.Ytbpilgflejdhaaa
open Go.ChangeShapes Go.WideShapes Go.ChangeAt Go.RowKit

theorem own : ownKnob Try.prog.godebug = none := by kernel_rfl
theorem laidOutT : laidOutB Try.prog = true := (Go.ClosedOfChecked.closed_of_checked Try.checked (by kernel_rfl) (by kernel_rfl) (by kernel_rfl)).1

set_option maxRecDepth 100000 in
theorem rngw_lifted (os : Os) (started : os.Started) (H : Type) (enc : TypeId × Value → H) :
    ReturnsInHanded {} Try.checked os 12 .any (Rows.examsRangesSpec.pre6 enc Try.prog Try.f12 Rows.examsRangesRow.domain false) (Rows.examsRangesSpec.post enc Try.prog Try.f12 false true false false) := by
  refine returnsInHanded_of_change (C := Try.checked) own started (by kernel_rfl) Try.func12
    (ChangeSpec.witness6 (enc := enc) (C := Try.checked) false ⟨#[], #[.agg #[.slice none 0 0, .slice none 0 0, .int .i64 0, .slice none 0 0]], []⟩ 8 (by kernel_rfl) (by kernel_rfl) (by kernel_rfl) (by kernel_rfl)) ?_
  intro W base args ds gs before hval0 hW hcnd _
  have hval : ∀ (j : Nat) t v, Try.f12.params[j]? = some t → args[j]? = some v → Value.okWide Try.prog W .any base t v := hval0
  have hW' := hW
  obtain ⟨pp, q, hA0, hV, rfl, hfz, hnd⟩ := hW
  have hA : DataW.TrodAll enc Try.prog W 0 (fun _ => true) true Try.f12.params.toList args.toList ds pp := hA0
  rw [Try.params12] at hA hval
  obtain ⟨v0, vs0, d0, ds0, p0, q0, hargs, rfl, rfl, h0, r0⟩ := trodAll_cons hA
  obtain ⟨rfl, rfl, rfl⟩ := trodAll_nil r0
  obtain rfl : args = #[v0] := by cases args; simp_all
  obtain ⟨cs0, rfl, _⟩ := okWide_struct Try.underlying26 (hval 0 26 v0 rfl rfl)
  obtain ⟨n0, h0⟩ := h0
  obtain ⟨p, iA, jA, gA, ic, jc, gc, hc0, hP, _⟩ := rdx_paper h0
  have e0 : cs0 = #[.slice iA p.items.length ic, .slice jA p.judges.length jc, .int .i64 p.wrong, .slice gA p.grades.length gc] := by
    apply Array.ext'; simpa [Value.cells] using hc0
  subst e0
  refine (ranges_law iA jA gA ic jc gc p W hP).mono fun e W' ⟨he, hE⟩ => ?_
  subst he
  exact ⟨_, rfl, law_post (tb := 4) laidOutT (by rw [Try.params12]; intro t ht; simp at ht; rcases ht with rfl <;> exact ⟨by kernel_rfl, of_decide_eq_true (by kernel_rfl)⟩) rfl Try.underlying4 rfl (fun l hl => by
    rw [Try.params12] at hl
    match l, hl with
    | [a], _ => rfl) hW' hE⟩

/-- THE STATEMENT. -/
theorem rngw_over : Rows.examsRangesRow.holds Try.pinned (OpenSpec.ofChange Rows.examsRangesSpec) :=
  OpenClaim.holds_of_wide 12 Try.f12 rfl rfl rfl rfl rfl rfl rfl ⟨rfl, rfl, rfl, rfl, rfl⟩ rfl rfl rfl rfl rfl (by kernel_rfl) Try.func12 (by kernel_rfl)
    (of_decide_eq_true (by kernel_rfl)) (by unfold Func.isWrapper; first | (rw [if_pos (by decide +kernel)]; kernel_rfl) | (rw [if_neg (by decide +kernel)]; exact ⟨rfl, rfl⟩))
    (fun os started H enc _ => rngw_lifted os started H enc)
theorem rngw_holds : Rows.ExamsRangesSaid := rngw_over
end Go.Proofs.Ytbpilgflejdhaaa
