/- THE THEOREM OF THE WRONG JUDGES (ExamsFewest) is true of every input: for any paper, any points and any number the law returns true and leaves its arguments as they were. No condition. -/
import Derived.Test.YtbpilgflejdhaaaRows
import Derived.Test.YtbpilgflejdhaaaExS6
import Derived.Test.YtbpilgflejdhaaaExRead
import Derived.Test.YtbpilgflejdhaaaRow
import Derived.ClosedOfChecked
namespace Go.Proofs.Ytbpilgflejdhaaa
open Go.ChangeShapes Go.WideShapes Go.ChangeAt Go.RowKit

theorem own : ownKnob Try.prog.godebug = none := by kernel_rfl
theorem laidOutT : laidOutB Try.prog = true := (Go.ClosedOfChecked.closed_of_checked Try.checked (by kernel_rfl) (by kernel_rfl) (by kernel_rfl)).1

set_option maxRecDepth 100000 in
theorem feww_lifted (os : Os) (started : os.Started) (H : Type) (enc : TypeId × Value → H) :
    ReturnsInHanded {} Try.checked os 6 .any (Rows.examsFewestSpec.pre6 enc Try.prog Try.f6 Rows.examsFewestRow.domain false) (Rows.examsFewestSpec.post enc Try.prog Try.f6 false true false false) := by
  refine returnsInHanded_of_change (C := Try.checked) own started (by kernel_rfl) Try.func6
    (ChangeSpec.witness6 (enc := enc) (C := Try.checked) false ⟨#[], #[.agg #[.slice none 0 0, .slice none 0 0, .int .i64 0, .slice none 0 0], .slice none 0 0, .int .i64 0], []⟩ 8 (by kernel_rfl) (by kernel_rfl) (by kernel_rfl) (by kernel_rfl)) ?_
  intro W base args ds gs before hval0 hW hcnd _
  have hval : ∀ (j : Nat) t v, Try.f6.params[j]? = some t → args[j]? = some v → Value.okWide Try.prog W .any base t v := hval0
  have hW' := hW
  obtain ⟨pp, q, hA0, hV, rfl, hfz, hnd⟩ := hW
  have hA : DataW.TrodAll enc Try.prog W 0 (fun _ => true) true Try.f6.params.toList args.toList ds pp := hA0
  rw [Try.params6] at hA hval
  obtain ⟨v0, vs0, d0, ds0, p0, q0, hargs, rfl, rfl, h0, r0⟩ := trodAll_cons hA
  obtain ⟨v1, vs1, d1, ds1, p1, q1, rfl, rfl, rfl, h1, r1⟩ := trodAll_cons r0
  obtain ⟨v2, vs2, d2, ds2, p2, q2, rfl, rfl, rfl, h2, r2⟩ := trodAll_cons r1
  obtain ⟨rfl, rfl, rfl⟩ := trodAll_nil r2
  obtain rfl : args = #[v0, v1, v2] := by cases args; simp_all
  obtain ⟨cs0, rfl, _⟩ := okWide_struct Try.underlying26 (hval 0 26 v0 rfl rfl)
  obtain ⟨n0, h0⟩ := h0
  obtain ⟨p, iA, jA, gA, ic, jc, gc, hc0, hP, _⟩ := rdx_paper h0
  have e0 : cs0 = #[.slice iA p.items.length ic, .slice jA p.judges.length jc, .int .i64 p.wrong, .slice gA p.grades.length gc] := by
    apply Array.ext'; simpa [Value.cells] using hc0
  subst e0
  obtain ⟨aA1, aLen1, aCap1, rfl⟩ := okWide_slice Try.underlying24 (hval 1 24 v1 rfl rfl)
  obtain ⟨n1, h1⟩ := h1
  obtain ⟨ptsA, ptsc, pts, hv1, ptsI, ptsL, _, _⟩ := rdx_ints h1
  rw [hv1] at hW' ⊢
  obtain ⟨less, rfl, rfl, rfl, _⟩ := open_int Try.underlying3 (hval 2 3 v2 rfl rfl) h2
  refine (fewest_law iA jA gA ptsA ic jc gc ptsc p pts less W hP ptsI ptsL).mono fun e W' ⟨he, hE⟩ => ?_
  subst he
  exact ⟨_, rfl, law_post (tb := 4) laidOutT (by rw [Try.params6]; intro t ht; simp at ht; rcases ht with rfl | rfl | rfl <;> exact ⟨by kernel_rfl, of_decide_eq_true (by kernel_rfl)⟩) rfl Try.underlying4 rfl (fun l hl => by
    rw [Try.params6] at hl
    match l, hl with
    | [a, b, c], _ => rfl) hW' hE⟩

/-- THE STATEMENT. -/
theorem feww_over : Rows.examsFewestRow.holds Try.pinned (OpenSpec.ofChange Rows.examsFewestSpec) :=
  OpenClaim.holds_of_wide 6 Try.f6 rfl rfl rfl rfl rfl rfl rfl ⟨rfl, rfl, rfl, rfl, rfl⟩ rfl rfl rfl rfl rfl (by kernel_rfl) Try.func6 (by kernel_rfl)
    (of_decide_eq_true (by kernel_rfl)) (by unfold Func.isWrapper; first | (rw [if_pos (by decide +kernel)]; kernel_rfl) | (rw [if_neg (by decide +kernel)]; exact ⟨rfl, rfl⟩))
    (fun os started H enc _ => feww_lifted os started H enc)
theorem feww_holds : Rows.ExamsFewestSaid := feww_over
end Go.Proofs.Ytbpilgflejdhaaa
