/- THE THEOREM OF THE RANKS (ExamsRanked) is true of every input: for any papers and truths the law returns true and leaves its arguments as they were. No condition. -/
import Derived.Test.YtbpilgflejdhaaaRows
import Derived.Test.YtbpilgflejdhaaaBo2
import Derived.ClosedOfChecked

namespace Go.Proofs.Ytbpilgflejdhaaa
open Go.ChangeShapes Go.WideShapes Go.ChangeAt Go.RowKit

theorem own : ownKnob Try.prog.godebug = none := by kernel_rfl
theorem laidOutT : laidOutB Try.prog = true := Go.ClosedOfChecked.laidOutB_of (Go.ClosedOfChecked.allSpec_of Try.checked.wellFormed (by kernel_rfl)) (by kernel_rfl)
set_option maxRecDepth 100000 in
theorem Rnk_lifted (os : Os) (started : os.Started) (H : Type) (enc : TypeId × Value → H) :
    ReturnsInHanded {} Try.checked os 11 .any (Rows.examsRankedSpec.pre6 enc Try.prog Try.f11 Rows.examsRankedRow.domain false) (Rows.examsRankedSpec.post enc Try.prog Try.f11 false true false false) := by
  refine returnsInHanded_of_change (C := Try.checked) own started (by kernel_rfl) Try.func11
    (ChangeSpec.witness6 (enc := enc) (C := Try.checked) false ⟨#[], #[.slice none 0 0, .slice none 0 0], []⟩ 8 (by kernel_rfl) (by kernel_rfl) (by kernel_rfl) (by kernel_rfl)) ?_
  intro W base args ds gs before hval0 hW hcnd _
  have hval : ∀ (j : Nat) t v, Try.f11.params[j]? = some t → args[j]? = some v → Value.okWide Try.prog W .any base t v := hval0
  have hW' := hW
  obtain ⟨pp, q, hA0, hV, rfl, hfz, hnd⟩ := hW
  have hA : DataW.TrodAll enc Try.prog W 0 (fun _ => true) true Try.f11.params.toList args.toList ds pp := hA0
  rw [Try.params11] at hA hval
  obtain ⟨v0, vs0, d0, ds0, p0, q0, hargs, rfl, rfl, h0, r0⟩ := trodAll_cons hA
  obtain ⟨v1, vs1, d1, ds1, p1, q1, rfl, rfl, rfl, h1, r1⟩ := trodAll_cons r0
  obtain ⟨rfl, rfl, rfl⟩ := trodAll_nil r1
  obtain rfl : args = #[v0, v1] := by cases args; simp_all
  obtain ⟨aA0, aLen0, aCap0, rfl⟩ := okWide_slice Try.underlying64 (hval 0 64 v0 rfl rfl)
  obtain ⟨n0, h0⟩ := h0
  obtain ⟨z, fs, l, lI, c0⟩ := rt_papers h0
  obtain ⟨aA1, aLen1, aCap1, rfl⟩ := okWide_slice Try.underlying68 (hval 1 68 v1 rfl rfl)
  obtain ⟨n1, h1⟩ := h1
  obtain ⟨z2, rz, ts, tI, c1⟩ := rt_rows h1
  refine (law_calls (rankedX_any z false fs l lI z2 false rz (fun _ => false) ts tI) rfl (fun i x hx => by
    match i, hx with
    | 0, hx => cases hx; exact (c0.val rfl)
    | 1, hx => cases hx; exact (c1.val rfl)
  )).mono fun e W' ⟨he, hE⟩ => ?_
  subst he
  exact ⟨_, rfl, law_post (tb := 4) laidOutT (by rw [Try.params11]; intro t ht; simp at ht; rcases ht with rfl | rfl <;> exact ⟨by kernel_rfl, of_decide_eq_true (by kernel_rfl)⟩) rfl Try.underlying4 rfl (fun l hl => by
    rw [Try.params11] at hl
    match l, hl with
    | [a, b], _ => rfl) hW' hE⟩

/-- THE STATEMENT. -/
theorem Rnk_over : Rows.examsRankedRow.holds Try.pinned (OpenSpec.ofChange Rows.examsRankedSpec) :=
  OpenClaim.holds_of_wide 11 Try.f11 rfl rfl rfl rfl rfl rfl rfl ⟨rfl, rfl, rfl, rfl, rfl⟩ rfl rfl rfl rfl rfl (by kernel_rfl) Try.func11 (by kernel_rfl)
    (of_decide_eq_true (by kernel_rfl)) (by unfold Func.isWrapper; first | (rw [if_pos (by decide +kernel)]; kernel_rfl) | (rw [if_neg (by decide +kernel)]; exact ⟨rfl, rfl⟩))
    (fun os started H enc _ => Rnk_lifted os started H enc)
theorem Rnk_holds : Rows.ExamsRankedSaid := Rnk_over
end Go.Proofs.Ytbpilgflejdhaaa
