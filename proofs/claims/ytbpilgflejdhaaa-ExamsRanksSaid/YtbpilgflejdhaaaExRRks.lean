/- Ranks returns what the document specifies (ExamsRanks): for any papers the law returns true and leaves its argument as it was. No condition. -/
import Derived.Test.YtbpilgflejdhaaaRows
import Derived.Test.YtbpilgflejdhaaaExS15
import Derived.Test.YtbpilgflejdhaaaExRead
import Derived.Test.YtbpilgflejdhaaaRow
import Derived.ClosedOfChecked
namespace Go.Proofs.Ytbpilgflejdhaaa
open Go.ChangeShapes Go.WideShapes Go.ChangeAt Go.RowKit

theorem own : ownKnob Try.prog.godebug = none := by kernel_rfl
theorem laidOutT : laidOutB Try.prog = true := (Go.ClosedOfChecked.closed_of_checked Try.checked (by kernel_rfl) (by kernel_rfl) (by kernel_rfl)).1

set_option maxRecDepth 100000 in
theorem rksw_lifted (os : Os) (started : os.Started) (H : Type) (enc : TypeId × Value → H) :
    ReturnsInHanded {} Try.checked os 10 .any (Rows.examsRanksSpec.pre6 enc Try.prog Try.f10 Rows.examsRanksRow.domain false) (Rows.examsRanksSpec.post enc Try.prog Try.f10 false true false false) := by
  refine returnsInHanded_of_change (C := Try.checked) own started (by kernel_rfl) Try.func10
    (ChangeSpec.witness6 (enc := enc) (C := Try.checked) false ⟨#[], #[.slice none 0 0], []⟩ 8 (by kernel_rfl) (by kernel_rfl) (by kernel_rfl) (by kernel_rfl)) ?_
  intro W base args ds gs before hval0 hW hcnd _
  have hval : ∀ (j : Nat) t v, Try.f10.params[j]? = some t → args[j]? = some v → Value.okWide Try.prog W .any base t v := hval0
  have hW' := hW
  obtain ⟨pp, q, hA0, hV, rfl, hfz, hnd⟩ := hW
  have hA : DataW.TrodAll enc Try.prog W 0 (fun _ => true) true Try.f10.params.toList args.toList ds pp := hA0
  rw [Try.params10] at hA hval
  obtain ⟨v0, vs0, d0, ds0, p0, q0, hargs, rfl, rfl, h0, r0⟩ := trodAll_cons hA
  obtain ⟨rfl, rfl, rfl⟩ := trodAll_nil r0
  obtain rfl : args = #[v0] := by cases args; simp_all
  obtain ⟨aA0, aLen0, aCap0, rfl⟩ := okWide_slice Try.underlying64 (hval 0 64 v0 rfl rfl)
  obtain ⟨n0, h0⟩ := h0
  obtain ⟨psA, psc, ps, hv0, psP, psL⟩ := rdx_papers h0
  rw [hv0] at hW' ⊢
  refine (ranks_law psA psc ps W psP).mono fun e W' ⟨he, hE⟩ => ?_
  subst he
  exact ⟨_, rfl, law_post (tb := 4) laidOutT (by rw [Try.params10]; intro t ht; simp at ht; rcases ht with rfl <;> exact ⟨by kernel_rfl, of_decide_eq_true (by kernel_rfl)⟩) rfl Try.underlying4 rfl (fun l hl => by
    rw [Try.params10] at hl
    match l, hl with
    | [a], _ => rfl) hW' hE⟩

/-- THE STATEMENT. -/
theorem rksw_over : Rows.examsRanksRow.holds Try.pinned (OpenSpec.ofChange Rows.examsRanksSpec) :=
  OpenClaim.holds_of_wide 10 Try.f10 rfl rfl rfl rfl rfl rfl rfl ⟨rfl, rfl, rfl, rfl, rfl⟩ rfl rfl rfl rfl rfl (by kernel_rfl) Try.func10 (by kernel_rfl)
    (of_decide_eq_true (by kernel_rfl)) (by unfold Func.isWrapper; first | (rw [if_pos (by decide +kernel)]; kernel_rfl) | (rw [if_neg (by decide +kernel)]; exact ⟨rfl, rfl⟩))
    (fun os started H enc _ => rksw_lifted os started H enc)
theorem rksw_holds : Rows.ExamsRanksSaid := rksw_over
end Go.Proofs.Ytbpilgflejdhaaa
