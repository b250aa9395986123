/- The best masks of the secrets (SecretsBest) are as the document specifies, for every input: for any sheet the law returns true and leaves its arguments as they were. No condition. -/
import Derived.Test.YtlffjnmbpoemnaaRows
import Derived.Test.YtlffjnmbpoemnaaBb2
import Derived.Test.YtlffjnmbpoemnaaBs15
import Derived.ClosedOfChecked
set_option linter.unusedSimpArgs false
set_option linter.unusedVariables false
namespace Go.Proofs.Ytlffjnmbpoemnaa
open Go.ChangeShapes Go.WideShapes Go.ChangeAt Go.RowKit

theorem own : ownKnob Try.prog.godebug = none:=by kernel_rfl
theorem laidOutT : laidOutB Try.prog = true:=Go.ClosedOfChecked.laidOutB_of (Go.ClosedOfChecked.allSpec_of Try.checked.wellFormed (by kernel_rfl)) (by kernel_rfl)
set_option maxRecDepth 100000 in
theorem bes_lifted (os:Os) (started:os.Started) (H:Type) (enc:TypeId × Value → H) :
  ReturnsInHanded {} Try.checked os 4 .any (Rows.secretsBestSpec.pre6 enc Try.prog Try.f4 Rows.secretsBestRow.domain false) (Rows.secretsBestSpec.post enc Try.prog Try.f4 false true false false):=by
 refine returnsInHanded_of_change (C:=Try.checked) own started (by kernel_rfl) Try.func4
  (ChangeSpec.witness6 (enc:=enc) (C:=Try.checked) false ⟨#[],#[.agg #[.slice none 0 0,.slice none 0 0,.int .i64 0]],[]⟩ 8 (by kernel_rfl) (by kernel_rfl) (by kernel_rfl) (by kernel_rfl)) ?_
 intro W base args ds gs before hval0 hW hcnd _
 have hval:∀ (j:Nat) t v,Try.f4.params[j]? = some t → args[j]? = some v → Value.okWide Try.prog W .any base t v:=hval0
 have hW':=hW
 obtain ⟨pp,q,hA0,hV,rfl,hfz,hnd⟩:=hW
 have hA:DataW.TrodAll enc Try.prog W 0 (fun _=>true) true Try.f4.params.toList args.toList ds pp:=hA0
 rw [Try.params4] at hA hval
 obtain ⟨v0,vs0,d0,ds0,p0,q0,hargs,rfl,rfl,h0,r0⟩:=trodAll_cons hA
 obtain ⟨rfl,rfl,rfl⟩:=trodAll_nil r0
 obtain rfl:args = #[v0]:=by cases args;simp_all
 obtain ⟨cs0,rfl,_⟩:=okWide_struct Try.underlying25 (hval 0 25 v0 rfl rfl)
 obtain ⟨n0,h0⟩:=h0
 obtain ⟨f,s,sI,c0⟩:=rt_sheet h0
 refine (law_calls (bestL_any f s) rfl (fun i x hx=>by
  match i,hx with
  | 0,hx=>cases hx;exact (by have:=c0.agg;simpa [Value.cells] using this)
 )).mono fun e W' ⟨he,hE⟩=>?_
 subst he
 exact ⟨_,rfl,law_post (tb:=4) laidOutT (by rw [Try.params4];intro t ht;simp at ht;rcases ht with rfl <;> exact ⟨by kernel_rfl,of_decide_eq_true (by kernel_rfl)⟩) rfl Try.underlying4 rfl (fun l hl=>by
  rw [Try.params4] at hl
  match l,hl with
  | [a],_=>rfl) hW' hE⟩

/-- THE STATEMENT. -/
theorem bes_over : Rows.secretsBestRow.holds Try.pinned (OpenSpec.ofChange Rows.secretsBestSpec) :=
 OpenClaim.holds_of_wide 4 Try.f4 rfl rfl rfl rfl rfl rfl rfl ⟨rfl,rfl,rfl,rfl,rfl⟩ rfl rfl rfl rfl rfl (by kernel_rfl) Try.func4 (by kernel_rfl)
  (of_decide_eq_true (by kernel_rfl)) (by unfold Func.isWrapper;first|(rw [if_pos (by decide +kernel)];kernel_rfl)|(rw [if_neg (by decide +kernel)];exact ⟨rfl,rfl⟩))
  (fun os started H enc _=>bes_lifted os started H enc)
theorem bes_holds : Rows.SecretsBestSaid:=bes_over
end Go.Proofs.Ytlffjnmbpoemnaa
