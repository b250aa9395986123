/- The other amounts of the secrets (SecretsOther) are as the document specifies, for every input: for any sheets, mask and place the law returns true and leaves its arguments as they were. No condition. -/
import Derived.Test.YtlffjnmbpoemnaaRows
import Derived.Test.YtlffjnmbpoemnaaBo18
import Derived.ClosedOfChecked
set_option linter.unusedSimpArgs false
set_option linter.unusedVariables false
namespace Go.Proofs.Ytlffjnmbpoemnaa
open Go.ChangeShapes Go.WideShapes Go.ChangeAt Go.RowKit

theorem own : ownKnob Try.prog.godebug = none:=by kernel_rfl
theorem laidOutT : laidOutB Try.prog = true:=Go.ClosedOfChecked.laidOutB_of (Go.ClosedOfChecked.allSpec_of Try.checked.wellFormed (by kernel_rfl)) (by kernel_rfl)
set_option maxRecDepth 100000 in
theorem oth_lifted (os:Os) (started:os.Started) (H:Type) (enc:TypeId × Value → H) :
  ReturnsInHanded {} Try.checked os 10 .any (Rows.secretsOtherSpec.pre6 enc Try.prog Try.f10 Rows.secretsOtherRow.domain false) (Rows.secretsOtherSpec.post enc Try.prog Try.f10 false true false false):=by
 refine returnsInHanded_of_change (C:=Try.checked) own started (by kernel_rfl) Try.func10
  (ChangeSpec.witness6 (enc:=enc) (C:=Try.checked) false ⟨#[],#[.agg #[.slice none 0 0,.slice none 0 0,.int .i64 0],.agg #[.slice none 0 0,.slice none 0 0,.int .i64 0],.agg #[.slice none 0 0,.int .i64 0,.int .i64 0,.int .i64 0]],[]⟩ 8 (by kernel_rfl) (by kernel_rfl) (by kernel_rfl) (by kernel_rfl)) ?_
 intro W base args ds gs before hval0 hW hcnd _
 have hval:∀ (j:Nat) t v,Try.f10.params[j]? = some t → args[j]? = some v → Value.okWide Try.prog W .any base t v:=hval0
 have hW':=hW
 obtain ⟨pp,q,hA0,hV,rfl,hfz,hnd⟩:=hW
 have hA:DataW.TrodAll enc Try.prog W 0 (fun _=>true) true Try.f10.params.toList args.toList ds pp:=hA0
 rw [Try.params10] at hA hval
 obtain ⟨v0,vs0,d0,ds0,p0,q0,hargs,rfl,rfl,h0,r0⟩:=trodAll_cons hA
 obtain ⟨v1,vs1,d1,ds1,p1,q1,rfl,rfl,rfl,h1,r1⟩:=trodAll_cons r0
 obtain ⟨v2,vs2,d2,ds2,p2,q2,rfl,rfl,rfl,h2,r2⟩:=trodAll_cons r1
 obtain ⟨rfl,rfl,rfl⟩:=trodAll_nil r2
 obtain rfl:args = #[v0,v1,v2]:=by cases args;simp_all
 obtain ⟨cs0,rfl,_⟩:=okWide_struct Try.underlying25 (hval 0 25 v0 rfl rfl)
 obtain ⟨n0,h0⟩:=h0
 obtain ⟨f,s,sI,c0⟩:=rt_sheet h0
 obtain ⟨cs1,rfl,_⟩:=okWide_struct Try.underlying25 (hval 1 25 v1 rfl rfl)
 obtain ⟨n1,h1⟩:=h1
 obtain ⟨g,t,tI,c1⟩:=rt_sheet h1
 obtain ⟨cs2,rfl,_⟩:=okWide_struct Try.underlying64 (hval 2 64 v2 rfl rfl)
 obtain ⟨n2,h2⟩:=h2
 obtain ⟨x,xI,c2⟩:=rt_hidden h2
 refine (law_calls (other_any f g s t x.z false x.m x.p.r x.p.c x.p.a xI.2.2.2) rfl (fun i x hx=>by
  match i,hx with
  | 0,hx=>cases hx;exact (by have:=c0.agg;simpa [Value.cells] using this)
  | 1,hx=>cases hx;exact (by have:=c1.agg;simpa [Value.cells] using this)
  | 2,hx=>cases hx;exact (by have:=c2.agg;simpa [Value.cells] using this)
 )).mono fun e W' ⟨he,hE⟩=>?_
 subst he
 exact ⟨_,rfl,law_post (tb:=4) laidOutT (by rw [Try.params10];intro t ht;simp at ht;rcases ht with rfl|rfl|rfl <;> exact ⟨by kernel_rfl,of_decide_eq_true (by kernel_rfl)⟩) rfl Try.underlying4 rfl (fun l hl=>by
  rw [Try.params10] at hl
  match l,hl with
  | [a,b,c],_=>rfl) hW' hE⟩

/-- THE STATEMENT. -/
theorem oth_over : Rows.secretsOtherRow.holds Try.pinned (OpenSpec.ofChange Rows.secretsOtherSpec) :=
 OpenClaim.holds_of_wide 10 Try.f10 rfl rfl rfl rfl rfl rfl rfl ⟨rfl,rfl,rfl,rfl,rfl⟩ rfl rfl rfl rfl rfl (by kernel_rfl) Try.func10 (by kernel_rfl)
  (of_decide_eq_true (by kernel_rfl)) (by unfold Func.isWrapper;first|(rw [if_pos (by decide +kernel)];kernel_rfl)|(rw [if_neg (by decide +kernel)];exact ⟨rfl,rfl⟩))
  (fun os started H enc _=>oth_lifted os started H enc)
theorem oth_holds : Rows.SecretsOtherSaid:=oth_over
end Go.Proofs.Ytlffjnmbpoemnaa
