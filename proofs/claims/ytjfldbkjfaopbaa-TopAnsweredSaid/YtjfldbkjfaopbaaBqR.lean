/- THE THEOREM OF THE NIGHT ON CALL (TopAnswered) is true of every input: for any pool, watch and night the law returns true and leaves its arguments as they were. No condition. -/
import Derived.Test.YtjfldbkjfaopbaaRows
import Derived.Test.YtjfldbkjfaopbaaBq1
import Derived.ClosedOfChecked

namespace Go.Proofs.Ytjfldbkjfaopbaa
open Go.ChangeShapes Go.WideShapes Go.ChangeAt Go.RowKit

theorem own : ownKnob Try.prog.godebug = none:=by kernel_rfl
theorem laidOutT : laidOutB Try.prog = true:=Go.ClosedOfChecked.laidOutB_of (Go.ClosedOfChecked.allSpec_of Try.checked.wellFormed (by kernel_rfl)) (by kernel_rfl)
set_option maxRecDepth 100000 in
theorem ans_lifted (os:Os) (started:os.Started) (H:Type) (enc:TypeId × Value → H) :
  ReturnsInHanded {} Try.checked os 3 .any (Rows.topAnsweredSpec.pre6 enc Try.prog Try.f3 Rows.topAnsweredRow.domain false) (Rows.topAnsweredSpec.post enc Try.prog Try.f3 false true false false):=by
 refine returnsInHanded_of_change (C:=Try.checked) own started (by kernel_rfl) Try.func3
  (ChangeSpec.witness6 (enc:=enc) (C:=Try.checked) false ⟨#[],#[.agg #[.slice none 0 0,.slice none 0 0,.int .i64 0,.int .i64 0],.slice none 0 0,.agg #[.int .i64 0,.int .i64 0,.slice none 0 0]],[]⟩ 8 (by kernel_rfl) (by kernel_rfl) (by kernel_rfl) (by kernel_rfl)) ?_
 intro W base args ds gs before hval0 hW hcnd _
 have hval:∀ (j:Nat) t v,Try.f3.params[j]? = some t → args[j]? = some v → Value.okWide Try.prog W .any base t v:=hval0
 have hW':=hW
 obtain ⟨pp,q,hA0,hV,rfl,hfz,hnd⟩:=hW
 have hA:DataW.TrodAll enc Try.prog W 0 (fun _=>true) true Try.f3.params.toList args.toList ds pp:=hA0
 rw [Try.params3] at hA hval
 obtain ⟨v0,vs0,d0,ds0,p0,q0,hargs,rfl,rfl,h0,r0⟩:=trodAll_cons hA
 obtain ⟨v1,vs1,d1,ds1,p1,q1,rfl,rfl,rfl,h1,r1⟩:=trodAll_cons r0
 obtain ⟨v2,vs2,d2,ds2,p2,q2,rfl,rfl,rfl,h2,r2⟩:=trodAll_cons r1
 obtain ⟨rfl,rfl,rfl⟩:=trodAll_nil r2
 obtain rfl:args = #[v0,v1,v2]:=by cases args;simp_all
 obtain ⟨cs0,rfl,_⟩:=okWide_struct Try.underlying25 (hval 0 25 v0 rfl rfl)
 obtain ⟨n0,h0⟩:=h0
 obtain ⟨f,p,pI,c0⟩:=rt_pool h0
 obtain ⟨aA1,aLen1,aCap1,rfl⟩:=okWide_slice Try.underlying26 (hval 1 26 v1 rfl rfl)
 obtain ⟨n1,h1⟩:=h1
 obtain ⟨za,a,aI,c1⟩:=rt_ints h1
 obtain ⟨cs2,rfl,_⟩:=okWide_struct Try.underlying29 (hval 2 29 v2 rfl rfl)
 obtain ⟨n2,h2⟩:=h2
 obtain ⟨x,xI,c2⟩:=rt_night h2
 refine (law_calls (answered_any f p za a x.s x.i x.z x.o (in64_get aI.2) aI.1 xI.1 xI.2) rfl (fun i x hx=>by
  match i,hx with
  | 0,hx=>cases hx;exact (by have:=c0.agg;simpa [Value.cells] using this)
  | 1,hx=>cases hx;exact (c1.val rfl)
  | 2,hx=>cases hx;exact (by have:=c2.agg;simpa [Value.cells] using this)
 )).mono fun e W' ⟨he,hE⟩=>?_
 subst he
 exact ⟨_,rfl,law_post (tb:=4) laidOutT (by rw [Try.params3];intro t ht;simp at ht;rcases ht with rfl|rfl|rfl <;> exact ⟨by kernel_rfl,of_decide_eq_true (by kernel_rfl)⟩) rfl Try.underlying4 rfl (fun l hl=>by
  rw [Try.params3] at hl
  match l,hl with
  | [a,b,c],_=>rfl) hW' hE⟩

/-- THE STATEMENT. -/
theorem ans_over : Rows.topAnsweredRow.holds Try.pinned (OpenSpec.ofChange Rows.topAnsweredSpec) :=
 OpenClaim.holds_of_wide 3 Try.f3 rfl rfl rfl rfl rfl rfl rfl ⟨rfl,rfl,rfl,rfl,rfl⟩ rfl rfl rfl rfl rfl (by kernel_rfl) Try.func3 (by kernel_rfl)
  (of_decide_eq_true (by kernel_rfl)) (by unfold Func.isWrapper;first|(rw [if_pos (by decide +kernel)];kernel_rfl)|(rw [if_neg (by decide +kernel)];exact ⟨rfl,rfl⟩))
  (fun os started H enc _=>ans_lifted os started H enc)
theorem ans_holds : Rows.TopAnsweredSaid:=ans_over
end Go.Proofs.Ytjfldbkjfaopbaa
