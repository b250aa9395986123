/- THE THEOREM OF THE ONE SIGN (TopSeen) is true of every input: for any book and sight the law returns true and leaves its arguments as they were. No condition. -/
import Derived.Test.YtodpjdmdmmnlpaaGreatRows
import Derived.Test.YtodpjdmdmmnlpaaGreatBt5
import Derived.ClosedOfChecked
set_option linter.unusedSimpArgs false
set_option linter.unusedVariables false
namespace Go.Proofs.YtodpjdmdmmnlpaaGreat
open Go.ChangeShapes Go.WideShapes Go.ChangeAt Go.RowKit

theorem own : ownKnob Tryz.prog.godebug = none:=by kernel_rfl
theorem laidOutT : laidOutB Tryz.prog = true:=Go.ClosedOfChecked.laidOutB_of (Go.ClosedOfChecked.allSpec_of Tryz.checked.wellFormed (by kernel_rfl)) (by kernel_rfl)
set_option maxRecDepth 100000 in
theorem see_lifted (os:Os) (started:os.Started) (H:Type) (enc:TypeId × Value → H) :
  ReturnsInHanded {} Tryz.checked os 3 .any (Rows.topSeenSpec.pre6 enc Tryz.prog Tryz.f3 Rows.topSeenRow.domain false) (Rows.topSeenSpec.post enc Tryz.prog Tryz.f3 false true false false):=by
 refine returnsInHanded_of_change (C:=Tryz.checked) own started (by kernel_rfl) Tryz.func3
  (ChangeSpec.witness6 (enc:=enc) (C:=Tryz.checked) false ⟨#[],#[.slice none 0 0,.agg #[.int .i64 0,.slice none 0 0,.int .i64 0,.int .i64 0]],[]⟩ 8 (by kernel_rfl) (by kernel_rfl) (by kernel_rfl) (by kernel_rfl)) ?_
 intro W base args ds gs before hval0 hW hcnd _
 have hval:∀ (j:Nat) t v,Tryz.f3.params[j]? = some t → args[j]? = some v → Value.okWide Tryz.prog W .any base t v:=hval0
 have hW':=hW
 obtain ⟨pp,q,hA0,hV,rfl,hfz,hnd⟩:=hW
 have hA:DataW.TrodAll enc Tryz.prog W 0 (fun _=>true) true Tryz.f3.params.toList args.toList ds pp:=hA0
 rw [Tryz.params3] at hA hval
 obtain ⟨v0,vs0,d0,ds0,p0,q0,hargs,rfl,rfl,h0,r0⟩:=trodAll_cons hA
 obtain ⟨v1,vs1,d1,ds1,p1,q1,rfl,rfl,rfl,h1,r1⟩:=trodAll_cons r0
 obtain ⟨rfl,rfl,rfl⟩:=trodAll_nil r1
 obtain rfl:args = #[v0,v1]:=by cases args;simp_all
 obtain ⟨aA0,aLen0,aCap0,rfl⟩:=okWide_slice Tryz.underlying22 (hval 0 22 v0 rfl rfl)
 obtain ⟨n0,h0⟩:=h0
 obtain ⟨f,l,lI,c0⟩:=rt_ents h0
 obtain ⟨cs1,rfl,_⟩:=okWide_struct Tryz.underlying25 (hval 1 25 v1 rfl rfl)
 obtain ⟨n1,h1⟩:=h1
 obtain ⟨x,xI,c1⟩:=rt_sight h1
 refine (law_calls (topSeen_ok f l lI x.g x.e x.s x.a x.b xI.1 xI.2) rfl (fun i x hx=>by
  match i,hx with
  | 0,hx=>cases hx;exact (c0.val rfl)
  | 1,hx=>cases hx;exact (by have:=c1.agg;simpa [Value.cells] using this)
 )).mono fun e W' ⟨he,hE⟩=>?_
 subst he
 exact ⟨_,rfl,law_post (tb:=4) laidOutT (by rw [Tryz.params3];intro t ht;simp at ht;rcases ht with rfl|rfl <;> exact ⟨by kernel_rfl,of_decide_eq_true (by kernel_rfl)⟩) rfl Tryz.underlying4 rfl (fun l hl=>by
  rw [Tryz.params3] at hl
  match l,hl with
  | [a,b],_=>rfl) hW' hE⟩

/-- THE STATEMENT. -/
theorem see_over : Rows.topSeenRow.holds Tryz.pinned (OpenSpec.ofChange Rows.topSeenSpec) :=
 OpenClaim.holds_of_wide 3 Tryz.f3 rfl rfl rfl rfl rfl rfl rfl ⟨rfl,rfl,rfl,rfl,rfl⟩ rfl rfl rfl rfl rfl (by kernel_rfl) Tryz.func3 (by kernel_rfl)
  (of_decide_eq_true (by kernel_rfl)) (by unfold Func.isWrapper;first|(rw [if_pos (by decide +kernel)];kernel_rfl)|(rw [if_neg (by decide +kernel)];exact ⟨rfl,rfl⟩))
  (fun os started H enc _=>see_lifted os started H enc)
theorem see_holds : Rows.TopSeenSaid:=see_over
end Go.Proofs.YtodpjdmdmmnlpaaGreat
