/- THE THEOREM OF THE TWO SHEETS (SecretsAlike) is true of every input: for any sheet, mask, amounts and place the law returns true and leaves its arguments as they were. No condition. -/
import Derived.Test.YtlffjnmbpoemnaaRows
import Derived.Test.YtlffjnmbpoemnaaBl2
import Derived.Test.YtlffjnmbpoemnaaBs15
import Derived.ClosedOfChecked
set_option linter.unusedSimpArgs false
set_option linter.unusedVariables false
namespace Go.Proofs.Ytlffjnmbpoemnaa
open Go.ChangeShapes Go.WideShapes Go.ChangeAt Go.RowKit

theorem own : ownKnob Try.prog.godebug = none:=by kernel_rfl
theorem laidOutT : laidOutB Try.prog = true:=Go.ClosedOfChecked.laidOutB_of (Go.ClosedOfChecked.allSpec_of Try.checked.wellFormed (by kernel_rfl)) (by kernel_rfl)
set_option maxRecDepth 100000 in
theorem alk_lifted (os:Os) (started:os.Started) (H:Type) (enc:TypeId × Value → H) :
  ReturnsInHanded {} Try.checked os 11 .any (Rows.secretsAlikeSpec.pre6 enc Try.prog Try.f11 Rows.secretsAlikeRow.domain false) (Rows.secretsAlikeSpec.post enc Try.prog Try.f11 false true false false):=by
 refine returnsInHanded_of_change_sized (C:=Try.checked) own started (by kernel_rfl) Try.func11
  (ChangeSpec.witness6 (enc:=enc) (C:=Try.checked) false ⟨#[],#[.agg #[.slice none 0 0,.slice none 0 0,.int .i64 0],.slice none 0 0,.agg #[.slice none 0 0,.int .i64 0,.int .i64 0,.int .i64 0]],[]⟩ 8 (by kernel_rfl) (by kernel_rfl) (by kernel_rfl) (by kernel_rfl)) ?_
 intro W base args ds gs before hval0 hW hcnd hsz _
 have hval:∀ (j:Nat) t v,Try.f11.params[j]? = some t → args[j]? = some v → Value.okWide Try.prog W .any base t v:=hval0
 have hW':=hW
 obtain ⟨pp,q,hA0,hV,rfl,hfz,hnd⟩:=hW
 have hA:DataW.TrodAll enc Try.prog W 0 (fun _=>true) true Try.f11.params.toList args.toList ds pp:=hA0
 rw [Try.params11] at hA hval
 obtain ⟨v0,vs0,d0,ds0,p0,q0,hargs,rfl,rfl,h0,r0⟩:=trodAll_cons hA
 obtain ⟨v1,vs1,d1,ds1,p1,q1,rfl,rfl,rfl,h1,r1⟩:=trodAll_cons r0
 obtain ⟨v2,vs2,d2,ds2,p2,q2,rfl,rfl,rfl,h2,r2⟩:=trodAll_cons r1
 obtain ⟨rfl,rfl,rfl⟩:=trodAll_nil r2
 obtain rfl:args = #[v0,v1,v2]:=by cases args;simp_all
 obtain ⟨cs0,rfl,_⟩:=okWide_struct Try.underlying25 (hval 0 25 v0 rfl rfl)
 obtain ⟨n0,h0⟩:=h0
 obtain ⟨f,s,sI,c0⟩:=rt_sheet h0
 obtain ⟨aA1,aLen1,aCap1,rfl⟩:=okWide_slice Try.underlying23 (hval 1 23 v1 rfl rfl)
 obtain ⟨n1,h1⟩:=h1
 obtain ⟨za,a,_,c1⟩:=rt_ints h1
 obtain ⟨cs2,rfl,_⟩:=okWide_struct Try.underlying51 (hval 2 51 v2 rfl rfl)
 obtain ⟨n2,h2⟩:=h2
 obtain ⟨x,xI,c2⟩:=rt_known h2
 have hw2:∀ k ∈ d2.weights Try.prog 51,k ≤ reachBytes:=fun k hk=>by
  have:=List.all_eq_true.1 hsz k (DataW.weights_mem_each (j:=2) (t:=51) (d:=d2) (by rw [Try.params11];rfl) rfl k hk)
  simpa using this
 obtain ⟨b1,b2⟩:=field_w (t:=22) (e:=23) (i:=3) Try.underlying51 rfl rfl csz.2.2.1 rfl Try.underlying22 Try.underlying23 csz.2.1 h2 hw2 c2 (by omega) rfl
 rw [show Try.prog.bytesOf 23 = 24 from by kernel_rfl] at b1
 rw [show Try.prog.bytesOf 3 = 8 from by kernel_rfl] at b2
 have hB:reachBytes = 140737488351232:=rfl
 have a1:x.l.length ≤ 5864062014805:=by omega
 have a2:∀ k,k < x.l.length → (x.l.getD k []).length ≤ 17592186044416:=fun k hk=>by have:=b2 k hk;omega
 refine (law_calls (alike_any f s za false a x.z false x.rz (fun _=>false) x.l a1 a2 x.p.r x.p.c x.p.a) rfl (fun i x hx=>by
  match i,hx with
  | 0,hx=>cases hx;exact (by have:=c0.agg;simpa [Value.cells] using this)
  | 1,hx=>cases hx;exact (c1.val rfl)
  | 2,hx=>cases hx;exact (by have:=c2.agg;simpa [Value.cells] using this)
 )).mono fun e W' ⟨he,hE⟩=>?_
 subst he
 exact ⟨_,rfl,law_post (tb:=4) laidOutT (by rw [Try.params11];intro t ht;simp at ht;rcases ht with rfl|rfl|rfl <;> exact ⟨by kernel_rfl,of_decide_eq_true (by kernel_rfl)⟩) rfl Try.underlying4 rfl (fun l hl=>by
  rw [Try.params11] at hl
  match l,hl with
  | [a,b,c],_=>rfl) hW' hE⟩

/-- THE STATEMENT. -/
theorem alk_over : Rows.secretsAlikeRow.holds Try.pinned (OpenSpec.ofChange Rows.secretsAlikeSpec) :=
 OpenClaim.holds_of_wide 11 Try.f11 rfl rfl rfl rfl rfl rfl rfl ⟨rfl,rfl,rfl,rfl,rfl⟩ rfl rfl rfl rfl rfl (by kernel_rfl) Try.func11 (by kernel_rfl)
  (of_decide_eq_true (by kernel_rfl)) (by unfold Func.isWrapper;first|(rw [if_pos (by decide +kernel)];kernel_rfl)|(rw [if_neg (by decide +kernel)];exact ⟨rfl,rfl⟩))
  (fun os started H enc _=>alk_lifted os started H enc)
theorem alk_holds : Rows.SecretsAlikeSaid:=alk_over
end Go.Proofs.Ytlffjnmbpoemnaa
