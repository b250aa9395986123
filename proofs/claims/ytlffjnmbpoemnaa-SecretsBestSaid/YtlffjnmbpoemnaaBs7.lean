/- Secrets: Check, open and spot of the program. / Secrets: open and spot; an opened sheet. / Secrets: the reference's Sums. / Secrets: the reference's same. / Secrets: the reference's Agrees. / Secrets: CopyRows, as what is only read. / Secrets: Copy, as what is only read. / Secrets: amounts that agree, cuts, ways / Secrets: ways along which an amount is shifted -/
import Derived.Test.YtlffjnmbpoemnaaBs6
set_option linter.unusedSimpArgs false
set_option linter.unusedVariables false
namespace Go.Proofs.Ytlffjnmbpoemnaa
open Go.RowKit

theorem below_step {p:Nat → Prop} {i:Nat} (h:∀ k,k < i → p k) (hi:p i):∀ k,k < i + 1 → p k:=fun k hk=>by
 rcases Nat.lt_or_ge k i with h'|h'
 ·exact h k h'
 ·obtain rfl:k = i:=by omega
  exact hi
theorem rowMM {l:List Int} {C:Nat} (hC:0 < C) (hl:l.length = C):l.all (fun x=>inB x 0 10000) = (decide (0 ≤ mnK l (l.length - 1)) && decide (mxK l (l.length - 1) ≤ 10000)):=by
 rw [Bool.eq_iff_iff,Bool.and_eq_true,decide_eq_true_eq,decide_eq_true_eq,mnK_iff,mxK_iff,List.all_eq_true]
 constructor
 ·intro h
  have key:∀ j,j ≤ l.length - 1 → 0 ≤ l.getD j 0 ∧ l.getD j 0 ≤ 10000:=fun j hj=>by
   have hj':j < l.length:=by omega
   have:=h (l.getD j 0) (by simp [List.getD,List.getElem?_eq_getElem hj'])
   simpa only [inB,decide_eq_true_eq] using this
  exact ⟨fun j hj=>(key j hj).1,fun j hj=>(key j hj).2⟩
 ·rintro ⟨h1,h2⟩ x hx
  obtain ⟨k,hk,rfl⟩:=List.getElem_of_mem hx
  have a:=h1 k (by omega)
  have b:=h2 k (by omega)
  simp only [List.getD,List.getElem?_eq_getElem hk,Option.getD_some] at a b
  exact decide_eq_true ⟨a,b⟩
/-- The first rows are as they must be, with their sets of secret columns. -/
def upTo (s:Sheet) (r:Nat):Prop:=∀ k,k < r → rowS s.C (s.amounts.getD k []) = true ∧ inB (s.secret.getD k 0) 0 (((2 ^ s.C:Nat):Int) - 1) = true
theorem upTo_ok {s:Sheet} (h1:inB s.R 1 4 = true) (h2:inB s.C 1 4 = true) (h3:inB s.gap 1 1000 = true) (h4:s.secret.length = s.R) (h:upTo s s.R):s.ok = true:=by
 unfold Sheet.ok Sheet.head maskS
 simp only [Bool.and_eq_true,decide_eq_true_eq,List.all_eq_true]
 refine ⟨⟨⟨⟨of_decide_eq_true h1,of_decide_eq_true h2⟩,of_decide_eq_true h3⟩,fun x hx=>?_,h4⟩,fun l hl=>?_⟩
 ·obtain ⟨k,hk,rfl⟩:=List.getElem_of_mem hx
  have:=(h k (by omega)).2
  simp only [List.getD,List.getElem?_eq_getElem hk,Option.getD_some,inB,decide_eq_true_eq] at this
  exact this
 ·obtain ⟨k,hk,rfl⟩:=List.getElem_of_mem hl
  have:=(h k hk).1
  simp only [List.getD,List.getElem?_eq_getElem hk,Option.getD_some] at this
  exact this
theorem upTo_no {s:Sheet} {r:Nat} (hr:r < s.R) (h4:s.secret.length = s.R) (h:rowS s.C (s.amounts.getD r []) = false ∨ inB (s.secret.getD r 0) 0 (((2 ^ s.C:Nat):Int) - 1) = false):s.ok = false:=by
 cases hk:s.ok
 ·rfl
 ·exfalso
  have hs:=sheet_d hk
  rcases h with h|h
  ·unfold Sheet.ok at hk
   simp only [Bool.and_eq_true] at hk
   have:=all_getD [] hk.2 (show r < s.amounts.length from hr)
   rw [h] at this;cases this
  ·have:=hs.sec.bd r hr
   have:=of_decide_eq_false h
   omega
set_option maxHeartbeats 8000000
set_option maxRecDepth 100000
theorem check_ok (f:ShF) (s:Sheet) (hn:Near s):ACall Try.prog 30 [aSh f s] [] (fun r h=>r = AI (checkS s) ∧ h = []):=by
 have c20:=hn.C
 have r20:=hn.r
 have m20:=hn.m
 have hR:s.R = s.amounts.length:=rfl
 have hC:s.C = (s.amounts.getD 0 []).length:=rfl
 have hp:=Nat.pow_le_pow_right (show 0 < 2 by decide) c20
 have hC2:(s.amounts.getD (Int.toNat 0) []).length = s.C:=rfl
 (refine fcall_of mixed Try.func30 rfl (by decide) (hs:={}) ?k (ac:=?ac) ?c (rs:=?rs) ?r ?l ?H;(case k=>kernel_rfl);(case c=>(conv=>(lhs;cbv)));(case r=>(conv=>(lhs;cbv)));(case l=>exact Nat.le_of_ble_eq_true rfl))
 by_cases a1:1 ≤ s.amounts.length ∧ s.amounts.length ≤ 4
 ·by_cases a4:s.secret.length = s.amounts.length
  ·by_cases a3:1 ≤ s.gap ∧ s.gap ≤ 1000
   ·by_cases a2:1 ≤ s.C ∧ s.C ≤ 4
    ·have i1:inB (s.R:Int) 1 4 = true:=decide_eq_true (by omega)
     have i2:inB (s.C:Int) 1 4 = true:=decide_eq_true (by omega)
     have i3:inB s.gap 1 1000 = true:=decide_eq_true a3
     (repeat' ((try conv=>whnf);first|(with_reducible first|refine wT ?_|refine wF ?_|(refine wI (fun hq=>?_) (fun hq=>?_) <;> try simp only [zA,zE,zD,zJ,zB,zI,wK,wL] at hq)|refine wA ?_|refine wB ?_|refine wC ?_|refine wD ?_|refine wE ?_)|((with_reducible refine wN ?_ ?_);focus exact needA)|(with_reducible first|refine FBit.hasT rfl (by assumption) ?_|refine FBit.hasF rfl (by assumption) ?_|refine FBit.shrN rfl (by omega) ?_|refine FBit.half rfl ?_|refine FBit.shl1 rfl (by omega) ?_|refine Fits.inU (by omega) ?_|refine FBit.shrNI rfl (by omega) ?_|refine FBit.shrIN rfl (by omega) (by omega) ?_|refine FBit.shrI rfl (by omega) (by omega) ?_|refine FBit.shl1I rfl (by omega) ?_)|(with_reducible refine FBit.has rfl (fun hq=>?_) (fun hq=>?_))|(with_reducible first|refine FBit.and1 rfl ?_|refine FBit.andN rfl (by omega) (by omega) ?_|refine FBit.orN rfl (by omega) (by omega) ?_|refine FBit.andNotN rfl (by omega) (by omega) ?_)|(with_reducible refine wG ?_)|(with_reducible refine wP ?_)))
     all_goals (try conv=>whnf)
     refine FLoop.of (ACalls.mono _) (X:=Nat) (fun r=>[(1,.ptr 0 0),(4,AI s.C),(45,aRows f.za f.ea f.rz f.re s.amounts),(46,AI s.amounts.length),(47,AI r)]) (fun r=>[.box 3 (cSh f s)]) (fun r=>r ≤ s.amounts.length ∧ upTo s r) (fun r=>s.amounts.length - r) 0 ⟨⟨Nat.zero_le _,fun k hk=>absurd hk (Nat.not_lt_zero k)⟩,[0],Cut.A,allA⟩ ?_
     rintro r ⟨hr1,hup⟩
     by_cases hlt:r < s.amounts.length
     ·have hl20:=hn.c r
      have hpp:=Nat.two_pow_pos s.C
      by_cases hlen:(s.amounts.getD r []).length = s.C
      ·have cMn:=min_ok (f.rz r) (f.re r) (s.amounts.getD r []) (by omega) (by omega)
       have cMx:=max_ok (f.rz r) (f.re r) (s.amounts.getD r []) (by omega) (by omega)
       have hMM:=rowMM (show 0 < s.C by omega) hlen
       have hrow:rowS s.C (s.amounts.getD r []) = (decide (0 ≤ mnK (s.amounts.getD r []) ((s.amounts.getD r []).length - 1)) && decide (mxK (s.amounts.getD r []) ((s.amounts.getD r []).length - 1) ≤ 10000)):=by unfold rowS;rw [decide_eq_true hlen,Bool.true_and,hMM]
       by_cases b1:0 ≤ mnK (s.amounts.getD r []) ((s.amounts.getD r []).length - 1)
       ·by_cases b2:mxK (s.amounts.getD r []) ((s.amounts.getD r []).length - 1) ≤ 10000
        ·by_cases b3:0 ≤ s.secret.getD r 0 ∧ s.secret.getD r 0 < ((2 ^ s.C:Nat):Int)
         ·(repeat' ((try conv=>whnf);first|(with_reducible first|refine wT ?_|refine wF ?_|(refine wI (fun hq=>?_) (fun hq=>?_) <;> try simp only [zA,zE,zD,zJ,zB,zI,wK,wL] at hq)|refine wA ?_|refine wB ?_|refine wC ?_|refine wD ?_|refine wE ?_)|((with_reducible refine wN ?_ ?_);focus exact needA)|(with_reducible refine wG ?_)|(refine FCall.pure (cMn) ⟨Ln.sameB _ rfl,True.intro⟩ rfl ?_)|(refine FCall.pure (cMx) ⟨Ln.sameB _ rfl,True.intro⟩ rfl ?_)|(refine FBit.shl1 (j:=s.C) rfl (by omega) ?_)|(with_reducible refine wP ?_)))
          all_goals (try conv=>whnf)
          all_goals exact ⟨⟨r + 1,⟨hlt,below_step hup ⟨by rw [hrow,decide_eq_true b1,decide_eq_true b2];rfl,decide_eq_true (by omega)⟩⟩,by omega,[0],Cut.A,allA⟩⟩
         ·rw [check_80 (upTo_no (r:=r) hlt a4 (.inr (decide_eq_false (by omega))))]
          by_cases b4:s.secret.getD r 0 < 0
          ·(repeat' ((try conv=>whnf);first|(with_reducible first|refine wT ?_|refine wF ?_|(refine wI (fun hq=>?_) (fun hq=>?_) <;> try simp only [zA,zE,zD,zJ,zB,zI,wK,wL] at hq)|refine wA ?_|refine wB ?_|refine wC ?_|refine wD ?_|refine wE ?_)|((with_reducible refine wN ?_ ?_);focus exact needA)|(with_reducible refine wG ?_)|(refine FCall.pure (cMn) ⟨Ln.sameB _ rfl,True.intro⟩ rfl ?_)|(refine FCall.pure (cMx) ⟨Ln.sameB _ rfl,True.intro⟩ rfl ?_)|(refine FBit.shl1 (j:=s.C) rfl (by omega) ?_)|(with_reducible refine wP ?_)))
           all_goals (try conv=>whnf)
           all_goals ((refine ⟨⟨_,[],[],Cut.nil _,Ln.sameB _ rfl,?_,rfl⟩⟩);rfl)
          ·(repeat' ((try conv=>whnf);first|(with_reducible first|refine wT ?_|refine wF ?_|(refine wI (fun hq=>?_) (fun hq=>?_) <;> try simp only [zA,zE,zD,zJ,zB,zI,wK,wL] at hq)|refine wA ?_|refine wB ?_|refine wC ?_|refine wD ?_|refine wE ?_)|((with_reducible refine wN ?_ ?_);focus exact needA)|(with_reducible refine wG ?_)|(refine FCall.pure (cMn) ⟨Ln.sameB _ rfl,True.intro⟩ rfl ?_)|(refine FCall.pure (cMx) ⟨Ln.sameB _ rfl,True.intro⟩ rfl ?_)|(refine FBit.shl1 (j:=s.C) rfl (by omega) ?_)|(with_reducible refine wP ?_)))
           all_goals (try conv=>whnf)
           all_goals ((refine ⟨⟨_,[],[],Cut.nil _,Ln.sameB _ rfl,?_,rfl⟩⟩);rfl)
        ·rw [check_80 (upTo_no (r:=r) hlt a4 (.inl (by rw [hrow,decide_eq_false b2,Bool.and_false])))]
         (repeat' ((try conv=>whnf);first|(with_reducible first|refine wT ?_|refine wF ?_|(refine wI (fun hq=>?_) (fun hq=>?_) <;> try simp only [zA,zE,zD,zJ,zB,zI,wK,wL] at hq)|refine wA ?_|refine wB ?_|refine wC ?_|refine wD ?_|refine wE ?_)|((with_reducible refine wN ?_ ?_);focus exact needA)|(with_reducible refine wG ?_)|(refine FCall.pure (cMn) ⟨Ln.sameB _ rfl,True.intro⟩ rfl ?_)|(refine FCall.pure (cMx) ⟨Ln.sameB _ rfl,True.intro⟩ rfl ?_)|(with_reducible refine wP ?_)))
         all_goals (try conv=>whnf)
         all_goals ((refine ⟨⟨_,[],[],Cut.nil _,Ln.sameB _ rfl,?_,rfl⟩⟩);rfl)
       ·rw [check_80 (upTo_no (r:=r) hlt a4 (.inl (by rw [hrow,decide_eq_false b1,Bool.false_and])))]
        (repeat' ((try conv=>whnf);first|(with_reducible first|refine wT ?_|refine wF ?_|(refine wI (fun hq=>?_) (fun hq=>?_) <;> try simp only [zA,zE,zD,zJ,zB,zI,wK,wL] at hq)|refine wA ?_|refine wB ?_|refine wC ?_|refine wD ?_|refine wE ?_)|((with_reducible refine wN ?_ ?_);focus exact needA)|(with_reducible refine wG ?_)|(refine FCall.pure (cMn) ⟨Ln.sameB _ rfl,True.intro⟩ rfl ?_)|(refine FCall.pure (cMx) ⟨Ln.sameB _ rfl,True.intro⟩ rfl ?_)|(with_reducible refine wP ?_)))
        all_goals (try conv=>whnf)
        all_goals ((refine ⟨⟨_,[],[],Cut.nil _,Ln.sameB _ rfl,?_,rfl⟩⟩);rfl)
      ·rw [check_80 (upTo_no (r:=r) hlt a4 (.inl (by unfold rowS;rw [decide_eq_false hlen,Bool.false_and])))]
       (repeat' ((try conv=>whnf);first|(with_reducible first|refine wT ?_|refine wF ?_|(refine wI (fun hq=>?_) (fun hq=>?_) <;> try simp only [zA,zE,zD,zJ,zB,zI,wK,wL] at hq)|refine wA ?_|refine wB ?_|refine wC ?_|refine wD ?_|refine wE ?_)|((with_reducible refine wN ?_ ?_);focus exact needA)|(with_reducible refine wG ?_)|(with_reducible refine wP ?_)))
       all_goals (try conv=>whnf)
       all_goals ((refine ⟨⟨_,[],[],Cut.nil _,Ln.sameB _ rfl,?_,rfl⟩⟩);rfl)
     ·obtain rfl:r = s.amounts.length:=by omega
      rw [check_ok' (upTo_ok i1 i2 i3 a4 hup)]
      (repeat' ((try conv=>whnf);first|(with_reducible first|refine wT ?_|refine wF ?_|(refine wI (fun hq=>?_) (fun hq=>?_) <;> try simp only [zA,zE,zD,zJ,zB,zI,wK,wL] at hq)|refine wA ?_|refine wB ?_|refine wC ?_|refine wD ?_|refine wE ?_)|((with_reducible refine wN ?_ ?_);focus exact needA)|(with_reducible refine wG ?_)|(with_reducible refine wP ?_)))
      all_goals (try conv=>whnf)
      all_goals ((refine ⟨⟨_,[],[],Cut.nil _,Ln.sameB _ rfl,?_,rfl⟩⟩);rfl)
    ·have hf:s.ok = false:=by
      unfold Sheet.ok Sheet.head;rw [show inB (s.C:Int) 1 4 = false from decide_eq_false (by omega)];simp
     rw [check_80 hf]
     (repeat' ((try conv=>whnf);first|(with_reducible first|refine wT ?_|refine wF ?_|(refine wI (fun hq=>?_) (fun hq=>?_) <;> try simp only [zA,zE,zD,zJ,zB,zI,wK,wL] at hq)|refine wA ?_|refine wB ?_|refine wC ?_|refine wD ?_|refine wE ?_)|((with_reducible refine wN ?_ ?_);focus exact needA)|(with_reducible refine wG ?_)|(with_reducible refine wP ?_)))
     all_goals (try conv=>whnf)
     all_goals ((refine ⟨⟨_,[],[],Cut.nil _,Ln.sameB _ rfl,?_,rfl⟩⟩);rfl)
   ·have hf:s.ok = false:=by
     unfold Sheet.ok Sheet.head;rw [show inB s.gap 1 1000 = false from decide_eq_false a3];simp
    rw [check_80 hf]
    (repeat' ((try conv=>whnf);first|(with_reducible first|refine wT ?_|refine wF ?_|(refine wI (fun hq=>?_) (fun hq=>?_) <;> try simp only [zA,zE,zD,zJ,zB,zI,wK,wL] at hq)|refine wA ?_|refine wB ?_|refine wC ?_|refine wD ?_|refine wE ?_)|((with_reducible refine wN ?_ ?_);focus exact needA)|(with_reducible refine wG ?_)|(with_reducible refine wP ?_)))
    all_goals (try conv=>whnf)
    all_goals ((refine ⟨⟨_,[],[],Cut.nil _,Ln.sameB _ rfl,?_,rfl⟩⟩);rfl)
  ·have hf:s.ok = false:=by
    unfold Sheet.ok Sheet.head maskS;rw [show decide (s.secret.length = s.R) = false from decide_eq_false a4];simp
   rw [check_80 hf]
   (repeat' ((try conv=>whnf);first|(with_reducible first|refine wT ?_|refine wF ?_|(refine wI (fun hq=>?_) (fun hq=>?_) <;> try simp only [zA,zE,zD,zJ,zB,zI,wK,wL] at hq)|refine wA ?_|refine wB ?_|refine wC ?_|refine wD ?_|refine wE ?_)|((with_reducible refine wN ?_ ?_);focus exact needA)|(with_reducible refine wG ?_)|(with_reducible refine wP ?_)))
   all_goals (try conv=>whnf)
   all_goals ((refine ⟨⟨_,[],[],Cut.nil _,Ln.sameB _ rfl,?_,rfl⟩⟩);rfl)
 ·have hf:s.ok = false:=by
   unfold Sheet.ok Sheet.head;rw [show inB (s.R:Int) 1 4 = false from decide_eq_false (by omega)];simp
  rw [check_80 hf]
  (repeat' ((try conv=>whnf);first|(with_reducible first|refine wT ?_|refine wF ?_|(refine wI (fun hq=>?_) (fun hq=>?_) <;> try simp only [zA,zE,zD,zJ,zB,zI,wK,wL] at hq)|refine wA ?_|refine wB ?_|refine wC ?_|refine wD ?_|refine wE ?_)|((with_reducible refine wN ?_ ?_);focus exact needA)|(with_reducible refine wG ?_)|(with_reducible refine wP ?_)))
  all_goals (try conv=>whnf)
  all_goals ((refine ⟨⟨_,[],[],Cut.nil _,Ln.sameB _ rfl,?_,rfl⟩⟩);rfl)
end Go.Proofs.Ytlffjnmbpoemnaa

namespace Go.Proofs.Ytlffjnmbpoemnaa
open Go.RowKit

/-- A sheet with a mask, as it lies in memory. -/
abbrev cSt (f:ShF) (s:Sheet) (z e:Bool) (m:List Int):Nat → AV:=ofL [aRows f.za f.ea f.rz f.re s.amounts,aInts f.zs f.es s.secret,AI s.gap,aInts z e m]
abbrev iSt (f:ShF) (s:Sheet) (z e:Bool) (m:List Int):AV:=.ip 4 (cSt f s z e m) 0
def outS (m:List Int) (r c:Nat):Bool:=(m.getD r 0).toNat.testBit c
set_option maxHeartbeats 8000000
set_option maxRecDepth 100000
theorem colsP_ok (f:ShF) (s:Sheet) (hr:0 < s.R) (z e:Bool) (m:List Int):ACall Try.prog 64 [iSt f s z e m] [] (fun r h=>r = AI s.C ∧ h = []):=by
 have hr':0 < s.amounts.length:=hr
 (refine fcall_of mixed Try.func64 rfl (by decide) (hs:={}) ?k (ac:=?ac) ?c (rs:=?rs) ?r ?l ?H;(case k=>kernel_rfl);(case c=>(conv=>(lhs;cbv)));(case r=>(conv=>(lhs;cbv)));(case l=>exact Nat.le_of_ble_eq_true rfl))
 (repeat' ((try conv=>whnf);first|(with_reducible first|refine wT ?_|refine wF ?_|(refine wI (fun hq=>?_) (fun hq=>?_) <;> try simp only [zA,zE,zD,zJ,zB,zI,wK,wL] at hq)|refine wA ?_|refine wB ?_|refine wC ?_|refine wD ?_|refine wE ?_)|((with_reducible refine wN ?_ ?_);focus exact needA)|(with_reducible refine wG ?_)|(with_reducible refine wP ?_)))
 all_goals (try conv=>whnf)
 all_goals ((refine ⟨⟨_,[],[],Cut.nil _,Ln.sameB _ rfl,?_,rfl⟩⟩);rfl)
theorem outP_ok (f:ShF) (s:Sheet) (z e:Bool) (m:List Int) (r c:Nat) (hr:r < m.length) (h0:0 ≤ m.getD r 0) (hc:c ≤ 64):ACall Try.prog 71 [iSt f s z e m,AI r,AI c] [] (fun v h=>v = .bool (outS m r c) ∧ h = []):=by
 obtain ⟨k,hk⟩:∃ k:Nat,m.getD r 0 = k:=⟨(m.getD r 0).toNat,by omega⟩
 have e1:outS m r c = k.testBit c:=by unfold outS;rw [hk];rfl
 rw [e1]
 (refine fcall_of mixed Try.func71 rfl (by decide) (hs:={}) ?k (ac:=?ac) ?c (rs:=?rs) ?r ?l ?H;(case k=>kernel_rfl);(case c=>(conv=>(lhs;cbv)));(case r=>(conv=>(lhs;cbv)));(case l=>exact Nat.le_of_ble_eq_true rfl))
 cases hq7:k.testBit c
 ·(repeat' ((try conv=>whnf);first|(with_reducible first|refine wT ?_|refine wF ?_|(refine wI (fun hq=>?_) (fun hq=>?_) <;> try simp only [zA,zE,zD,zJ,zB,zI,wK,wL] at hq)|refine wA ?_|refine wB ?_|refine wC ?_|refine wD ?_|refine wE ?_)|((with_reducible refine wN ?_ ?_);focus exact needA)|(with_reducible refine wG ?_)|(rw [hk];refine FBit.shrN rfl (by omega) ?_)|(refine FBit.hasF rfl hq7 ?_)|(with_reducible refine wP ?_)))
  all_goals (try conv=>whnf)
  all_goals ((refine ⟨⟨_,[],[],Cut.nil _,Ln.sameB _ rfl,?_,rfl⟩⟩);rfl)
 ·(repeat' ((try conv=>whnf);first|(with_reducible first|refine wT ?_|refine wF ?_|(refine wI (fun hq=>?_) (fun hq=>?_) <;> try simp only [zA,zE,zD,zJ,zB,zI,wK,wL] at hq)|refine wA ?_|refine wB ?_|refine wC ?_|refine wD ?_|refine wE ?_)|((with_reducible refine wN ?_ ?_);focus exact needA)|(with_reducible refine wG ?_)|(rw [hk];refine FBit.shrN rfl (by omega) ?_)|(refine FBit.hasT rfl hq7 ?_)|(with_reducible refine wP ?_)))
  all_goals (try conv=>whnf)
  all_goals ((refine ⟨⟨_,[],[],Cut.nil _,Ln.sameB _ rfl,?_,rfl⟩⟩);rfl)
def openV (f:ShF) (s:Sheet) (z e:Bool) (m:List Int):AV:=.tup 2 (ofL [if checkM s m = 0 then iSt f s z e m else .nilp,AI (checkM s m)])
theorem open_ok (f:ShF) (s:Sheet) (hn:Near s) (z e:Bool) (m:List Int) (hm:m.length ≤ 1000):ACall Try.prog 51 [aSh f s,aInts z e m] [] (fun r h=>r = openV f s z e m ∧ h = []):=by
 have cC:=check_ok f s hn
 (refine fcall_of mixed Try.func51 rfl (by decide) (hs:={}) ?k (ac:=?ac) ?c (rs:=?rs) ?r ?l ?H;(case k=>kernel_rfl);(case c=>(conv=>(lhs;cbv)));(case r=>(conv=>(lhs;cbv)));(case l=>exact Nat.le_of_ble_eq_true rfl))
 cases hk:s.ok
 ·rw [check_80 hk] at cC
  rw [show openV f s z e m = .tup 2 (ofL [.nilp,AI 80]) from by unfold openV checkM;rw [hk];rfl]
  (repeat' ((try conv=>whnf);first|(with_reducible first|refine wT ?_|refine wF ?_|(refine wI (fun hq=>?_) (fun hq=>?_) <;> try simp only [zA,zE,zD,zJ,zB,zI,wK,wL] at hq)|refine wA ?_|refine wB ?_|refine wC ?_|refine wD ?_|refine wE ?_)|((with_reducible refine wN ?_ ?_);focus exact needA)|(with_reducible refine wG ?_)|(refine FCall.pure (cC) ⟨Ln.sameB _ rfl,True.intro⟩ rfl ?_)|(with_reducible refine wP ?_)))
  all_goals (try conv=>whnf)
  all_goals ((refine ⟨⟨_,[],[],Cut.nil _,Ln.sameB _ rfl,?_,rfl⟩⟩);rfl)
 ·rw [check_ok' hk] at cC
  have hs:=sheet_d hk
  have cM:=masks_ok f s (by have:=hs.r1;omega) hn z e m hm
  cases hq7:maskS s m
  ·rw [hq7] at cM
   rw [show openV f s z e m = .tup 2 (ofL [.nilp,AI 81]) from by unfold openV checkM;rw [hk,hq7];rfl]
   (repeat' ((try conv=>whnf);first|(with_reducible first|refine wT ?_|refine wF ?_|(refine wI (fun hq=>?_) (fun hq=>?_) <;> try simp only [zA,zE,zD,zJ,zB,zI,wK,wL] at hq)|refine wA ?_|refine wB ?_|refine wC ?_|refine wD ?_|refine wE ?_)|((with_reducible refine wN ?_ ?_);focus exact needA)|(with_reducible refine wG ?_)|(refine FCall.pure (cC) ⟨Ln.sameB _ rfl,True.intro⟩ rfl ?_)|(refine FCall.pure (cM) ⟨Ln.sameB _ rfl,Ln.sameB _ rfl,True.intro⟩ rfl ?_)|(with_reducible refine wP ?_)))
   all_goals (try conv=>whnf)
   all_goals ((refine ⟨⟨_,[],[],Cut.nil _,Ln.sameB _ rfl,?_,rfl⟩⟩);rfl)
  ·rw [hq7] at cM
   rw [show openV f s z e m = .tup 2 (ofL [iSt f s z e m,AI 0]) from by unfold openV checkM;rw [hk,hq7];rfl]
   (repeat' ((try conv=>whnf);first|(with_reducible first|refine wT ?_|refine wF ?_|(refine wI (fun hq=>?_) (fun hq=>?_) <;> try simp only [zA,zE,zD,zJ,zB,zI,wK,wL] at hq)|refine wA ?_|refine wB ?_|refine wC ?_|refine wD ?_|refine wE ?_)|((with_reducible refine wN ?_ ?_);focus exact needA)|(with_reducible refine wG ?_)|(refine FCall.pure (cC) ⟨Ln.sameB _ rfl,True.intro⟩ rfl ?_)|(refine FCall.pure (cM) ⟨Ln.sameB _ rfl,Ln.sameB _ rfl,True.intro⟩ rfl ?_)|(with_reducible refine wP ?_)))
   all_goals (try conv=>whnf)
   exact ⟨⟨.tup 2 (ofL [iSt f s z e m,AI 0]),[],[],Cut.nil _,Ln.tupN ⟨⟨True.intro,Ln.boxP (goneB rfl) rfl ⟨⟨⟨⟨True.intro,Ln.sameB _ rfl⟩,Ln.sameB _ rfl⟩,Ln.sameB _ rfl⟩,Ln.sameB _ rfl⟩ rfl⟩,Ln.A⟩,rfl,rfl⟩⟩
def spotV (f:ShF) (s:Sheet) (z e:Bool) (m:List Int) (r c:Int):AV:=.tup 2 (ofL [if checkM s m = 0 then iSt f s z e m else .nilp,AI (checkP s m r c)])
theorem spot_ok (f:ShF) (s:Sheet) (hn:Near s) (z e:Bool) (m:List Int) (hm:m.length ≤ 1000) (r c:Int):ACall Try.prog 48 [aSh f s,aInts z e m,AI r,AI c] [] (fun v h=>v = spotV f s z e m r c ∧ h = []):=by
 have cO:=open_ok f s hn z e m hm
 (refine fcall_of mixed Try.func48 rfl (by decide) (hs:={}) ?k (ac:=?ac) ?c (rs:=?rs) ?r ?l ?H;(case k=>kernel_rfl);(case c=>(conv=>(lhs;cbv)));(case r=>(conv=>(lhs;cbv)));(case l=>exact Nat.le_of_ble_eq_true rfl))
 by_cases h0:checkM s m = 0
 ·obtain ⟨hk,hmk⟩:=checkM_0 h0
  have hs:=sheet_d hk
  have r1:=hs.r1
  have hR:s.R = s.amounts.length:=rfl
  have r4:=hs.r4
  have c4:=hs.c4
  have cC:=colsP_ok f s (by omega) z e m
  rw [show openV f s z e m = .tup 2 (ofL [iSt f s z e m,AI 0]) from by unfold openV;rw [if_pos h0,h0]] at cO
  by_cases hp:(0 ≤ r ∧ r < s.amounts.length) ∧ 0 ≤ c ∧ c < s.C
  ·rw [show spotV f s z e m r c = .tup 2 (ofL [iSt f s z e m,AI 0]) from by
    unfold spotV checkP
    rw [if_pos h0,if_pos h0,show placeOk s r c = true from by unfold placeOk;rw [show inB r 0 ((s.R:Int) - 1) = true from decide_eq_true (by omega),show inB c 0 ((s.C:Int) - 1) = true from decide_eq_true (by omega)];rfl]
    rfl]
   (repeat' ((try conv=>whnf);first|(with_reducible first|refine wT ?_|refine wF ?_|(refine wI (fun hq=>?_) (fun hq=>?_) <;> try simp only [zA,zE,zD,zJ,zB,zI,wK,wL] at hq)|refine wA ?_|refine wB ?_|refine wC ?_|refine wD ?_|refine wE ?_)|((with_reducible refine wN ?_ ?_);focus exact needA)|(with_reducible refine wG ?_)|(refine FCall.pure (cO) ⟨Ln.sameB _ rfl,Ln.sameB _ rfl,True.intro⟩ rfl ?_)|(refine FCall.pure (cC) ⟨Ln.sameB _ rfl,True.intro⟩ rfl ?_)|(with_reducible refine wP ?_)))
   all_goals (try conv=>whnf)
   all_goals ((refine ⟨⟨_,[],[],Cut.nil _,Ln.sameB _ rfl,?_,rfl⟩⟩);rfl)
  ·rw [show spotV f s z e m r c = .tup 2 (ofL [iSt f s z e m,AI 1]) from by
    unfold spotV checkP
    rw [if_pos h0,if_pos h0,show placeOk s r c = false from by unfold placeOk inB;rw [← Bool.decide_and];exact decide_eq_false (by omega)]
    rfl]
   by_cases b1:r < 0
   ·(repeat' ((try conv=>whnf);first|(with_reducible first|refine wT ?_|refine wF ?_|(refine wI (fun hq=>?_) (fun hq=>?_) <;> try simp only [zA,zE,zD,zJ,zB,zI,wK,wL] at hq)|refine wA ?_|refine wB ?_|refine wC ?_|refine wD ?_|refine wE ?_)|((with_reducible refine wN ?_ ?_);focus exact needA)|(with_reducible refine wG ?_)|(refine FCall.pure (cO) ⟨Ln.sameB _ rfl,Ln.sameB _ rfl,True.intro⟩ rfl ?_)|(refine FCall.pure (cC) ⟨Ln.sameB _ rfl,True.intro⟩ rfl ?_)|(with_reducible refine wP ?_)))
    all_goals (try conv=>whnf)
    all_goals ((refine ⟨⟨_,[],[],Cut.nil _,Ln.sameB _ rfl,?_,rfl⟩⟩);rfl)
   by_cases b2:(s.amounts.length:Int) ≤ r
   ·(repeat' ((try conv=>whnf);first|(with_reducible first|refine wT ?_|refine wF ?_|(refine wI (fun hq=>?_) (fun hq=>?_) <;> try simp only [zA,zE,zD,zJ,zB,zI,wK,wL] at hq)|refine wA ?_|refine wB ?_|refine wC ?_|refine wD ?_|refine wE ?_)|((with_reducible refine wN ?_ ?_);focus exact needA)|(with_reducible refine wG ?_)|(refine FCall.pure (cO) ⟨Ln.sameB _ rfl,Ln.sameB _ rfl,True.intro⟩ rfl ?_)|(refine FCall.pure (cC) ⟨Ln.sameB _ rfl,True.intro⟩ rfl ?_)|(with_reducible refine wP ?_)))
    all_goals (try conv=>whnf)
    all_goals ((refine ⟨⟨_,[],[],Cut.nil _,Ln.sameB _ rfl,?_,rfl⟩⟩);rfl)
   by_cases b3:c < 0
   ·(repeat' ((try conv=>whnf);first|(with_reducible first|refine wT ?_|refine wF ?_|(refine wI (fun hq=>?_) (fun hq=>?_) <;> try simp only [zA,zE,zD,zJ,zB,zI,wK,wL] at hq)|refine wA ?_|refine wB ?_|refine wC ?_|refine wD ?_|refine wE ?_)|((with_reducible refine wN ?_ ?_);focus exact needA)|(with_reducible refine wG ?_)|(refine FCall.pure (cO) ⟨Ln.sameB _ rfl,Ln.sameB _ rfl,True.intro⟩ rfl ?_)|(refine FCall.pure (cC) ⟨Ln.sameB _ rfl,True.intro⟩ rfl ?_)|(with_reducible refine wP ?_)))
    all_goals (try conv=>whnf)
    all_goals ((refine ⟨⟨_,[],[],Cut.nil _,Ln.sameB _ rfl,?_,rfl⟩⟩);rfl)
   ·(repeat' ((try conv=>whnf);first|(with_reducible first|refine wT ?_|refine wF ?_|(refine wI (fun hq=>?_) (fun hq=>?_) <;> try simp only [zA,zE,zD,zJ,zB,zI,wK,wL] at hq)|refine wA ?_|refine wB ?_|refine wC ?_|refine wD ?_|refine wE ?_)|((with_reducible refine wN ?_ ?_);focus exact needA)|(with_reducible refine wG ?_)|(refine FCall.pure (cO) ⟨Ln.sameB _ rfl,Ln.sameB _ rfl,True.intro⟩ rfl ?_)|(refine FCall.pure (cC) ⟨Ln.sameB _ rfl,True.intro⟩ rfl ?_)|(with_reducible refine wP ?_)))
    all_goals (try conv=>whnf)
    all_goals ((refine ⟨⟨_,[],[],Cut.nil _,Ln.sameB _ rfl,?_,rfl⟩⟩);rfl)
 ·rw [show openV f s z e m = .tup 2 (ofL [.nilp,AI (checkM s m)]) from by unfold openV;rw [if_neg h0]] at cO
  rw [show spotV f s z e m r c = .tup 2 (ofL [.nilp,AI (checkM s m)]) from by unfold spotV checkP;rw [if_neg h0,if_neg h0]]
  (repeat' ((try conv=>whnf);first|(with_reducible first|refine wT ?_|refine wF ?_|(refine wI (fun hq=>?_) (fun hq=>?_) <;> try simp only [zA,zE,zD,zJ,zB,zI,wK,wL] at hq)|refine wA ?_|refine wB ?_|refine wC ?_|refine wD ?_|refine wE ?_)|((with_reducible refine wN ?_ ?_);focus exact needA)|(with_reducible refine wG ?_)|(refine FCall.pure (cO) ⟨Ln.sameB _ rfl,Ln.sameB _ rfl,True.intro⟩ rfl ?_)|(with_reducible refine wP ?_)))
  all_goals (try conv=>whnf)
  all_goals ((refine ⟨⟨_,[],[],Cut.nil _,Ln.sameB _ rfl,?_,rfl⟩⟩);rfl)
end Go.Proofs.Ytlffjnmbpoemnaa

namespace Go.Proofs.Ytlffjnmbpoemnaa
open Go.RowKit

def sumTo (f:Nat → Int):Nat → Int
 | 0=>0
 | k + 1=>sumTo f k + f k
theorem sumTo_congr {f g:Nat → Int}:∀ {k:Nat},(∀ i,i < k → f i = g i) → sumTo f k = sumTo g k
 | 0,_=>rfl
 | k + 1,h=>by simp only [sumTo];rw [sumTo_congr fun i hi=>h i (by omega),h k (by omega)]
theorem sumTo_bd {f:Nat → Int} {B:Int} (hB:0 ≤ B):∀ {k:Nat},(∀ i,i < k → -B ≤ f i ∧ f i ≤ B) → -(k * B) ≤ sumTo f k ∧ sumTo f k ≤ k * B
 | 0,_=>by simp [sumTo]
 | k + 1,h=>by
  have ih:=sumTo_bd hB (k:=k) fun i hi=>h i (by omega)
  have hk:=h k (by omega)
  simp only [sumTo]
  rw [show ((k + 1:Nat):Int) * B = (k:Int) * B + B by rw [Int.natCast_add,Int.add_mul];simp]
  omega
def at2 (l:List (List Int)) (r c:Nat):Int:=(l.getD r []).getD c 0
def rowSum (l:List (List Int)) (C r:Nat):Int:=sumTo (at2 l r) C
def colTo (l:List (List Int)) (r c:Nat):Int:=sumTo (fun i=>at2 l i c) r
def allTo (l:List (List Int)) (C r:Nat):Int:=sumTo (rowSum l C) r
/-- Amounts of a shape, not too large. -/
structure Shape (l:List (List Int)) (R C:Nat):Prop where
 r:l.length = R
 r1:1 ≤ R ∧ R ≤ 20
 c1:1 ≤ C ∧ C ≤ 20
 len:∀ r,r < R → (l.getD r []).length = C
 bd:∀ r c,r < R → c < C → -40000 ≤ at2 l r c ∧ at2 l r c ≤ 40000
theorem rowSum_bd {l:List (List Int)} {R C:Nat} (h:Shape l R C) {r:Nat} (hr:r < R) {c:Nat} (hc:c ≤ C):-800000 ≤ sumTo (at2 l r) c ∧ sumTo (at2 l r) c ≤ 800000:=by
 have:=sumTo_bd (B:=40000) (by decide) (k:=c) fun i hi=>h.bd r i hr (by omega)
 have:=h.c1
 omega
theorem colTo_bd {l:List (List Int)} {R C:Nat} (h:Shape l R C) {c:Nat} (hc:c < C) {r:Nat} (hr:r ≤ R):-800000 ≤ colTo l r c ∧ colTo l r c ≤ 800000:=by
 have:=sumTo_bd (f:=fun i=>at2 l i c) (B:=40000) (by decide) (k:=r) fun i hi=>h.bd i c (by omega) hc
 have:=h.r1
 unfold colTo
 omega
theorem allTo_bd {l:List (List Int)} {R C:Nat} (h:Shape l R C) {r:Nat} (hr:r ≤ R):-16000000 ≤ allTo l C r ∧ allTo l C r ≤ 16000000:=by
 have:=sumTo_bd (f:=rowSum l C) (B:=800000) (by decide) (k:=r) fun i hi=>rowSum_bd h (show i < R by omega) (Nat.le_refl C)
 have:=h.r1
 unfold allTo
 omega
abbrev aFun (n:Nat) (g:Nat → Int):AV:=.sl false false n 1 (fun k _=>AI (g k))
abbrev rowF (n:Nat) (g:Nat → Int):AB:=.row n 1 (fun k _=>AI (g k))
/-- The rows' sums so far: nil at first. -/
def oR : Nat → AV
 | 0=>nilS
 | r + 1=>.own 1 (r + 1)
def hR (h:AB) (g:Nat → Int):Nat → List AB
 | 0=>[h]
 | r + 1=>[h,rowF (r + 1) g]
def midC (l:List (List Int)) (r c k:Nat):Int:=if k < c then colTo l (r + 1) k else colTo l r k
theorem midC_at (l:List (List Int)) (r c:Nat):midC l r c c = colTo l r c:=if_neg (Nat.lt_irrefl c)
theorem midC_step (l:List (List Int)) (r c k:Nat):midC l r (c + 1) k = if k = c then midC l r c c + at2 l r c else midC l r c k:=by
 rw [midC_at]
 unfold midC
 by_cases e:k = c
 ·subst e;rw [if_pos (Nat.lt_succ_self k),if_pos rfl];rfl
 ·rw [if_neg e]
  by_cases hk:k < c
  ·rw [if_pos hk,if_pos (by omega)]
  ·rw [if_neg hk,if_neg (by omega)]
theorem midC_all (l:List (List Int)) (r:Nat) {C k:Nat} (hk:k < C):midC l r C k = colTo l (r + 1) k:=if_pos hk
theorem midC_zero (l:List (List Int)) (r k:Nat):midC l r 0 k = colTo l r k:=if_neg (Nat.not_lt_zero k)
set_option maxHeartbeats 8000000
set_option maxRecDepth 100000
theorem sums_ok (z e:Bool) (rz re:Nat → Bool) (l:List (List Int)) (R C:Nat) (h:Shape l R C):ACall Try.prog 55 [aRows z e rz re l] [] (fun v h=>v = .tup 3 (ofL [aFun R (rowSum l C),aFun C (fun c=>colTo l R c),AI (allTo l C R)]) ∧ h = []):=by
 have hl:=h.r
 have r1:=h.r1
 have c1:=h.c1
 have h0:=h.len 0 (by omega)
 have h0':(l.getD (Int.toNat 0) []).length = C:=h0
 (refine fcall_of mixed Try.func55 rfl (by decide) (hs:={}) ?k (ac:=?ac) ?c (rs:=?rs) ?r ?l ?H;(case k=>kernel_rfl);(case c=>(conv=>(lhs;cbv)));(case r=>(conv=>(lhs;cbv)));(case l=>exact Nat.le_of_ble_eq_true rfl))
 (repeat' ((try conv=>whnf);first|(with_reducible first|refine wT ?_|refine wF ?_|(refine wI (fun hq=>?_) (fun hq=>?_) <;> try simp only [zA,zE,zD,zJ,zB,zI,wK,wL] at hq)|refine wA ?_|refine wB ?_|refine wC ?_|refine wD ?_|refine wE ?_)|((with_reducible refine wN ?_ ?_);focus exact needA)|(with_reducible refine wG ?_)|(with_reducible refine wP ?_)))
 all_goals (try conv=>whnf)
 refine FLoop.of (ACalls.mono _) (X:=Nat) (fun r=>[(0,aRows z e rz re l),(2,oR r),(3,.own 0 C),(4,AI (allTo l C r)),(5,AI r)]) (fun r=>hR (rowF C (colTo l r)) (rowSum l C) r) (fun r=>r ≤ R) (fun r=>R - r) 0
  ⟨Nat.zero_le _,[0],wO rfl rfl rfl (wV rfl (LnB.rowE (by omega) fun k hk o ho=>by obtain rfl:o = 0:=(by omega);rfl) wX),⟨Ln.A,Ln.A,Ln.ownE rfl (by omega),Ln.A,Ln.A,True.intro⟩⟩ ?_
 intro r hr
 have hab:=allTo_bd h hr
 by_cases hlt:r < R
 ·have hlen:=h.len r hlt
  have hrb:=rowSum_bd h hlt (Nat.le_refl C)
  rcases r with _|r
  ·(repeat' ((try conv=>whnf);first|(with_reducible first|refine wT ?_|refine wF ?_|(refine wI (fun hq=>?_) (fun hq=>?_) <;> try simp only [zA,zE,zD,zJ,zB,zI,wK,wL] at hq)|refine wA ?_|refine wB ?_|refine wC ?_|refine wD ?_|refine wE ?_)|((with_reducible refine wN ?_ ?_);focus exact needA)|(with_reducible refine wG ?_)|(with_reducible refine wP ?_)))
   all_goals (try conv=>whnf)
   refine FLoop.of (ACalls.mono _) (X:=Nat) (fun c=>[(0,aRows z e rz re l),(2,oR (0)),(3,.own 0 C),(4,AI (allTo l C (0))),(5,AI (0:Nat)),(6,AI (sumTo (at2 l (0)) c)),(7,AI c)]) (fun c=>hR (rowF C (midC l (0) c)) (rowSum l C) (0)) (fun c=>c ≤ C) (fun c=>C - c) 0
    ⟨Nat.zero_le _,[0],wO rfl rfl rfl (wV rfl (LnB.rowE (Nat.le_refl _) fun k hk o ho=>by rw [midC_zero]) wX),allA⟩ ?_
   intro c hc
   have hsb:=rowSum_bd h hlt hc
   by_cases hltc:c < C
   ·have hb:-40000 ≤ (l.getD (0) []).getD c 0 ∧ (l.getD (0) []).getD c 0 ≤ 40000:=h.bd (0) c hlt hltc
    have hmb:-800000 ≤ midC l (0) c c ∧ midC l (0) c c ≤ 800000:=by rw [midC_at];exact colTo_bd h hltc hr
    (repeat' ((try conv=>whnf);first|(with_reducible first|refine wT ?_|refine wF ?_|(refine wI (fun hq=>?_) (fun hq=>?_) <;> try simp only [zA,zE,zD,zJ,zB,zI,wK,wL] at hq)|refine wA ?_|refine wB ?_|refine wC ?_|refine wD ?_|refine wE ?_)|((with_reducible refine wN ?_ ?_);focus exact needA)|(with_reducible refine wG ?_)|(with_reducible refine wP ?_)))
    all_goals (try conv=>whnf)
    exact ⟨⟨c + 1,hltc,by omega,[0],wO rfl rfl rfl (wV rfl (LnB.rowE (Nat.le_refl _) fun k hk o ho=>by
     rw [midC_step];obtain rfl:o = 0:=(by omega);simp only [updRm]
     by_cases e:k = c
     ·rw [if_pos e,if_pos e];rfl
     ·rw [if_neg e,if_neg e]) wX),allA⟩⟩
   ·obtain rfl:c = C:=by omega
    have hrs:rowSum l c (0) = sumTo (at2 l (0)) c:=rfl
    (repeat' ((try conv=>whnf);first|(with_reducible first|refine wT ?_|refine wF ?_|(refine wI (fun hq=>?_) (fun hq=>?_) <;> try simp only [zA,zE,zD,zJ,zB,zI,wK,wL] at hq)|refine wA ?_|refine wB ?_|refine wC ?_|refine wD ?_|refine wE ?_)|((with_reducible refine wN ?_ ?_);focus exact needA)|(with_reducible refine wG ?_)|(with_reducible refine wP ?_)))
    all_goals (try conv=>whnf)
    exact ⟨⟨0 + 1,hlt,by omega,[0,1],wO rfl rfl rfl (wV rfl (LnB.rowE (Nat.le_refl _) fun k hk o ho=>by rw [midC_all l _ hk]) (wV rfl (LnB.app (fun k hk=>absurd hk (Nat.not_lt_zero k)) (fun o ho=>by obtain rfl:o = 0:=(by omega);rfl)) wX)),allA⟩⟩
  ·(repeat' ((try conv=>whnf);first|(with_reducible first|refine wT ?_|refine wF ?_|(refine wI (fun hq=>?_) (fun hq=>?_) <;> try simp only [zA,zE,zD,zJ,zB,zI,wK,wL] at hq)|refine wA ?_|refine wB ?_|refine wC ?_|refine wD ?_|refine wE ?_)|((with_reducible refine wN ?_ ?_);focus exact needA)|(with_reducible refine wG ?_)|(with_reducible refine wP ?_)))
   all_goals (try conv=>whnf)
   refine FLoop.of (ACalls.mono _) (X:=Nat) (fun c=>[(0,aRows z e rz re l),(2,oR (r + 1)),(3,.own 0 C),(4,AI (allTo l C (r + 1))),(5,AI (r + 1:Nat)),(6,AI (sumTo (at2 l (r + 1)) c)),(7,AI c)]) (fun c=>hR (rowF C (midC l (r + 1) c)) (rowSum l C) (r + 1)) (fun c=>c ≤ C) (fun c=>C - c) 0
    ⟨Nat.zero_le _,[0,1],wO rfl rfl rfl (wV rfl (LnB.rowE (Nat.le_refl _) fun k hk o ho=>by rw [midC_zero]) (wV rfl LnB.A wX)),allA⟩ ?_
   intro c hc
   have hsb:=rowSum_bd h hlt hc
   by_cases hltc:c < C
   ·have hb:-40000 ≤ (l.getD (r + 1) []).getD c 0 ∧ (l.getD (r + 1) []).getD c 0 ≤ 40000:=h.bd (r + 1) c hlt hltc
    have hmb:-800000 ≤ midC l (r + 1) c c ∧ midC l (r + 1) c c ≤ 800000:=by rw [midC_at];exact colTo_bd h hltc hr
    (repeat' ((try conv=>whnf);first|(with_reducible first|refine wT ?_|refine wF ?_|(refine wI (fun hq=>?_) (fun hq=>?_) <;> try simp only [zA,zE,zD,zJ,zB,zI,wK,wL] at hq)|refine wA ?_|refine wB ?_|refine wC ?_|refine wD ?_|refine wE ?_)|((with_reducible refine wN ?_ ?_);focus exact needA)|(with_reducible refine wG ?_)|(with_reducible refine wP ?_)))
    all_goals (try conv=>whnf)
    exact ⟨⟨c + 1,hltc,by omega,[0,1],wO rfl rfl rfl (wV rfl (LnB.rowE (Nat.le_refl _) fun k hk o ho=>by
     rw [midC_step];obtain rfl:o = 0:=(by omega);simp only [updRm]
     by_cases e:k = c
     ·rw [if_pos e,if_pos e];rfl
     ·rw [if_neg e,if_neg e]) (wV rfl LnB.A wX)),allA⟩⟩
   ·obtain rfl:c = C:=by omega
    have hrs:rowSum l c (r + 1) = sumTo (at2 l (r + 1)) c:=rfl
    (repeat' ((try conv=>whnf);first|(with_reducible first|refine wT ?_|refine wF ?_|(refine wI (fun hq=>?_) (fun hq=>?_) <;> try simp only [zA,zE,zD,zJ,zB,zI,wK,wL] at hq)|refine wA ?_|refine wB ?_|refine wC ?_|refine wD ?_|refine wE ?_)|((with_reducible refine wN ?_ ?_);focus exact needA)|(with_reducible refine wG ?_)|(with_reducible refine wP ?_)))
    all_goals (try conv=>whnf)
    exact ⟨⟨r + 1 + 1,hlt,by omega,[0,2],wO rfl rfl rfl (wV rfl (LnB.rowE (Nat.le_refl _) fun k hk o ho=>by rw [midC_all l _ hk]) (wV rfl (LnB.app (fun k hk o ho=>rfl) (fun o ho=>by obtain rfl:o = 0:=(by omega);rfl)) wX)),allA⟩⟩
 ·obtain rfl:r = R:=by omega
  obtain ⟨n,rfl⟩:∃ n,r = n + 1:=⟨r - 1,by omega⟩
  (repeat' ((try conv=>whnf);first|(with_reducible first|refine wT ?_|refine wF ?_|(refine wI (fun hq=>?_) (fun hq=>?_) <;> try simp only [zA,zE,zD,zJ,zB,zI,wK,wL] at hq)|refine wA ?_|refine wB ?_|refine wC ?_|refine wD ?_|refine wE ?_)|((with_reducible refine wN ?_ ?_);focus exact needA)|(with_reducible refine wG ?_)|(with_reducible refine wP ?_)))
  all_goals (try conv=>whnf)
  exact ⟨⟨.tup 3 (ofL [aFun (n + 1) (rowSum l C),aFun C (fun c=>colTo l (n + 1) c),AI (allTo l C (n + 1))]),[],[],Cut.nil _,Ln.tupN ⟨⟨⟨True.intro,Ln.pubE (goneB rfl) rfl (Nat.le_refl _) rfl (fun _ _ _ _=>rfl)⟩,Ln.pubE (goneB rfl) rfl (Nat.le_refl _) rfl (fun _ _ _ _=>rfl)⟩,Ln.A⟩,rfl,rfl⟩⟩
end Go.Proofs.Ytlffjnmbpoemnaa

namespace Go.Proofs.Ytlffjnmbpoemnaa
open Go.RowKit

def eqTo (f g:Nat → Int) (n:Nat):Bool:=(List.range n).all fun k=>decide (f k = g k)
theorem eqTo_no {f g:Nat → Int} {n k:Nat} (hk:k < n) (h:f k ≠ g k):eqTo f g n = false:=by
 unfold eqTo
 rw [List.all_eq_false]
 exact ⟨k,List.mem_range.2 hk,by simpa using h⟩
theorem eqTo_yes {f g:Nat → Int} {n:Nat} (h:∀ k,k < n → f k = g k):eqTo f g n = true:=by
 unfold eqTo
 rw [List.all_eq_true]
 exact fun k hk=>decide_eq_true (h k (List.mem_range.1 hk))
theorem eqTo_iff {f g:Nat → Int} {n:Nat}:eqTo f g n = true ↔ ∀ k,k < n → f k = g k:=by
 unfold eqTo
 simp [List.all_eq_true]
set_option maxHeartbeats 8000000
set_option maxRecDepth 100000
theorem same_ok (n:Nat) (f g:Nat → Int) (hn:n ≤ 1000):ACall Try.prog 56 [aFun n f,aFun n g] [] (fun r h=>r = .bool (eqTo f g n) ∧ h = []):=by
 (refine fcall_of mixed Try.func56 rfl (by decide) (hs:={}) ?k (ac:=?ac) ?c (rs:=?rs) ?r ?l ?H;(case k=>kernel_rfl);(case c=>(conv=>(lhs;cbv)));(case r=>(conv=>(lhs;cbv)));(case l=>exact Nat.le_of_ble_eq_true rfl))
 (repeat' ((try conv=>whnf);first|(with_reducible first|refine wT ?_|refine wF ?_|(refine wI (fun hq=>?_) (fun hq=>?_) <;> try simp only [zA,zE,zD,zJ,zB,zI,wK,wL] at hq)|refine wA ?_|refine wB ?_|refine wC ?_|refine wD ?_|refine wE ?_)|((with_reducible refine wN ?_ ?_);focus exact needA)|(with_reducible refine wG ?_)|(with_reducible refine wP ?_)))
 all_goals (try conv=>whnf)
 refine FLoop.of (ACalls.mono _) (X:=Nat) (fun i=>[(0,aFun n f),(1,aFun n g),(5,AI i)]) (fun _=>[]) (fun i=>i ≤ n ∧ ∀ k,k < i → f k = g k) (fun i=>n - i) 0 ⟨⟨Nat.zero_le _,fun k hk=>absurd hk (Nat.not_lt_zero k)⟩,[],Cut.A,allA⟩ ?_
 rintro i ⟨hi,hall⟩
 by_cases hlt:i < n
 ·by_cases h:f i = g i
  ·(repeat' ((try conv=>whnf);first|(with_reducible first|refine wT ?_|refine wF ?_|(refine wI (fun hq=>?_) (fun hq=>?_) <;> try simp only [zA,zE,zD,zJ,zB,zI,wK,wL] at hq)|refine wA ?_|refine wB ?_|refine wC ?_|refine wD ?_|refine wE ?_)|((with_reducible refine wN ?_ ?_);focus exact needA)|(with_reducible refine wG ?_)|(with_reducible refine wP ?_)))
   all_goals (try conv=>whnf)
   all_goals exact ⟨⟨i + 1,⟨hlt,below_step hall h⟩,by omega,[],Cut.nil _,allA⟩⟩
  ·rw [eqTo_no hlt h]
   (repeat' ((try conv=>whnf);first|(with_reducible first|refine wT ?_|refine wF ?_|(refine wI (fun hq=>?_) (fun hq=>?_) <;> try simp only [zA,zE,zD,zJ,zB,zI,wK,wL] at hq)|refine wA ?_|refine wB ?_|refine wC ?_|refine wD ?_|refine wE ?_)|((with_reducible refine wN ?_ ?_);focus exact needA)|(with_reducible refine wG ?_)|(with_reducible refine wP ?_)))
   all_goals (try conv=>whnf)
   all_goals ((refine ⟨⟨_,[],[],Cut.nil _,Ln.sameB _ rfl,?_,rfl⟩⟩);rfl)
 ·obtain rfl:i = n:=by omega
  rw [eqTo_yes hall]
  (repeat' ((try conv=>whnf);first|(with_reducible first|refine wT ?_|refine wF ?_|(refine wI (fun hq=>?_) (fun hq=>?_) <;> try simp only [zA,zE,zD,zJ,zB,zI,wK,wL] at hq)|refine wA ?_|refine wB ?_|refine wC ?_|refine wD ?_|refine wE ?_)|((with_reducible refine wN ?_ ?_);focus exact needA)|(with_reducible refine wG ?_)|(with_reducible refine wP ?_)))
  all_goals (try conv=>whnf)
  all_goals ((refine ⟨⟨_,[],[],Cut.nil _,Ln.sameB _ rfl,?_,rfl⟩⟩);first|rfl|simp)
end Go.Proofs.Ytlffjnmbpoemnaa

namespace Go.Proofs.Ytlffjnmbpoemnaa
open Go.RowKit

def cellB (s:Sheet) (m:List Int) (l:List (List Int)) (r c:Nat):Bool:=inB (at2 l r c) 0 40000 && (outS m r c || decide (at2 l r c = s.A r c))
def lineB (s:Sheet) (m:List Int) (l:List (List Int)) (r:Nat):Bool:=decide ((l.getD r []).length = s.C) && (List.range s.C).all (cellB s m l r)
/-- Amounts agree with a sheet and a mask. -/
def agreeB (s:Sheet) (m:List Int) (l:List (List Int)):Bool:=decide (l.length = s.R) && (List.range s.R).all (lineB s m l) && eqTo (rowSum s.amounts s.C) (rowSum l s.C) s.R && eqTo (fun c=>colTo s.amounts s.R c) (fun c=>colTo l s.R c) s.C
theorem shape_s {s:Sheet} (hs:SheetOk s):Shape s.amounts s.R s.C :=
 ⟨rfl,⟨hs.r1,by have:=hs.r4;omega⟩,⟨hs.c1,by have:=hs.c4;omega⟩,hs.row,fun r c hr hc=>by have:=hs.amt r c hr hc;unfold Sheet.A at this;unfold at2;omega⟩
theorem rall_no {p:Nat → Bool} {n i:Nat} (h:i < n) (hp:p i = false):(List.range n).all p = false:=by
 rw [List.all_eq_false];exact ⟨i,List.mem_range.2 h,by rw [hp];decide⟩
theorem rall_yes {p:Nat → Bool} {n:Nat} (h:∀ i,i < n → p i = true):(List.range n).all p = true:=by
 rw [List.all_eq_true];exact fun i hi=>h i (List.mem_range.1 hi)
theorem shape_l {s:Sheet} {m:List Int} {l:List (List Int)} (hs:SheetOk s) (hl:l.length = s.R) (h:∀ r,r < s.R → lineB s m l r = true):Shape l s.R s.C:=by
 refine ⟨hl,⟨hs.r1,by have:=hs.r4;omega⟩,⟨hs.c1,by have:=hs.c4;omega⟩,fun r hr=>?_,fun r c hr hc=>?_⟩
 ·have:=h r hr
  unfold lineB at this
  simp only [Bool.and_eq_true,decide_eq_true_eq] at this
  exact this.1
 ·have:=h r hr
  unfold lineB at this
  simp only [Bool.and_eq_true,decide_eq_true_eq] at this
  have:=List.all_eq_true.1 this.2 c (List.mem_range.2 hc)
  unfold cellB at this
  simp only [Bool.and_eq_true,inB,decide_eq_true_eq] at this
  omega
set_option maxHeartbeats 8000000
set_option maxRecDepth 100000
theorem agrees_ok (f:ShF) (s:Sheet) (hs:SheetOk s) (z e:Bool) (m:List Int) (hm:MaskOk s m) (z2 e2:Bool) (rz re:Nat → Bool) (l:List (List Int)):ACall Try.prog 27 [aSh f s,aInts z e m,aRows z2 e2 rz re l] [] (fun v h=>v = .bool (agreeB s m l) ∧ h = []):=by
 have r4:=hs.r4
 have c4:=hs.c4
 have hR:s.R = s.amounts.length:=rfl
 have hml:=hm.len
 have cC:=columns_ok f s (by have:=hs.r1;omega)
 (refine fcall_of mixed Try.func27 rfl (by decide) (hs:={ ord:=[(6,[(0,[]),(1,[]),(2,[]),(3,[]),(4,[]),(5,[]),(6,[3]),(7,[])])] }) ?k (ac:=?ac) ?c (rs:=?rs) ?r ?l ?H;(case k=>kernel_rfl);(case c=>(conv=>(lhs;cbv)));(case r=>(conv=>(lhs;cbv)));(case l=>exact Nat.le_of_ble_eq_true rfl))
 by_cases hl:l.length = s.R
 ·(repeat' ((try conv=>whnf);first|(with_reducible first|refine wT ?_|refine wF ?_|(refine wI (fun hq=>?_) (fun hq=>?_) <;> try simp only [zA,zE,zD,zJ,zB,zI,wK,wL] at hq)|refine wA ?_|refine wB ?_|refine wC ?_|refine wD ?_|refine wE ?_)|((with_reducible refine wN ?_ ?_);focus exact needA)|(with_reducible refine wG ?_)|(with_reducible refine wP ?_)))
  all_goals (try conv=>whnf)
  refine FLoop.of (ACalls.mono _) (X:=Nat) (fun r=>[(1,aInts z e m),(2,aRows z2 e2 rz re l),(3,.ptr 0 0),(7,AI r)]) (fun r=>[.box 3 (cSh f s)]) (fun r=>r ≤ s.R ∧ ∀ k,k < r → lineB s m l k = true) (fun r=>s.R - r) 0 ⟨⟨Nat.zero_le _,fun k hk=>absurd hk (Nat.not_lt_zero k)⟩,[0],Cut.A,allA⟩ ?_
  rintro r ⟨hr,hup⟩
  by_cases hlt:r < s.R
  ·have no:lineB s m l r = false → agreeB s m l = false:=fun hx=>by
    unfold agreeB;rw [rall_no hlt hx];simp
   have hs2:=hs.row r hlt
   have hmr:=hm.bd r hlt
   by_cases hlen:(l.getD r []).length = s.C
   ·(repeat' ((try conv=>whnf);first|(with_reducible first|refine wT ?_|refine wF ?_|(refine wI (fun hq=>?_) (fun hq=>?_) <;> try simp only [zA,zE,zD,zJ,zB,zI,wK,wL] at hq)|refine wA ?_|refine wB ?_|refine wC ?_|refine wD ?_|refine wE ?_)|((with_reducible refine wN ?_ ?_);focus exact needA)|(with_reducible refine wG ?_)|(refine FCall.pure (cC) ⟨Ln.sameB _ rfl,True.intro⟩ rfl ?_)|(with_reducible refine wP ?_)))
    all_goals (try conv=>whnf)
    refine FLoop.of (ACalls.mono _) (X:=Nat) (fun c=>[(1,aInts z e m),(2,aRows z2 e2 rz re l),(3,.ptr 0 0),(7,AI r),(8,AI c)]) (fun c=>[.box 3 (cSh f s)]) (fun c=>c ≤ s.C ∧ ∀ k,k < c → cellB s m l r k = true) (fun c=>s.C - c) 0 ⟨⟨Nat.zero_le _,fun k hk=>absurd hk (Nat.not_lt_zero k)⟩,[0],Cut.A,allA⟩ ?_
    rintro c ⟨hc,hupc⟩
    by_cases hltc:c < s.C
    ·have noc:cellB s m l r c = false → agreeB s m l = false:=fun hx=>no (by unfold lineB;rw [rall_no hltc hx,Bool.and_false])
     have cW:=within_ok ((l.getD r []).getD c 0) 0 40000
     have cH:=has_ok (m.getD r 0).toNat c (by omega)
     rw [Int.toNat_of_nonneg hmr.1] at cH
     cases w:inB ((l.getD r []).getD c 0) 0 40000
     ·rw [w] at cW
      rw [noc (by unfold cellB;rw [show inB (at2 l r c) 0 40000 = false from w,Bool.false_and])]
      (repeat' ((try conv=>whnf);first|(with_reducible first|refine wT ?_|refine wF ?_|(refine wI (fun hq=>?_) (fun hq=>?_) <;> try simp only [zA,zE,zD,zJ,zB,zI,wK,wL] at hq)|refine wA ?_|refine wB ?_|refine wC ?_|refine wD ?_|refine wE ?_)|((with_reducible refine wN ?_ ?_);focus exact needA)|(with_reducible refine wG ?_)|(refine FCall.pure (cW) ⟨Ln.sameB _ rfl,Ln.sameB _ rfl,Ln.sameB _ rfl,True.intro⟩ rfl ?_)|(with_reducible refine wP ?_)))
      all_goals (try conv=>whnf)
      all_goals ((refine ⟨⟨_,[],[],Cut.nil _,Ln.sameB _ rfl,?_,rfl⟩⟩);rfl)
     ·rw [w] at cW
      cases o:(m.getD r 0).toNat.testBit c
      ·rw [o] at cH
       by_cases he:(l.getD r []).getD c 0 = (s.amounts.getD r []).getD c 0
       ·(repeat' ((try conv=>whnf);first|(with_reducible first|refine wT ?_|refine wF ?_|(refine wI (fun hq=>?_) (fun hq=>?_) <;> try simp only [zA,zE,zD,zJ,zB,zI,wK,wL] at hq)|refine wA ?_|refine wB ?_|refine wC ?_|refine wD ?_|refine wE ?_)|((with_reducible refine wN ?_ ?_);focus exact needA)|(with_reducible refine wG ?_)|(refine FCall.pure (cW) ⟨Ln.sameB _ rfl,Ln.sameB _ rfl,Ln.sameB _ rfl,True.intro⟩ rfl ?_)|(refine FCall.pure (cH) ⟨Ln.sameB _ rfl,Ln.sameB _ rfl,True.intro⟩ rfl ?_)|(with_reducible refine wP ?_)))
        all_goals (try conv=>whnf)
        all_goals exact ⟨⟨c + 1,⟨hltc,below_step hupc (by unfold cellB;rw [show inB (at2 l r c) 0 40000 = true from w,show decide (at2 l r c = s.A r c) = true from decide_eq_true he,Bool.or_true];rfl)⟩,by omega,[0],Cut.A,allA⟩⟩
       ·rw [noc (by unfold cellB outS;rw [o,show decide (at2 l r c = s.A r c) = false from decide_eq_false he,Bool.false_or,Bool.and_false])]
        (repeat' ((try conv=>whnf);first|(with_reducible first|refine wT ?_|refine wF ?_|(refine wI (fun hq=>?_) (fun hq=>?_) <;> try simp only [zA,zE,zD,zJ,zB,zI,wK,wL] at hq)|refine wA ?_|refine wB ?_|refine wC ?_|refine wD ?_|refine wE ?_)|((with_reducible refine wN ?_ ?_);focus exact needA)|(with_reducible refine wG ?_)|(refine FCall.pure (cW) ⟨Ln.sameB _ rfl,Ln.sameB _ rfl,Ln.sameB _ rfl,True.intro⟩ rfl ?_)|(refine FCall.pure (cH) ⟨Ln.sameB _ rfl,Ln.sameB _ rfl,True.intro⟩ rfl ?_)|(with_reducible refine wP ?_)))
        all_goals (try conv=>whnf)
        all_goals ((refine ⟨⟨_,[],[],Cut.nil _,Ln.sameB _ rfl,?_,rfl⟩⟩);rfl)
      ·rw [o] at cH
       (repeat' ((try conv=>whnf);first|(with_reducible first|refine wT ?_|refine wF ?_|(refine wI (fun hq=>?_) (fun hq=>?_) <;> try simp only [zA,zE,zD,zJ,zB,zI,wK,wL] at hq)|refine wA ?_|refine wB ?_|refine wC ?_|refine wD ?_|refine wE ?_)|((with_reducible refine wN ?_ ?_);focus exact needA)|(with_reducible refine wG ?_)|(refine FCall.pure (cW) ⟨Ln.sameB _ rfl,Ln.sameB _ rfl,Ln.sameB _ rfl,True.intro⟩ rfl ?_)|(refine FCall.pure (cH) ⟨Ln.sameB _ rfl,Ln.sameB _ rfl,True.intro⟩ rfl ?_)|(with_reducible refine wP ?_)))
       all_goals (try conv=>whnf)
       all_goals exact ⟨⟨c + 1,⟨hltc,below_step hupc (by unfold cellB outS;rw [show inB (at2 l r c) 0 40000 = true from w,o,Bool.true_or];rfl)⟩,by omega,[0],Cut.A,allA⟩⟩
    ·obtain rfl:c = s.C:=by omega
     (repeat' ((try conv=>whnf);first|(with_reducible first|refine wT ?_|refine wF ?_|(refine wI (fun hq=>?_) (fun hq=>?_) <;> try simp only [zA,zE,zD,zJ,zB,zI,wK,wL] at hq)|refine wA ?_|refine wB ?_|refine wC ?_|refine wD ?_|refine wE ?_)|((with_reducible refine wN ?_ ?_);focus exact needA)|(with_reducible refine wG ?_)|(with_reducible refine wP ?_)))
     all_goals (try conv=>whnf)
     all_goals exact ⟨⟨r + 1,⟨hlt,below_step hup (by unfold lineB;rw [decide_eq_true hlen,rall_yes hupc];rfl)⟩,by omega,[0],Cut.A,allA⟩⟩
   ·rw [no (by unfold lineB;rw [decide_eq_false hlen,Bool.false_and])]
    (repeat' ((try conv=>whnf);first|(with_reducible first|refine wT ?_|refine wF ?_|(refine wI (fun hq=>?_) (fun hq=>?_) <;> try simp only [zA,zE,zD,zJ,zB,zI,wK,wL] at hq)|refine wA ?_|refine wB ?_|refine wC ?_|refine wD ?_|refine wE ?_)|((with_reducible refine wN ?_ ?_);focus exact needA)|(with_reducible refine wG ?_)|(refine FCall.pure (cC) ⟨Ln.sameB _ rfl,True.intro⟩ rfl ?_)|(with_reducible refine wP ?_)))
    all_goals (try conv=>whnf)
    all_goals ((refine ⟨⟨_,[],[],Cut.nil _,Ln.sameB _ rfl,?_,rfl⟩⟩);rfl)
  ·obtain rfl:r = s.R:=by omega
   have S1:=sums_ok f.za f.ea f.rz f.re s.amounts s.R s.C (shape_s hs)
   have S2:=sums_ok z2 e2 rz re l s.R s.C (shape_l hs hl hup)
   have e1:=same_ok s.R (rowSum s.amounts s.C) (rowSum l s.C) (by omega)
   have e2':=same_ok s.C (fun c=>colTo s.amounts s.R c) (fun c=>colTo l s.R c) (by omega)
   have hv:agreeB s m l = (eqTo (rowSum s.amounts s.C) (rowSum l s.C) s.R && eqTo (fun c=>colTo s.amounts s.R c) (fun c=>colTo l s.R c) s.C):=by
    unfold agreeB;rw [decide_eq_true hl,rall_yes hup];rfl
   rw [hv]
   cases q1:eqTo (rowSum s.amounts s.C) (rowSum l s.C) s.R
   ·rw [q1] at e1
    (repeat' ((try conv=>whnf);first|(with_reducible first|refine wT ?_|refine wF ?_|(refine wI (fun hq=>?_) (fun hq=>?_) <;> try simp only [zA,zE,zD,zJ,zB,zI,wK,wL] at hq)|refine wA ?_|refine wB ?_|refine wC ?_|refine wD ?_|refine wE ?_)|((with_reducible refine wN ?_ ?_);focus exact needA)|(with_reducible refine wG ?_)|(refine FCall.pure (S1) ⟨Ln.sameB _ rfl,True.intro⟩ rfl ?_)|(refine FCall.pure (S2) ⟨Ln.sameB _ rfl,True.intro⟩ rfl ?_)|(refine FCall.pure (e1) ⟨Ln.sameB _ rfl,Ln.sameB _ rfl,True.intro⟩ rfl ?_)|(with_reducible refine wP ?_)))
    all_goals (try conv=>whnf)
    all_goals ((refine ⟨⟨_,[],[],Cut.nil _,Ln.sameB _ rfl,?_,rfl⟩⟩);rfl)
   ·rw [q1] at e1
    (repeat' ((try conv=>whnf);first|(with_reducible first|refine wT ?_|refine wF ?_|(refine wI (fun hq=>?_) (fun hq=>?_) <;> try simp only [zA,zE,zD,zJ,zB,zI,wK,wL] at hq)|refine wA ?_|refine wB ?_|refine wC ?_|refine wD ?_|refine wE ?_)|((with_reducible refine wN ?_ ?_);focus exact needA)|(with_reducible refine wG ?_)|(refine FCall.pure (S1) ⟨Ln.sameB _ rfl,True.intro⟩ rfl ?_)|(refine FCall.pure (S2) ⟨Ln.sameB _ rfl,True.intro⟩ rfl ?_)|(refine FCall.pure (e1) ⟨Ln.sameB _ rfl,Ln.sameB _ rfl,True.intro⟩ rfl ?_)|(refine FCall.pure (e2') ⟨Ln.sameB _ rfl,Ln.sameB _ rfl,True.intro⟩ rfl ?_)|(with_reducible refine wP ?_)))
    all_goals (try conv=>whnf)
    all_goals ((refine ⟨⟨_,[],[],Cut.nil _,Ln.sameB _ rfl,?_,rfl⟩⟩);rfl)
 ·rw [show agreeB s m l = false from by unfold agreeB;rw [decide_eq_false hl];rfl]
  (repeat' ((try conv=>whnf);first|(with_reducible first|refine wT ?_|refine wF ?_|(refine wI (fun hq=>?_) (fun hq=>?_) <;> try simp only [zA,zE,zD,zJ,zB,zI,wK,wL] at hq)|refine wA ?_|refine wB ?_|refine wC ?_|refine wD ?_|refine wE ?_)|((with_reducible refine wN ?_ ?_);focus exact needA)|(with_reducible refine wG ?_)|(with_reducible refine wP ?_)))
  all_goals (try conv=>whnf)
  all_goals ((refine ⟨⟨_,[],[],Cut.nil _,Ln.sameB _ rfl,?_,rfl⟩⟩);rfl)
end Go.Proofs.Ytlffjnmbpoemnaa

namespace Go.Proofs.Ytlffjnmbpoemnaa
open Go.RowKit

abbrev cpRow (l:List Int):AV:=aInts false (decide (l.length = 0)) l
theorem cpR0 {l:List Int} {c:Nat → Nat → AV} (h:l.length = 0):LeV (.sl false true 0 1 c) (cpRow l):=by
 show LeV _ (.sl false (decide (l.length = 0)) l.length 1 _)
 rw [h];exact LeV.slz (fun _=>rfl)
theorem cpR1 {l:List Int} {R:Nat} {c:Nat → Nat → AV} (h:l.length = R + 1) (hc:∀ k,k < R + 1 → c k 0 = AI (l.getD k 0)):LeV (.sl false false (0 + (R + 1)) 1 c) (cpRow l):=by
 show LeV _ (.sl false (decide (l.length = 0)) l.length 1 _)
 rw [h,Nat.zero_add]
 exact LeV.sl (fun e=>by cases e) (fun k hk o ho=>by obtain rfl:o = 0:=Nat.lt_one_iff.1 ho;exact LeV.of (hc k hk).symm)
theorem cpApp {l2:List (List Int)} {i:Nat} {c d:Nat → Nat → AV} (hc:∀ k,k < i → c k 0 = cpRow (l2.getD k [])) (hx:LeV (d 0 0) (cpRow (l2.getD i []))) {k:Nat} (hk:k < i + 1) {o:Nat} (ho:o < 1):LeV (appc i c d k o) (cpRow (l2.getD k [])):=by
 obtain rfl:o = 0:=Nat.lt_one_iff.1 ho
 by_cases h:k < i
 ·rw [appc,if_pos h,hc k h];exact LeV.refl _
 ·obtain rfl:k = i:=by omega
  rw [appc,if_neg h,Nat.sub_self];exact hx
abbrev eRow (l:List (List Int)) (k:Nat):Bool:=decide ((l.getD k []).length = 0)
abbrev rowL (l:List (List Int)) (n:Nat):AB:=.row n 1 (fun k _=>cpRow (l.getD k []))
def oC : Nat → AV
 | 0=>nilS
 | i + 1=>.own 0 (i + 1)
def hC (l:List (List Int)):Nat → List AB
 | 0=>[]
 | i + 1=>[rowL l (i + 1)]
set_option maxHeartbeats 8000000
set_option maxRecDepth 100000
theorem copyRows_ok (z e:Bool) (rz re:Nat → Bool) (l:List (List Int)) (h0:0 < l.length ∧ l.length ≤ 5864062014805) (hl:∀ k,k < l.length → (l.getD k []).length ≤ 17592186044416):ACall Try.prog 40 [aRows z e rz re l] [] (fun v h=>v = aRows false false (fun _=>false) (eRow l) l ∧ h = []):=by
 (refine fcall_of mixed Try.func40 rfl (by decide) (hs:={}) ?k (ac:=?ac) ?c (rs:=?rs) ?r ?l ?H;(case k=>kernel_rfl);(case c=>(conv=>(lhs;cbv)));(case r=>(conv=>(lhs;cbv)));(case l=>exact Nat.le_of_ble_eq_true rfl))
 (repeat' ((try conv=>whnf);first|(with_reducible first|refine wT ?_|refine wF ?_|(refine wI (fun hq=>?_) (fun hq=>?_) <;> try simp only [zA,zE,zD,zJ,zB,zI,wK,wL] at hq)|refine wA ?_|refine wB ?_|refine wC ?_|refine wD ?_|refine wE ?_)|((with_reducible refine wN ?_ ?_);focus exact needA)|(with_reducible refine wG ?_)|(with_reducible refine wP ?_)))
 all_goals (try conv=>whnf)
 refine FLoop.of (ACalls.mono _) (X:=Nat) (fun i=>[(0,aRows z e rz re l),(3,oC i),(4,AI i)]) (fun i=>hC l i) (fun i=>i ≤ l.length) (fun i=>l.length - i) 0 ⟨Nat.zero_le _,[],Cut.A,allA⟩ ?_
 intro i hi
 by_cases hlt:i < l.length
 ·have hli:=hl i hlt
  rcases i with _|i
  ·(repeat' ((try conv=>whnf);first|(with_reducible first|refine wT ?_|refine wF ?_|(refine wI (fun hq=>?_) (fun hq=>?_) <;> try simp only [zA,zE,zD,zJ,zB,zI,wK,wL] at hq)|refine wA ?_|refine wB ?_|refine wC ?_|refine wD ?_|refine wE ?_)|((with_reducible refine wN ?_ ?_);focus exact needA)|(with_reducible refine wG ?_)|(with_reducible refine wP ?_)))
   (try conv=>whnf)
   rcases hR:(l.getD 0 []).length with _|R
   all_goals
    (repeat' ((try conv=>whnf);first|(with_reducible first|refine wT ?_|refine wF ?_|(refine wI (fun hq=>?_) (fun hq=>?_) <;> try simp only [zA,zE,zD,zJ,zB,zI,wK,wL] at hq)|refine wA ?_|refine wB ?_|refine wC ?_|refine wD ?_|refine wE ?_)|((with_reducible refine wN ?_ ?_);focus exact needA)|(with_reducible refine wG ?_)|(with_reducible refine wP ?_)))
    (try conv=>whnf)
   ·(exact ⟨⟨(0 + 1),hlt,by show _ < _;omega,[0],(by (refine wO rfl rfl rfl ?_;repeat (first|exact wX|(refine wV rfl (by first|exact LnB.rowS|exact LnB.rowL (Nat.le_refl _) (fun k hk o ho=>cpApp (fun k hk=>absurd hk (Nat.not_lt_zero k)) (cpR0 hR) hk ho)|exact LnB.A) ?_)|(refine CutL.gone (Nat.lt_of_lt_of_le (Nat.lt_succ_self _) (Nat.le_of_ble_eq_true rfl)) ?_)))),allA⟩⟩)
   ·(exact ⟨⟨(0 + 1),hlt,by show _ < _;omega,[1],(by (refine wO rfl rfl rfl ?_;repeat (first|exact wX|(refine wV rfl (by first|exact LnB.rowS|exact LnB.rowL (Nat.le_refl _) (fun k hk o ho=>cpApp (fun k hk=>absurd hk (Nat.not_lt_zero k)) (cpR1 hR (fun k hk=>by simp [appc])) hk ho)|exact LnB.A) ?_)|(refine CutL.gone (Nat.lt_of_lt_of_le (Nat.lt_succ_self _) (Nat.le_of_ble_eq_true rfl)) ?_)))),allA⟩⟩)
  ·(repeat' ((try conv=>whnf);first|(with_reducible first|refine wT ?_|refine wF ?_|(refine wI (fun hq=>?_) (fun hq=>?_) <;> try simp only [zA,zE,zD,zJ,zB,zI,wK,wL] at hq)|refine wA ?_|refine wB ?_|refine wC ?_|refine wD ?_|refine wE ?_)|((with_reducible refine wN ?_ ?_);focus exact needA)|(with_reducible refine wG ?_)|(with_reducible refine wP ?_)))
   (try conv=>whnf)
   rcases hR:(l.getD (i + 1) []).length with _|R
   all_goals
    (repeat' ((try conv=>whnf);first|(with_reducible first|refine wT ?_|refine wF ?_|(refine wI (fun hq=>?_) (fun hq=>?_) <;> try simp only [zA,zE,zD,zJ,zB,zI,wK,wL] at hq)|refine wA ?_|refine wB ?_|refine wC ?_|refine wD ?_|refine wE ?_)|((with_reducible refine wN ?_ ?_);focus exact needA)|(with_reducible refine wG ?_)|(with_reducible refine wP ?_)))
    (try conv=>whnf)
   ·(exact ⟨⟨((i + 1) + 1),hlt,by show _ < _;omega,[1],(by (refine wO rfl rfl rfl ?_;repeat (first|exact wX|(refine wV rfl (by first|exact LnB.rowS|exact LnB.rowL (Nat.le_refl _) (fun k hk o ho=>cpApp (fun _ _=>rfl) (cpR0 hR) hk ho)|exact LnB.A) ?_)|(refine CutL.gone (Nat.lt_of_lt_of_le (Nat.lt_succ_self _) (Nat.le_of_ble_eq_true rfl)) ?_)))),allA⟩⟩)
   ·(exact ⟨⟨((i + 1) + 1),hlt,by show _ < _;omega,[2],(by (refine wO rfl rfl rfl ?_;repeat (first|exact wX|(refine wV rfl (by first|exact LnB.rowS|exact LnB.rowL (Nat.le_refl _) (fun k hk o ho=>cpApp (fun _ _=>rfl) (cpR1 hR (fun k hk=>by simp [appc])) hk ho)|exact LnB.A) ?_)|(refine CutL.gone (Nat.lt_of_lt_of_le (Nat.lt_succ_self _) (Nat.le_of_ble_eq_true rfl)) ?_)))),allA⟩⟩)
 ·obtain rfl:i = l.length:=by omega
  obtain ⟨n,hn⟩:∃ n,l.length = n + 1:=⟨l.length - 1,by omega⟩
  rw [hn]
  (repeat' ((try conv=>whnf);first|(with_reducible first|refine wT ?_|refine wF ?_|(refine wI (fun hq=>?_) (fun hq=>?_) <;> try simp only [zA,zE,zD,zJ,zB,zI,wK,wL] at hq)|refine wA ?_|refine wB ?_|refine wC ?_|refine wD ?_|refine wE ?_)|((with_reducible refine wN ?_ ?_);focus exact needA)|(with_reducible refine wG ?_)|(with_reducible refine wP ?_)))
  all_goals (try conv=>whnf)
  exact ⟨⟨aRows false false (fun _=>false) (eRow l) l,[],[],Cut.nil _,Ln.pubE (goneB rfl) rfl (Nat.le_refl _) hn.symm (fun _ _ _ _=>rfl),rfl,rfl⟩⟩
end Go.Proofs.Ytlffjnmbpoemnaa

namespace Go.Proofs.Ytlffjnmbpoemnaa
open Go.RowKit

set_option maxHeartbeats 8000000
set_option maxRecDepth 100000
theorem copyRows_0 (z e:Bool) (rz re:Nat → Bool) (l:List (List Int)) (h0:l.length = 0):ACall Try.prog 40 [aRows z e rz re l] [] (fun v h=>v = nilS ∧ h = []):=by
 (refine fcall_of mixed Try.func40 rfl (by decide) (hs:={}) ?k (ac:=?ac) ?c (rs:=?rs) ?r ?l ?H;(case k=>kernel_rfl);(case c=>(conv=>(lhs;cbv)));(case r=>(conv=>(lhs;cbv)));(case l=>exact Nat.le_of_ble_eq_true rfl))
 (repeat' ((try conv=>whnf);first|(with_reducible first|refine wT ?_|refine wF ?_|(refine wI (fun hq=>?_) (fun hq=>?_) <;> try simp only [zA,zE,zD,zJ,zB,zI,wK,wL] at hq)|refine wA ?_|refine wB ?_|refine wC ?_|refine wD ?_|refine wE ?_)|((with_reducible refine wN ?_ ?_);focus exact needA)|(with_reducible refine wG ?_)|(with_reducible refine wP ?_)))
 all_goals (try conv=>whnf)
 refine FLoop.of (ACalls.mono _) (X:=Unit) (fun _=>[(0,aRows z e rz re l),(3,nilS),(4,AI 0)]) (fun _=>[]) (fun _=>True) (fun _=>0) () ⟨True.intro,[],Cut.A,allA⟩ ?_
 rintro _ _
 (repeat' ((try conv=>whnf);first|(with_reducible first|refine wT ?_|refine wF ?_|(refine wI (fun hq=>?_) (fun hq=>?_) <;> try simp only [zA,zE,zD,zJ,zB,zI,wK,wL] at hq)|refine wA ?_|refine wB ?_|refine wC ?_|refine wD ?_|refine wE ?_)|((with_reducible refine wN ?_ ?_);focus exact needA)|(with_reducible refine wG ?_)|(with_reducible refine wP ?_)))
 all_goals (try conv=>whnf)
 (refine ⟨⟨_,[],[],Cut.nil _,Ln.sameB _ rfl,?_,rfl⟩⟩)
 rfl
abbrev aRowsC (l:List (List Int)):AV:=aRows (decide (l.length = 0)) (decide (l.length = 0)) (fun _=>false) (eRow l) l
theorem copyRows_any (z e:Bool) (rz re:Nat → Bool) (l:List (List Int)) (h1:l.length ≤ 5864062014805) (hl:∀ k,k < l.length → (l.getD k []).length ≤ 17592186044416):ACall Try.prog 40 [aRows z e rz re l] [] (fun v h=>v = aRowsC l ∧ h = []):=by
 rcases Nat.eq_zero_or_pos l.length with h0|h0
 ·refine ACall.wk (ACall.mono' _ ?_ (copyRows_0 z e rz re l h0))
  rintro _ _ ⟨rfl,rfl⟩
  refine ⟨aRowsC l,[],[],Cut.nil _,?_,rfl,rfl⟩
  have e1:l = []:=List.eq_nil_of_length_eq_zero h0
  subst e1
  exact Ln.slz _ _ _ _ _ _ _ (fun h=>h)
 ·have:=copyRows_ok z e rz re l ⟨h0,h1⟩ hl
  have e1:aRowsC l = aRows false false (fun _=>false) (eRow l) l:=by unfold aRowsC;rw [decide_eq_false (show ¬ l.length = 0 by omega)]
  rw [e1]
  exact this
def flS (s:Sheet):ShF:=⟨decide (s.amounts.length = 0),decide (s.amounts.length = 0),fun _=>false,eRow s.amounts,false,decide (s.secret.length = 0)⟩
theorem copy_ok (f:ShF) (s:Sheet) (hn:Near s):ACall Try.prog 15 [aSh f s] [] (fun v h=>v = aSh (flS s) s ∧ h = []):=by
 have r20:=hn.r
 have hR:s.R = s.amounts.length:=rfl
 have m20:=hn.m
 have cK:=copyRows_any f.za f.ea f.rz f.re s.amounts (by omega) (fun k _=>by have:=hn.c k;omega)
 (refine fcall_of mixed Try.func15 rfl (by decide) (hs:={ ord:=[(1,[(0,[]),(1,[]),(3,[]),(4,[]),(5,[]),(7,[]),(8,[]),(2,[5,8]),(6,[8]),(9,[]),(10,[])])] }) ?k (ac:=?ac) ?c (rs:=?rs) ?r ?l ?H;(case k=>kernel_rfl);(case c=>(conv=>(lhs;cbv)));(case r=>(conv=>(lhs;cbv)));(case l=>exact Nat.le_of_ble_eq_true rfl))
 rcases hA:s.secret.length with _|n
 ·(repeat' ((try conv=>whnf);first|(with_reducible first|refine wT ?_|refine wF ?_|(refine wI (fun hq=>?_) (fun hq=>?_) <;> try simp only [zA,zE,zD,zJ,zB,zI,wK,wL] at hq)|refine wA ?_|refine wB ?_|refine wC ?_|refine wD ?_|refine wE ?_)|((with_reducible refine wN ?_ ?_);focus exact needA)|(with_reducible refine wG ?_)|(refine FCall.pure (cK) ⟨Ln.sameB _ rfl,True.intro⟩ rfl ?_)|(with_reducible refine wP ?_)))
  all_goals (try conv=>whnf)
  rw [hA]
  (repeat' ((try conv=>whnf);first|(with_reducible first|refine wT ?_|refine wF ?_|(refine wI (fun hq=>?_) (fun hq=>?_) <;> try simp only [zA,zE,zD,zJ,zB,zI,wK,wL] at hq)|refine wA ?_|refine wB ?_|refine wC ?_|refine wD ?_|refine wE ?_)|((with_reducible refine wN ?_ ?_);focus exact needA)|(with_reducible refine wG ?_)|(with_reducible refine wP ?_)))
  all_goals (try conv=>whnf)
  exact ⟨⟨aSh (flS s) s,[],[],Cut.nil _,Ln.aggN ⟨⟨⟨True.intro,Ln.sameB _ rfl⟩,by show Ln _ _ _ _ (.sl false (decide (s.secret.length = 0)) s.secret.length 1 _);rw [hA];exact Ln.sl _ _ _ _ _ _ _ (fun h=>h) (fun k hk=>absurd hk (Nat.not_lt_zero k))⟩,Ln.A⟩,rfl,rfl⟩⟩
 ·(repeat' ((try conv=>whnf);first|(with_reducible first|refine wT ?_|refine wF ?_|(refine wI (fun hq=>?_) (fun hq=>?_) <;> try simp only [zA,zE,zD,zJ,zB,zI,wK,wL] at hq)|refine wA ?_|refine wB ?_|refine wC ?_|refine wD ?_|refine wE ?_)|((with_reducible refine wN ?_ ?_);focus exact needA)|(with_reducible refine wG ?_)|(refine FCall.pure (cK) ⟨Ln.sameB _ rfl,True.intro⟩ rfl ?_)|(with_reducible refine wP ?_)))
  all_goals (try conv=>whnf)
  rw [hA]
  (repeat' ((try conv=>whnf);first|(with_reducible first|refine wT ?_|refine wF ?_|(refine wI (fun hq=>?_) (fun hq=>?_) <;> try simp only [zA,zE,zD,zJ,zB,zI,wK,wL] at hq)|refine wA ?_|refine wB ?_|refine wC ?_|refine wD ?_|refine wE ?_)|((with_reducible refine wN ?_ ?_);focus exact needA)|(with_reducible refine wG ?_)|(with_reducible refine wP ?_)))
  all_goals (try conv=>whnf)
  exact ⟨⟨aSh (flS s) s,[],[],Cut.nil _,Ln.aggN ⟨⟨⟨True.intro,Ln.sameB _ rfl⟩,by show Ln _ _ _ _ (.sl false (decide (s.secret.length = 0)) s.secret.length 1 _);rw [decide_eq_false (show ¬ s.secret.length = 0 by omega)];exact Ln.pubE (goneB rfl) rfl (Nat.le_refl _) (by omega) (fun k hk o ho=>by simp [appc])⟩,Ln.A⟩,rfl,rfl⟩⟩
end Go.Proofs.Ytlffjnmbpoemnaa

namespace Go.Proofs.Ytlffjnmbpoemnaa

theorem sumTo_add (f g:Nat → Int):∀ k,sumTo (fun i=>f i + g i) k = sumTo f k + sumTo g k
 | 0=>rfl
 | k + 1=>by simp only [sumTo];rw [sumTo_add f g k];omega
theorem sumTo_zero : ∀ k,sumTo (fun _=>0) k = 0
 | 0=>rfl
 | k + 1=>by simp only [sumTo];rw [sumTo_zero k];rfl
theorem sumTo_mul (a:Int) (f:Nat → Int):∀ k,sumTo (fun i=>a * f i) k = a * sumTo f k
 | 0=>by simp [sumTo]
 | k + 1=>by simp only [sumTo];rw [sumTo_mul a f k,Int.mul_add]
theorem sumTo_nn {f:Nat → Int}:∀ {k:Nat},(∀ i,i < k → 0 ≤ f i) → 0 ≤ sumTo f k
 | 0,_=>Int.le_refl 0
 | k + 1,h=>by
  have:=sumTo_nn (k:=k) fun i hi=>h i (by omega)
  have:=h k (by omega)
  simp only [sumTo];omega
theorem sumTo_le {f g:Nat → Int}:∀ {k:Nat},(∀ i,i < k → f i ≤ g i) → sumTo f k ≤ sumTo g k
 | 0,_=>Int.le_refl 0
 | k + 1,h=>by
  have:=sumTo_le (k:=k) fun i hi=>h i (by omega)
  have:=h k (by omega)
  simp only [sumTo];omega
theorem sumTo_one {f:Nat → Int} {j:Nat}:∀ {k:Nat},j < k → (∀ i,i < k → i ≠ j → 0 ≤ f i) → f j ≤ sumTo f k
 | 0,h,_=>absurd h (Nat.not_lt_zero _)
 | k + 1,h,hf=>by
  simp only [sumTo]
  by_cases e:j = k
  ·subst e
   have:=sumTo_nn (f:=f) (k:=j) fun i hi=>hf i (by omega) (by omega)
   omega
  ·have:=sumTo_one (f:=f) (j:=j) (k:=k) (by omega) fun i hi hn=>hf i (by omega) hn
   have:=hf k (by omega) (fun h=>e h.symm)
   omega
theorem sumTo_hit {f:Nat → Int} {j:Nat}:∀ {k:Nat},j < k → (∀ i,i < k → i ≠ j → f i = 0) → sumTo f k = f j
 | 0,h,_=>absurd h (Nat.not_lt_zero _)
 | k + 1,h,hf=>by
  simp only [sumTo]
  by_cases e:j = k
  ·subst e
   rw [sumTo_congr (g:=fun _=>0) fun i hi=>hf i (by omega) (by omega),sumTo_zero];omega
  ·rw [sumTo_hit (f:=f) (j:=j) (k:=k) (by omega) fun i hi hn=>hf i (by omega) hn,hf k (by omega) (fun h=>e h.symm)];omega
theorem sumTo_swap (f:Nat → Nat → Int) (C:Nat):∀ R,sumTo (fun r=>sumTo (f r) C) R = sumTo (fun c=>sumTo (fun r=>f r c) R) C
 | 0=>by simp only [sumTo];exact (sumTo_zero C).symm
 | R + 1=>by
  simp only [sumTo]
  rw [sumTo_swap f C R,← sumTo_add]
/-- The sum over a grid. -/
def S2 (R C:Nat) (f:Nat → Nat → Int):Int:=sumTo (fun r=>sumTo (f r) C) R
theorem S2_add (R C:Nat) (f g:Nat → Nat → Int):S2 R C (fun r c=>f r c + g r c) = S2 R C f + S2 R C g:=by
 unfold S2;rw [← sumTo_add];exact sumTo_congr fun r _=>sumTo_add _ _ _
theorem S2_congr {R C:Nat} {f g:Nat → Nat → Int} (h:∀ r c,r < R → c < C → f r c = g r c):S2 R C f = S2 R C g:=sumTo_congr fun r hr=>sumTo_congr fun c hc=>h r c hr hc
theorem S2_nn {R C:Nat} {f:Nat → Nat → Int} (h:∀ r c,r < R → c < C → 0 ≤ f r c):0 ≤ S2 R C f:=sumTo_nn fun r hr=>sumTo_nn fun c hc=>h r c hr hc
theorem S2_one {R C r0 c0:Nat} {f:Nat → Nat → Int} (hr:r0 < R) (hc:c0 < C) (h:∀ r c,r < R → c < C → ¬ (r = r0 ∧ c = c0) → 0 ≤ f r c):f r0 c0 ≤ S2 R C f:=by
 have h1:f r0 c0 ≤ sumTo (f r0) C:=sumTo_one hc fun c hc hn=>h r0 c hr hc (fun e=>hn e.2)
 have h2:sumTo (f r0) C ≤ S2 R C f:=sumTo_one (f:=fun r=>sumTo (f r) C) hr fun r hr hn=>sumTo_nn fun c hc=>h r c hr hc (fun e=>hn e.1)
 omega
theorem S2_hit {R C r0 c0:Nat} {f:Nat → Nat → Int} (hr:r0 < R) (hc:c0 < C) (h:∀ r c,r < R → c < C → ¬ (r = r0 ∧ c = c0) → f r c = 0):S2 R C f = f r0 c0:=by
 unfold S2
 rw [sumTo_hit hr fun r hr hn=>by rw [sumTo_congr (g:=fun _=>0) fun c hc=>h r c hr hc (fun e=>hn e.1)];exact sumTo_zero C]
 exact sumTo_hit hc fun c hc hn=>h r0 c hr hc (fun e=>hn e.2)
theorem S2_zero {R C:Nat} {f:Nat → Nat → Int} (h:∀ r c,r < R → c < C → f r c = 0):S2 R C f = 0:=by
 rw [S2_congr h];unfold S2;rw [sumTo_congr (g:=fun _=>0) fun r _=>sumTo_zero C];exact sumTo_zero R
/-- What crosses a cut one way is what crosses it the other way. -/
theorem cut_eq {R C:Nat} {d:Nat → Nat → Int} (hr:∀ r,r < R → sumTo (d r) C = 0) (hc:∀ c,c < C → sumTo (fun r=>d r c) R = 0) (p q:Nat → Bool) :
  S2 R C (fun r c=>if p r = true ∧ q c = false then d r c else 0) = S2 R C (fun r c=>if p r = false ∧ q c = true then d r c else 0):=by
 have a:S2 R C (fun r c=>if p r = true ∧ q c = false then d r c else 0) + S2 R C (fun r c=>if p r = true ∧ q c = true then d r c else 0) = 0:=by
  rw [← S2_add]
  unfold S2
  rw [sumTo_congr (g:=fun _=>0),sumTo_zero]
  intro r hr'
  cases hp:p r
  ·rw [sumTo_congr (g:=fun _=>0) fun c _=>by simp [hp]];exact sumTo_zero C
  ·rw [sumTo_congr (g:=d r) fun c _=>by cases h:q c <;> simp [hp,h]];exact hr r hr'
 have b:S2 R C (fun r c=>if p r = false ∧ q c = true then d r c else 0) + S2 R C (fun r c=>if p r = true ∧ q c = true then d r c else 0) = 0:=by
  rw [← S2_add]
  unfold S2
  rw [sumTo_swap,sumTo_congr (g:=fun _=>0),sumTo_zero]
  intro c hc'
  cases hq:q c
  ·rw [sumTo_congr (g:=fun _=>0) fun r _=>by simp [hq]];exact sumTo_zero R
  ·rw [sumTo_congr (g:=fun r=>d r c) fun r _=>by cases h:p r <;> simp [hq,h]];exact hc c hc'
 omega
/-- Amounts that agree with a sheet and a mask. -/
structure Ag (s:Sheet) (m:List Int) (x:Nat → Nat → Int):Prop where
 nn:∀ r c,r < s.R → c < s.C → 0 ≤ x r c
 un:∀ r c,r < s.R → c < s.C → outS m r c = false → x r c = s.A r c
 row:∀ r,r < s.R → sumTo (x r) s.C = sumTo (s.A r) s.C
 col:∀ c,c < s.C → sumTo (fun r=>x r c) s.R = sumTo (fun r=>s.A r c) s.R
theorem Ag.self {s:Sheet} (hs:SheetOk s) (m:List Int):Ag s m s.A:=⟨fun r c hr hc=>(hs.amt r c hr hc).1,fun _ _ _ _ _=>rfl,fun _ _=>rfl,fun _ _=>rfl⟩
theorem Ag.le {s:Sheet} (hs:SheetOk s) {m:List Int} {x:Nat → Nat → Int} (h:Ag s m x) {r c:Nat} (hr:r < s.R) (hc:c < s.C):x r c ≤ 40000:=by
 have h1:=sumTo_one (f:=x r) hc fun i hi _=>h.nn r i hr hi
 rw [h.row r hr] at h1
 have h2:=sumTo_bd (f:=s.A r) (B:=10000) (by decide) (k:=s.C) fun i hi=>by have:=hs.amt r i hr hi;omega
 have:=hs.c4
 omega
theorem Ag.dr {s:Sheet} {m:List Int} {x y:Nat → Nat → Int} (hx:Ag s m x) (hy:Ag s m y):∀ r,r < s.R → sumTo (fun c=>y r c + -1 * x r c) s.C = 0:=fun r hr=>by
 rw [sumTo_add,sumTo_mul,hx.row r hr,hy.row r hr];omega
theorem Ag.dc {s:Sheet} {m:List Int} {x y:Nat → Nat → Int} (hx:Ag s m x) (hy:Ag s m y):∀ c,c < s.C → sumTo (fun r=>y r c + -1 * x r c) s.R = 0:=fun c hc=>by
 rw [sumTo_add (fun r=>y r c) (fun r=>-1 * x r c),sumTo_mul,hx.col c hc,hy.col c hc];omega
/-- A cut that shows that an amount can be no greater: the place is among those from outside of the rows into the columns. -/
theorem cut_hi1 {s:Sheet} {m:List Int} {x:Nat → Nat → Int} {r0 c0:Nat} (hr0:r0 < s.R) (hc0:c0 < s.C) (p q:Nat → Bool) (hp:p r0 = false) (hq:q c0 = true)
  (h1:∀ r c,r < s.R → c < s.C → p r = true → q c = false → outS m r c = false) (h2:∀ r c,r < s.R → c < s.C → p r = false → q c = true → ¬ (r = r0 ∧ c = c0) → outS m r c = false ∨ x r c = 0)
  (hx:Ag s m x) {y:Nat → Nat → Int} (hy:Ag s m y):y r0 c0 ≤ x r0 c0:=by
 have e:=cut_eq (hx.dr hy) (hx.dc hy) p q
 rw [S2_zero (f:=fun r c=>if p r = true ∧ q c = false then _ else _) (fun r c hr hc=>by
  split
  ·rename_i h;have h3:=h1 r c hr hc h.1 h.2;rw [hx.un r c hr hc h3,hy.un r c hr hc h3];omega
  ·rfl)] at e
 have k:=S2_one (R:=s.R) (C:=s.C) (f:=fun r c=>if p r = false ∧ q c = true then y r c + -1 * x r c else 0) hr0 hc0 (fun r c hr hc hn=>by
  split
  ·rename_i h
   rcases h2 r c hr hc h.1 h.2 hn with h3|h3
   ·rw [hx.un r c hr hc h3,hy.un r c hr hc h3];omega
   ·have:=hy.nn r c hr hc;omega
  ·omega)
 simp only [hp,hq,and_self,if_true] at k
 omega
/-- The same from the rows into outside of the columns. -/
theorem cut_hi2 {s:Sheet} {m:List Int} {x:Nat → Nat → Int} {r0 c0:Nat} (hr0:r0 < s.R) (hc0:c0 < s.C) (p q:Nat → Bool) (hp:p r0 = true) (hq:q c0 = false)
  (h1:∀ r c,r < s.R → c < s.C → p r = true → q c = false → ¬ (r = r0 ∧ c = c0) → outS m r c = false ∨ x r c = 0) (h2:∀ r c,r < s.R → c < s.C → p r = false → q c = true → outS m r c = false)
  (hx:Ag s m x) {y:Nat → Nat → Int} (hy:Ag s m y):y r0 c0 ≤ x r0 c0:=by
 have e:=cut_eq (hx.dr hy) (hx.dc hy) p q
 rw [S2_zero (f:=fun r c=>if p r = false ∧ q c = true then _ else _) (fun r c hr hc=>by
  split
  ·rename_i h;have h3:=h2 r c hr hc h.1 h.2;rw [hx.un r c hr hc h3,hy.un r c hr hc h3];omega
  ·rfl)] at e
 have k:=S2_one (R:=s.R) (C:=s.C) (f:=fun r c=>if p r = true ∧ q c = false then y r c + -1 * x r c else 0) hr0 hc0 (fun r c hr hc hn=>by
  split
  ·rename_i h
   rcases h1 r c hr hc h.1 h.2 hn with h3|h3
   ·rw [hx.un r c hr hc h3,hy.un r c hr hc h3];omega
   ·have:=hy.nn r c hr hc;omega
  ·omega)
 simp only [hp,hq,and_self,if_true] at k
 omega
/-- A cut that shows that an amount can be no less. -/
theorem cut_lo {s:Sheet} {m:List Int} {x:Nat → Nat → Int} {r0 c0:Nat} (hr0:r0 < s.R) (hc0:c0 < s.C) (p q:Nat → Bool) (hp:p r0 = true) (hq:q c0 = false)
  (h1:∀ r c,r < s.R → c < s.C → p r = true → q c = false → ¬ (r = r0 ∧ c = c0) → outS m r c = false) (h2:∀ r c,r < s.R → c < s.C → p r = false → q c = true → outS m r c = false ∨ x r c = 0)
  (hx:Ag s m x) {y:Nat → Nat → Int} (hy:Ag s m y):x r0 c0 ≤ y r0 c0:=by
 have e:=cut_eq (hx.dr hy) (hx.dc hy) p q
 rw [S2_hit (f:=fun r c=>if p r = true ∧ q c = false then _ else _) hr0 hc0 (fun r c hr hc hn=>by
  split
  ·rename_i h;have h3:=h1 r c hr hc h.1 h.2 hn;rw [hx.un r c hr hc h3,hy.un r c hr hc h3];omega
  ·rfl)] at e
 have k:=S2_nn (R:=s.R) (C:=s.C) (f:=fun r c=>if p r = false ∧ q c = true then y r c + -1 * x r c else 0) (fun r c hr hc=>by
  split
  ·rename_i h
   rcases h2 r c hr hc h.1 h.2 with h3|h3
   ·rw [hx.un r c hr hc h3,hy.un r c hr hc h3];omega
   ·have:=hy.nn r c hr hc;omega
  ·omega)
 simp only [hp,hq,and_self,if_true] at e
 omega
/-- The least and the greatest number that an amount can be. -/
def IsLo (s:Sheet) (m:List Int) (r c:Nat) (v:Int):Prop:=(∃ x,Ag s m x ∧ x r c = v) ∧ ∀ x,Ag s m x → v ≤ x r c
def IsHi (s:Sheet) (m:List Int) (r c:Nat) (v:Int):Prop:=(∃ x,Ag s m x ∧ x r c = v) ∧ ∀ x,Ag s m x → x r c ≤ v
theorem lo_ex {s:Sheet} (hs:SheetOk s) (m:List Int) {r c:Nat} (hr:r < s.R) (hc:c < s.C):∃ v,IsLo s m r c v:=by
 have key:∀ (n:Nat) (x:Nat → Nat → Int),Ag s m x → x r c ≤ n → ∃ v,IsLo s m r c v:=by
  intro n
  induction n with
  | zero=>exact fun x hx hn=>⟨x r c,⟨x,hx,rfl⟩,fun y hy=>by have:=hy.nn r c hr hc;omega⟩
  | succ n ih =>
   intro x hx hn
   by_cases h:∃ y,Ag s m y ∧ y r c ≤ n
   ·obtain ⟨y,hy,hyn⟩:=h;exact ih y hy hyn
   ·refine ⟨x r c,⟨x,hx,rfl⟩,fun y hy=>?_⟩
    have:¬ y r c ≤ n:=fun e=>h ⟨y,hy,e⟩
    omega
 have h0:=Ag.self hs m
 exact key (s.A r c).toNat s.A h0 (by have:=h0.nn r c hr hc;omega)
theorem hi_ex {s:Sheet} (hs:SheetOk s) (m:List Int) {r c:Nat} (hr:r < s.R) (hc:c < s.C):∃ v,IsHi s m r c v:=by
 have key:∀ (n:Nat) (x:Nat → Nat → Int),Ag s m x → 40000 - x r c ≤ n → ∃ v,IsHi s m r c v:=by
  intro n
  induction n with
  | zero=>exact fun x hx hn=>⟨x r c,⟨x,hx,rfl⟩,fun y hy=>by have:=hy.le hs hr hc;omega⟩
  | succ n ih =>
   intro x hx hn
   by_cases h:∃ y,Ag s m y ∧ 40000 - y r c ≤ n
   ·obtain ⟨y,hy,hyn⟩:=h;exact ih y hy hyn
   ·refine ⟨x r c,⟨x,hx,rfl⟩,fun y hy=>?_⟩
    have:¬ 40000 - y r c ≤ n:=fun e=>h ⟨y,hy,e⟩
    omega
 have h0:=Ag.self hs m
 exact key 40000 s.A h0 (by have:=h0.nn r c hr hc;omega)
open Classical in
noncomputable def loV (s:Sheet) (m:List Int) (r c:Nat):Int:=if h:∃ v,IsLo s m r c v then Classical.choose h else 0
open Classical in
noncomputable def hiV (s:Sheet) (m:List Int) (r c:Nat):Int:=if h:∃ v,IsHi s m r c v then Classical.choose h else 0
theorem IsLo.eq {s:Sheet} {m:List Int} {r c:Nat} {v:Int} (h:IsLo s m r c v):loV s m r c = v:=by
 have e:∃ v,IsLo s m r c v:=⟨v,h⟩
 unfold loV
 rw [dif_pos e]
 obtain ⟨⟨x,hx,hxv⟩,h1⟩:=h
 obtain ⟨⟨y,hy,hyv⟩,h2⟩:=Classical.choose_spec e
 have a:=h1 y hy
 have b:=h2 x hx
 omega
theorem IsHi.eq {s:Sheet} {m:List Int} {r c:Nat} {v:Int} (h:IsHi s m r c v):hiV s m r c = v:=by
 have e:∃ v,IsHi s m r c v:=⟨v,h⟩
 unfold hiV
 rw [dif_pos e]
 obtain ⟨⟨x,hx,hxv⟩,h1⟩:=h
 obtain ⟨⟨y,hy,hyv⟩,h2⟩:=Classical.choose_spec e
 have a:=h1 y hy
 have b:=h2 x hx
 omega
theorem lo_is {s:Sheet} (hs:SheetOk s) (m:List Int) {r c:Nat} (hr:r < s.R) (hc:c < s.C):IsLo s m r c (loV s m r c):=by
 obtain ⟨v,hv⟩:=lo_ex hs m hr hc
 rw [hv.eq];exact hv
theorem hi_is {s:Sheet} (hs:SheetOk s) (m:List Int) {r c:Nat} (hr:r < s.R) (hc:c < s.C):IsHi s m r c (hiV s m r c):=by
 obtain ⟨v,hv⟩:=hi_ex hs m hr hc
 rw [hv.eq];exact hv
theorem lo_le {s:Sheet} (hs:SheetOk s) (m:List Int) {r c:Nat} (hr:r < s.R) (hc:c < s.C):0 ≤ loV s m r c ∧ loV s m r c ≤ s.A r c ∧ s.A r c ≤ hiV s m r c ∧ hiV s m r c ≤ 40000:=by
 obtain ⟨⟨x,hx,hxv⟩,h1⟩:=lo_is hs m hr hc
 obtain ⟨⟨y,hy,hyv⟩,h2⟩:=hi_is hs m hr hc
 have a:=h1 _ (Ag.self hs m)
 have b:=h2 _ (Ag.self hs m)
 have c1:=hx.nn r c hr hc
 have d:=hy.le hs hr hc
 omega
theorem shown_lo {s:Sheet} (hs:SheetOk s) (m:List Int) {r c:Nat} (hr:r < s.R) (hc:c < s.C) (h:outS m r c = false):loV s m r c = s.A r c ∧ hiV s m r c = s.A r c :=
 ⟨IsLo.eq ⟨⟨s.A,Ag.self hs m,rfl⟩,fun x hx=>by rw [hx.un r c hr hc h];exact Int.le_refl _⟩,IsHi.eq ⟨⟨s.A,Ag.self hs m,rfl⟩,fun x hx=>by rw [hx.un r c hr hc h];exact Int.le_refl _⟩⟩
end Go.Proofs.Ytlffjnmbpoemnaa

namespace Go.Proofs.Ytlffjnmbpoemnaa

/-- A row (true) or a column. -/
abbrev Nd := Bool × Nat
/-- What a step from a node to the next one does to an amount. -/
def stepE (u v:Nd) (r c:Nat):Int:=if u.1 then (if r = u.2 ∧ c = v.2 then 1 else 0) else (if r = v.2 ∧ c = u.2 then -1 else 0)
/-- The steps of a way, whose last node stands first. -/
def stepsB : List Nd → List (Nd × Nd)
 | v :: u :: t=>(u,v) :: stepsB (u :: t)
 | _=>[]
def sumE : List (Nd × Nd) → Nat → Nat → Int
 | [],_,_=>0
 | e :: t,r,c=>stepE e.1 e.2 r c + sumE t r c
/-- Rows and columns in turn, all of them in the sheet, none of them twice. -/
structure Way (R C:Nat) (p:List Nd):Prop where
 nod:p.Nodup
 ok:∀ u,u ∈ p → if u.1 then u.2 < R else u.2 < C
 alt:∀ e,e ∈ stepsB p → e.1.1 = !e.2.1
theorem stepsB_cons (v u:Nd) (t:List Nd):stepsB (v :: u :: t) = (u,v) :: stepsB (u :: t):=rfl
theorem stepsB_mem : ∀ {p:List Nd} {e:Nd × Nd},e ∈ stepsB p → e.1 ∈ p ∧ e.2 ∈ p
 | [],e,h=>by cases h
 | [v],e,h=>by cases h
 | v :: u :: t,e,h=>by
  rw [stepsB_cons] at h
  rcases List.mem_cons.1 h with rfl|h
  ·exact ⟨List.mem_cons_of_mem _ List.mem_cons_self,List.mem_cons_self⟩
  ·have:=stepsB_mem h
   exact ⟨List.mem_cons_of_mem _ this.1,List.mem_cons_of_mem _ this.2⟩
theorem Way.tail {R C:Nat} {v u:Nd} {t:List Nd} (h:Way R C (v :: u :: t)):Way R C (u :: t) :=
 ⟨(List.nodup_cons.1 h.nod).2,fun x hx=>h.ok x (List.mem_cons_of_mem _ hx),fun e he=>h.alt e (by rw [stepsB_cons];exact List.mem_cons_of_mem _ he)⟩
def psi (u:Nd) (r:Nat):Int:=if u.1 = true ∧ u.2 = r then 1 else 0
def phi (u:Nd) (c:Nat):Int:=if u.1 = false ∧ u.2 = c then 1 else 0
theorem row_step {R C:Nat} {u v:Nd} (ha:u.1 = !v.1) (hu:if u.1 then u.2 < R else u.2 < C) (hv:if v.1 then v.2 < R else v.2 < C) (r:Nat):sumTo (stepE u v r) C = psi u r - psi v r:=by
 obtain ⟨a,x⟩:=u
 obtain ⟨b,y⟩:=v
 simp only at ha
 subst ha
 cases b
 ·simp only [Bool.not_false,if_true,Bool.false_eq_true,if_false] at hu hv
  have e:stepE (true,x) (false,y) r = fun c=>if r = x ∧ c = y then 1 else 0:=by funext c;simp [stepE]
  have p1:psi (true,x) r = if x = r then 1 else 0:=by simp [psi]
  have p2:psi (false,y) r = 0:=by simp [psi]
  rw [show (true,x) = (!false,x) from rfl] at e p1
  rw [e,p1,p2]
  by_cases h:r = x
  ·subst h
   rw [sumTo_hit hv fun i _ hn=>by rw [if_neg (fun h=>hn h.2)]];simp
  ·rw [sumTo_congr (g:=fun _=>0) fun i _=>by rw [if_neg (fun hh=>h hh.1)],sumTo_zero,if_neg (fun hh=>h hh.symm)];rfl
 ·simp only [Bool.not_true,if_true,Bool.false_eq_true,if_false] at hu hv
  have e:stepE (false,x) (true,y) r = fun c=>if r = y ∧ c = x then -1 else 0:=by funext c;simp [stepE]
  have p1:psi (false,x) r = 0:=by simp [psi]
  have p2:psi (true,y) r = if y = r then 1 else 0:=by simp [psi]
  rw [show (false,x) = (!true,x) from rfl] at e p1
  rw [e,p1,p2]
  by_cases h:r = y
  ·subst h
   rw [sumTo_hit hu fun i _ hn=>by rw [if_neg (fun h=>hn h.2)]];simp
  ·rw [sumTo_congr (g:=fun _=>0) fun i _=>by rw [if_neg (fun hh=>h hh.1)],sumTo_zero,if_neg (fun hh=>h hh.symm)];rfl
theorem col_step {R C:Nat} {u v:Nd} (ha:u.1 = !v.1) (hu:if u.1 then u.2 < R else u.2 < C) (hv:if v.1 then v.2 < R else v.2 < C) (c:Nat):sumTo (fun r=>stepE u v r c) R = phi v c - phi u c:=by
 obtain ⟨a,x⟩:=u
 obtain ⟨b,y⟩:=v
 simp only at ha
 subst ha
 cases b
 ·simp only [Bool.not_false,if_true,Bool.false_eq_true,if_false] at hu hv
  have e:(fun r=>stepE (!false,x) (false,y) r c) = fun r=>if r = x ∧ c = y then 1 else 0:=by funext r;simp [stepE]
  have p1:phi (!false,x) c = 0:=by simp [phi]
  have p2:phi (false,y) c = if y = c then 1 else 0:=by simp [phi]
  rw [e,p1,p2]
  by_cases h:c = y
  ·subst h
   rw [sumTo_hit hu fun i _ hn=>by rw [if_neg (fun h=>hn h.1)]];simp
  ·rw [sumTo_congr (g:=fun _=>0) fun i _=>by rw [if_neg (fun hh=>h hh.2)],sumTo_zero,if_neg (fun hh=>h hh.symm)];rfl
 ·simp only [Bool.not_true,if_true,Bool.false_eq_true,if_false] at hu hv
  have e:(fun r=>stepE (!true,x) (true,y) r c) = fun r=>if r = y ∧ c = x then -1 else 0:=by funext r;simp [stepE]
  have p1:phi (!true,x) c = if x = c then 1 else 0:=by simp [phi]
  have p2:phi (true,y) c = 0:=by simp [phi]
  rw [e,p1,p2]
  by_cases h:c = x
  ·subst h
   rw [sumTo_hit hv fun i _ hn=>by rw [if_neg (fun h=>hn h.1)]];simp
  ·rw [sumTo_congr (g:=fun _=>0) fun i _=>by rw [if_neg (fun hh=>h hh.2)],sumTo_zero,if_neg (fun hh=>h hh.symm)];rfl
theorem row_way {R C:Nat} (r:Nat):∀ {p:List Nd} (v:Nd),Way R C (v :: p) → sumTo (sumE (stepsB (v :: p)) r) C = psi ((v :: p).getLast (by simp)) r - psi v r
 | [],v,_=>by show sumTo (fun _=>0) C = _;rw [sumTo_zero];simp
 | u :: t,v,h=>by
  have ih:=row_way r u h.tail
  have e:sumE (stepsB (v :: u :: t)) r = fun c=>stepE u v r c + sumE (stepsB (u :: t)) r c:=rfl
  rw [e,sumTo_add,row_step (R:=R) (h.alt (u,v) List.mem_cons_self) (h.ok u (List.mem_cons_of_mem _ List.mem_cons_self)) (h.ok v List.mem_cons_self),ih,List.getLast_cons (List.cons_ne_nil u t)]
  show _ - _ + _ = _
  dsimp only
  omega
theorem col_way {R C:Nat} (c:Nat):∀ {p:List Nd} (v:Nd),Way R C (v :: p) → sumTo (fun r=>sumE (stepsB (v :: p)) r c) R = phi v c - phi ((v :: p).getLast (by simp)) c
 | [],v,_=>by show sumTo (fun _=>0) R = _;rw [sumTo_zero];simp
 | u :: t,v,h=>by
  have ih:=col_way c u h.tail
  have e:(fun r=>sumE (stepsB (v :: u :: t)) r c) = fun r=>stepE u v r c + sumE (stepsB (u :: t)) r c:=rfl
  rw [e,sumTo_add (fun r=>stepE u v r c),col_step (C:=C) (h.alt (u,v) List.mem_cons_self) (h.ok u (List.mem_cons_of_mem _ List.mem_cons_self)) (h.ok v List.mem_cons_self),ih,List.getLast_cons (List.cons_ne_nil u t)]
  show _ - _ + _ = _
  dsimp only
  omega
/-- No step touches an amount whose row or column is not on the way. -/
theorem sumE_off {r c:Nat}:∀ {p:List Nd},(∀ e,e ∈ stepsB p → e.1.1 = !e.2.1) → ((true,r) ∉ p ∨ (false,c) ∉ p) → sumE (stepsB p) r c = 0
 | [],_,_=>rfl
 | [v],_,_=>rfl
 | v :: u :: t,ha,h=>by
  have h2:((true,r) ∉ u :: t ∨ (false,c) ∉ u :: t):=h.imp (fun h h'=>h (List.mem_cons_of_mem _ h')) (fun h h'=>h (List.mem_cons_of_mem _ h'))
  show stepE u v r c + sumE (stepsB (u :: t)) r c = 0
  rw [sumE_off (fun e he=>ha e (by rw [stepsB_cons];exact List.mem_cons_of_mem _ he)) h2]
  have hal:=ha (u,v) List.mem_cons_self
  obtain ⟨a,x⟩:=u
  obtain ⟨b,y⟩:=v
  simp only at hal
  subst hal
  cases b
  ·simp only [stepE,Bool.not_false,if_true]
   rw [if_neg]
   ·rfl
   ·rintro ⟨rfl,rfl⟩
    rcases h with h|h
    ·exact h (List.mem_cons_of_mem _ List.mem_cons_self)
    ·exact h List.mem_cons_self
  ·simp only [stepE,Bool.not_true,Bool.false_eq_true,if_false]
   rw [if_neg]
   ·rfl
   ·rintro ⟨rfl,rfl⟩
    rcases h with h|h
    ·exact h List.mem_cons_self
    ·exact h (List.mem_cons_of_mem _ List.mem_cons_self)
/-- A way touches an amount once at most. -/
theorem sumE_cases {R C r c:Nat}:∀ {p:List Nd},Way R C p → sumE (stepsB p) r c = 0 ∨ (sumE (stepsB p) r c = 1 ∧ ((true,r),(false,c)) ∈ stepsB p) ∨ (sumE (stepsB p) r c = -1 ∧ ((false,c),(true,r)) ∈ stepsB p)
 | [],_=>.inl rfl
 | [v],_=>.inl rfl
 | v :: u :: t,h=>by
  have hal:=h.alt (u,v) List.mem_cons_self
  have hnv:v ∉ u :: t:=(List.nodup_cons.1 h.nod).1
  have ih:=sumE_cases (r:=r) (c:=c) h.tail
  have off:=sumE_off (r:=r) (c:=c) h.tail.alt
  have e:sumE (stepsB (v :: u :: t)) r c = stepE u v r c + sumE (stepsB (u :: t)) r c:=rfl
  rw [e]
  have mem:∀ e,e ∈ stepsB (u :: t) → e ∈ stepsB (v :: u :: t):=fun e he=>by rw [stepsB_cons];exact List.mem_cons_of_mem _ he
  have hd:(u,v) ∈ stepsB (v :: u :: t):=List.mem_cons_self
  obtain ⟨a,x⟩:=u
  obtain ⟨b,y⟩:=v
  simp only at hal
  subst hal
  cases b
  ·by_cases hh:r = x ∧ c = y
   ·obtain ⟨rfl,rfl⟩:=hh
    rw [off (.inr hnv)]
    refine .inr (.inl ⟨by simp [stepE],hd⟩)
   ·rw [show stepE (!false,x) (false,y) r c = 0 from by simp [stepE,hh]]
    rcases ih with h1|⟨h1,h2⟩|⟨h1,h2⟩
    ·exact .inl (by omega)
    ·exact .inr (.inl ⟨by omega,mem _ h2⟩)
    ·exact .inr (.inr ⟨by omega,mem _ h2⟩)
  ·by_cases hh:r = y ∧ c = x
   ·obtain ⟨rfl,rfl⟩:=hh
    rw [off (.inl hnv)]
    refine .inr (.inr ⟨by simp [stepE],hd⟩)
   ·rw [show stepE (!true,x) (true,y) r c = 0 from by simp [stepE,hh]]
    rcases ih with h1|⟨h1,h2⟩|⟨h1,h2⟩
    ·exact .inl (by omega)
    ·exact .inr (.inl ⟨by omega,mem _ h2⟩)
    ·exact .inr (.inr ⟨by omega,mem _ h2⟩)
/-- The place itself. -/
def hit (r0 c0 r c:Nat):Int:=if r = r0 ∧ c = c0 then 1 else 0
theorem hit_row {C c0:Nat} (hc:c0 < C) (r0 r:Nat):sumTo (hit r0 c0 r) C = if r0 = r then 1 else 0:=by
 by_cases h:r = r0
 ·subst h
  rw [if_pos rfl,sumTo_hit hc fun i _ hn=>by unfold hit;rw [if_neg (fun h=>hn h.2)]]
  unfold hit;simp
 ·rw [if_neg (fun e=>h e.symm),sumTo_congr (g:=fun _=>0) fun i _=>by unfold hit;rw [if_neg (fun hh=>h hh.1)],sumTo_zero]
theorem hit_col {R r0:Nat} (hr:r0 < R) (c0 c:Nat):sumTo (fun r=>hit r0 c0 r c) R = if c0 = c then 1 else 0:=by
 by_cases h:c = c0
 ·subst h
  rw [if_pos rfl,sumTo_hit hr fun i _ hn=>by unfold hit;rw [if_neg (fun h=>hn h.1)]]
  unfold hit;simp
 ·rw [if_neg (fun e=>h e.symm),sumTo_congr (g:=fun _=>0) fun i _=>by unfold hit;rw [if_neg (fun hh=>h hh.2)],sumTo_zero]
/-- A way from the row of a place to its column, or back: g is what is shifted along its steps. sg: 1 if it begins with the row. -/
structure WayFor (s:Sheet) (m:List Int) (r0 c0:Nat) (down:Bool) (p:List Nd):Prop where
 way:Way s.R s.C p
 ne:p ≠ []
 first:p.getLast ne = if down then (true,r0) else (false,c0)
 last:p.head ne = if down then (false,c0) else (true,r0)
 out:∀ r c,((true,r),(false,c)) ∈ stepsB p ∨ ((false,c),(true,r)) ∈ stepsB p → outS m r c = true ∧ ¬ (r = r0 ∧ c = c0)
/-- What a way and the place itself do to an amount. -/
def wayD (down:Bool) (p:List Nd) (r0 c0:Nat) (g:Int) (r c:Nat):Int:=g * (sumE (stepsB p) r c + (if down then -1 else 1) * hit r0 c0 r c)
theorem wayD_row {s:Sheet} {m:List Int} {r0 c0:Nat} {down:Bool} {p:List Nd} (h:WayFor s m r0 c0 down p) (hc:c0 < s.C) (g:Int) (r:Nat):sumTo (wayD down p r0 c0 g r) s.C = 0:=by
 have e:wayD down p r0 c0 g r = fun c=>g * (sumE (stepsB p) r c + (if down then -1 else 1) * hit r0 c0 r c):=rfl
 rw [e,sumTo_mul,sumTo_add,sumTo_mul,hit_row hc]
 obtain ⟨v,t,rfl⟩:∃ v t,p = v :: t:=List.exists_cons_of_ne_nil h.ne
 rw [row_way r v h.way,h.first,show v = _ from h.last]
 cases down
 ·simp only [Bool.false_eq_true,if_false,psi,false_and,true_and]
  split <;> simp
 ·simp only [if_true,psi,true_and,Bool.false_eq_true,false_and,if_false]
  split <;> simp
theorem wayD_col {s:Sheet} {m:List Int} {r0 c0:Nat} {down:Bool} {p:List Nd} (h:WayFor s m r0 c0 down p) (hr:r0 < s.R) (g:Int) (c:Nat):sumTo (fun r=>wayD down p r0 c0 g r c) s.R = 0:=by
 have e:(fun r=>wayD down p r0 c0 g r c) = fun r=>g * (sumE (stepsB p) r c + (if down then -1 else 1) * hit r0 c0 r c):=rfl
 rw [e,sumTo_mul,sumTo_add (fun r=>sumE (stepsB p) r c),sumTo_mul,hit_col hr]
 obtain ⟨v,t,rfl⟩:∃ v t,p = v :: t:=List.exists_cons_of_ne_nil h.ne
 rw [col_way c v h.way,h.first,show v = _ from h.last]
 cases down
 ·simp only [Bool.false_eq_true,if_false,phi,false_and,true_and,Bool.true_eq_false]
  split <;> simp
 ·simp only [if_true,phi,true_and,Bool.false_eq_true,false_and,if_false,Bool.true_eq_false]
  split <;> simp
/-- After a shift the amounts still agree. g may be less than 0: then it is the steps from rows to columns that take away. -/
theorem Ag.shift {s:Sheet} {m:List Int} {r0 c0:Nat} {down:Bool} {p:List Nd} {x:Nat → Nat → Int} {g:Int} (hx:Ag s m x) (h:WayFor s m r0 c0 down p) (hr:r0 < s.R) (hc:c0 < s.C) (ho:outS m r0 c0 = true)
  (h1:0 ≤ g → ∀ r c,((false,c),(true,r)) ∈ stepsB p → g ≤ x r c) (h2:g ≤ 0 → ∀ r c,((true,r),(false,c)) ∈ stepsB p → -g ≤ x r c)
  (h3:0 ≤ x r0 c0 + g * (if down then -1 else 1)):Ag s m (fun r c=>x r c + wayD down p r0 c0 g r c):=by
 have off:sumE (stepsB p) r0 c0 = 0:=by
  rcases sumE_cases (r:=r0) (c:=c0) h.way with k|⟨_,k⟩|⟨_,k⟩
  ·exact k
  ·exact ((h.out _ _ (.inl k)).2 ⟨rfl,rfl⟩).elim
  ·exact ((h.out _ _ (.inr k)).2 ⟨rfl,rfl⟩).elim
 refine ⟨fun r c hr' hc'=>?_,fun r c hr' hc' hno=>?_,fun r hr'=>?_,fun c hc'=>?_⟩
 ·have h0:=hx.nn r c hr' hc'
  by_cases hh:r = r0 ∧ c = c0
  ·obtain ⟨rfl,rfl⟩:=hh
   unfold wayD hit
   rw [off,show (if r = r ∧ c = c then (1:Int) else 0) = 1 from if_pos ⟨rfl,rfl⟩,Int.zero_add,Int.mul_one]
   exact h3
  ·unfold wayD hit
   rw [if_neg hh,Int.mul_zero,Int.add_zero]
   rcases sumE_cases (r:=r) (c:=c) h.way with k|⟨k,k2⟩|⟨k,k2⟩
   ·rw [k];omega
   ·rw [k]
    rcases Int.le_total 0 g with hg|hg
    ·omega
    ·have:=h2 hg r c k2;omega
   ·rw [k]
    rcases Int.le_total 0 g with hg|hg
    ·have:=h1 hg r c k2;omega
    ·omega
 ·have hh:¬ (r = r0 ∧ c = c0):=by rintro ⟨rfl,rfl⟩;rw [ho] at hno;cases hno
  unfold wayD hit
  rw [if_neg hh]
  rcases sumE_cases (r:=r) (c:=c) h.way with k|⟨_,k⟩|⟨_,k⟩
  ·rw [k,hx.un r c hr' hc' hno];simp
  ·rw [(h.out _ _ (.inl k)).1] at hno;cases hno
  ·rw [(h.out _ _ (.inr k)).1] at hno;cases hno
 ·rw [sumTo_add,wayD_row h hc,hx.row r hr'];omega
 ·rw [sumTo_add (fun r=>x r c),wayD_col h hr,hx.col c hc'];omega
theorem shift_at {s:Sheet} {m:List Int} {r0 c0:Nat} {down:Bool} {p:List Nd} (h:WayFor s m r0 c0 down p) (g:Int):wayD down p r0 c0 g r0 c0 = g * (if down then -1 else 1):=by
 have off:sumE (stepsB p) r0 c0 = 0:=by
  rcases sumE_cases (r:=r0) (c:=c0) h.way with k|⟨_,k⟩|⟨_,k⟩
  ·exact k
  ·exact ((h.out _ _ (.inl k)).2 ⟨rfl,rfl⟩).elim
  ·exact ((h.out _ _ (.inr k)).2 ⟨rfl,rfl⟩).elim
 unfold wayD hit
 rw [off,show (if r0 = r0 ∧ c0 = c0 then (1:Int) else 0) = 1 from if_pos ⟨rfl,rfl⟩,Int.zero_add,Int.mul_one]
end Go.Proofs.Ytlffjnmbpoemnaa
