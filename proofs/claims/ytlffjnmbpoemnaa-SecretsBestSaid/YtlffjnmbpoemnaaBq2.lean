/- Secrets: the reference's moved, 3 rows. / Secrets: moved (of any place), span, Range, IsSafe, Safe, CheckOther of the reference. -/
import Derived.Test.YtlffjnmbpoemnaaBq1
import Derived.Test.YtlffjnmbpoemnaaBs8
set_option linter.unusedSimpArgs false
set_option linter.unusedVariables false
namespace Go.Proofs.Ytlffjnmbpoemnaa
open Go.RowKit

set_option maxHeartbeats 16000000
set_option maxRecDepth 100000
theorem moved3U (f:ShF) (s:Sheet) (hs:SheetOk s) (z e:Bool) (m:List Int) (hm:MaskOk s m) (r0 c0:Nat) (hr0:r0 < s.R) (hc0:c0 < s.C) (ho:outS m r0 c0 = true) (hR:s.R = 3):ACall Try.prog 77 [aSh f s,aInts z e m,AI r0,AI c0,.bool true] [] (fun v h=>MovedOut s m r0 c0 true v h):=by
 have c4:=hs.c4
 have hml:=hm.len
 have hR':s.amounts.length = 3:=hR
 have cp:=copyOwn_ok f.za f.ea f.rz f.re s.amounts s.C (by omega) ⟨hs.c1,hs.c4⟩ (fun k hk=>hs.row k hk)
 rw [hR'] at cp
 have cH:=has_int (m.getD r0 0) c0 (hm.bd r0 hr0).1 (by omega)
 rw [Int.toNat_natCast,show (m.getD r0 0).toNat.testBit c0 = true from ho] at cH
 (refine fcall_of mixed Try.func77 rfl (by decide) (hs:={}) ?k (ac:=?ac) ?c (rs:=?rs) ?r ?l ?H;(case k=>kernel_rfl);(case c=>(conv=>(lhs;cbv)));(case r=>(conv=>(lhs;cbv)));(case l=>exact Nat.le_of_ble_eq_true rfl))
 (repeat' ((try conv=>whnf);first|(with_reducible first|refine wT ?_|refine wF ?_|(refine wI (fun hq=>?_) (fun hq=>?_) <;> try simp only [zA,zE,zD,zJ,zB,zI,wK,wL] at hq)|refine wA ?_|refine wB ?_|refine wC ?_|refine wD ?_|refine wE ?_)|((with_reducible refine wN ?_ ?_);focus exact needA)|(with_reducible refine wG ?_)|((refine FCall.give [] [] (cp) rfl rfl True.intro ⟨Ln.A,True.intro⟩ ?_);rintro _ _ ⟨rfl,rfl⟩;(refine ⟨by first|exact Nat.le_of_ble_eq_true rfl|omega,.inl rfl,?_⟩))|(refine FCall.pure (cH) ⟨Ln.sameB _ rfl,Ln.sameB _ rfl,True.intro⟩ rfl ?_)|(with_reducible refine wP ?_)))
 all_goals (try conv=>whnf)
 refine FLoop.of (ACalls.mono _) (X:=Nat → Nat → Int) (fun x=>[(1,aInts z e m),(2,AI r0),(3,AI c0),(4,.bool true),(5,.ptr 0 0),(11,.own 1 3),(12,AI 3)]) (fun x=>[.box 3 (cSh f s),.rwg 3 1 (fun k _=>match k with|0=>.own 2 s.C|1=>.own 3 s.C|_=>.own 4 s.C),rowF s.C (x 0),rowF s.C (x 1),rowF s.C (x 2)]) (fun x=>Ag s m x) (fun x=>(40000 - x r0 c0).toNat) s.A ⟨Ag.self hs m,[0,1,2,3,4],(wO rfl rfl rfl (wV rfl LnB.A (wV rfl (LnB.rwg3 (Ln.ownE rfl rfl) (Ln.ownE rfl rfl) (Ln.ownE rfl rfl) (Nat.le_refl _)) (wV rfl LnB.A (wV rfl LnB.A (wV rfl LnB.A wX)))))),allA⟩ ?_
 intro x hx
 have cW:=refWay_ok f s hs z e m hm r0 c0 hr0 hc0 true x hx.nn (s.R + c0) (r0) ⟨by simp,by simp⟩
 rw [show aMat s.R s.C x = aMat 3 s.C x by rw [hR]] at cW
 have hx40:∀ r c,r < s.R → c < s.C → 0 ≤ x r c ∧ x r c ≤ 40000:=fun r c hr hc=>⟨hx.nn r c hr hc,hx.le hs hr hc⟩
 (repeat' ((try conv=>whnf);first|(with_reducible first|refine wT ?_|refine wF ?_|(refine wI (fun hq=>?_) (fun hq=>?_) <;> try simp only [zA,zE,zD,zJ,zB,zI,wK,wL] at hq)|refine wA ?_|refine wB ?_|refine wC ?_|refine wD ?_|refine wE ?_)|((with_reducible refine wN ?_ ?_);focus exact needA)|(with_reducible refine wG ?_)|(with_reducible refine wP ?_)))
 all_goals (try conv=>whnf)
 refine FCall.give [] [1,2,3,4] cW rfl rfl True.intro ⟨Ln.A,Ln.A,Ln.A,Ln.A,Ln.A,Ln.mat (x:=x) (by decide) rfl (Nat.le_refl _) (below3 (Ln.pubE (by decide) rfl (Nat.le_refl _) rfl (fun _ _ _ _=>rfl)) (Ln.pubE (by decide) rfl (Nat.le_refl _) rfl (fun _ _ _ _=>rfl)) (Ln.pubE (by decide) rfl (Nat.le_refl _) rfl (fun _ _ _ _=>rfl))),True.intro⟩ ?_
 rintro _ _ (⟨rfl,rfl,P,hB,hPt⟩|⟨p,k,C,hl,hto,rfl,rfl⟩)
 ·refine ⟨Nat.zero_le _,.inr ⟨rfl,fun y hy=>by cases hy⟩,?_⟩
  have S:=hB.shut
  (repeat' ((try conv=>whnf);first|(with_reducible first|refine wT ?_|refine wF ?_|(refine wI (fun hq=>?_) (fun hq=>?_) <;> try simp only [zA,zE,zD,zJ,zB,zI,wK,wL] at hq)|refine wA ?_|refine wB ?_|refine wC ?_|refine wD ?_|refine wE ?_)|((with_reducible refine wN ?_ ?_);focus exact needA)|(with_reducible refine wG ?_)|(with_reducible refine wP ?_)))
  all_goals (try conv=>whnf)
  exact ⟨⟨aMat s.R s.C x,[],[],Cut.nil _,by rw [hR];exact Ln.mat (x:=x) (goneB rfl) rfl (Nat.le_refl _) (below3 (Ln.pubE (goneB rfl) rfl (Nat.le_refl _) rfl (fun _ _ _ _=>rfl)) (Ln.pubE (goneB rfl) rfl (Nat.le_refl _) rfl (fun _ _ _ _=>rfl)) (Ln.pubE (goneB rfl) rfl (Nat.le_refl _) rfl (fun _ _ _ _=>rfl))),x,hx,fun _=>S.hi_col rfl rfl hr0 hc0 rfl (by simp [hPt]) (by have:=shut_col hB;cases hP:P (s.R + c0) with|nil=>exact (this hP).elim|cons=>rfl) hx,(fun h=>by cases h),rfl,rfl⟩⟩
 ·refine ⟨Nat.zero_le _,.inr ⟨True.intro,flat_one (flat_row fun _ _=>True.intro)⟩,?_⟩
  have hl2:p.length - 1 = k + 1:=by omega
  have C:=C
  have hkk:k + 2 ≤ 1000:=by
   have h1:=C.nod
   have h2:(p.map (·.1)).length ≤ (List.range (s.R + s.C)).length:=pig h1 fun y hy=>by
    obtain ⟨q,hq,rfl⟩:=List.mem_map.1 hy
    have:q.1 < s.R + s.C:=C.lt q hq
    exact List.mem_range.2 (by omega)
   rw [List.length_map,List.length_range] at h2
   have:=hs.r4
   omega
  (repeat' ((try conv=>whnf);first|(with_reducible first|refine wT ?_|refine wF ?_|(refine wI (fun hq=>?_) (fun hq=>?_) <;> try simp only [zA,zE,zD,zJ,zB,zI,wK,wL] at hq)|refine wA ?_|refine wB ?_|refine wC ?_|refine wD ?_|refine wE ?_)|((with_reducible refine wN ?_ ?_);focus exact needA)|(with_reducible refine wG ?_)|(with_reducible refine wP ?_)))
  all_goals (try conv=>whnf)
  refine FLoop.of (ACalls.mono _) (X:=Nat) (fun i=>[(1,aInts z e m),(2,AI r0),(3,AI c0),(4,.bool true),(5,.ptr 0 0),(11,.own 1 3),(12,AI 3),(13,.own 5 (k + 2)),(14,AI i)]) (fun i=>[.box 3 (cSh f s),.rwg 3 1 (fun k _=>match k with|0=>.own 2 s.C|1=>.own 3 s.C|_=>.own 4 s.C),rowF s.C (doneF s.R p (k + 1) x i 0),rowF s.C (doneF s.R p (k + 1) x i 1),rowF s.C (doneF s.R p (k + 1) x i 2),rowW p (k + 1)]) (fun i=>i ≤ k + 1) (fun i=>k + 1 - i) 0 ⟨Nat.zero_le _,[0,1,2,3,4,5],(wO rfl rfl rfl (wV rfl LnB.A (wV rfl (LnB.rwg3 (Ln.ownE rfl rfl) (Ln.ownE rfl rfl) (Ln.ownE rfl rfl) (Nat.le_refl _)) (wV rfl (LnB.offR fun j=>doneF_zero _ _ _ _ _ _) (wV rfl (LnB.offR fun j=>doneF_zero _ _ _ _ _ _) (wV rfl (LnB.offR fun j=>doneF_zero _ _ _ _ _ _) (wV rfl LnB.A wX))))))),allA⟩ ?_
  intro i hi
  by_cases hlt:i < k + 1
  ·have hadj:=C.adj (j:=k - i) (by omega)
   have e1:((i:Int) + 1).toNat = i + 1:=by omega
   obtain ⟨a,ha⟩:∃ a,atW p (k + 1 - i) = a:=⟨_,rfl⟩
   obtain ⟨b,hb⟩:∃ b,atW p (k + 1 - (i + 1)) = b:=⟨_,rfl⟩
   have ha2:atW p (k + 1 - 1 - i + 1) = a:=by rw [← ha];congr 1;omega
   have hb2:atW p (k + 1 - 1 - i) = b:=by rw [← hb];congr 1;omega
   rw [show k - i + 1 = k + 1 - 1 - i + 1 by omega,show k - i = k + 1 - 1 - i by omega,ha2,hb2] at hadj
   have haN:a < s.R + s.C:=by rw [← ha];exact atW_lt C (by omega)
   have hbN:b < s.R + s.C:=by rw [← hb];exact atW_lt C (by omega)
   have hal:=(al_d (adj_d hadj).1).1
   rw [← e1] at hb
   rcases hal with ⟨x1,x2⟩|⟨x1,x2⟩
   ·have x1:a < s.R:=x1
    have x2:s.R ≤ b:=x2
    have hstp:=fun r=>done_rc (n:=k + 1) x ha2 hb2 x1 x2 r
    have h0:a = 0 ∨ a = 1 ∨ a = 2:=by omega
    rcases h0 with h0|h0|h0
    ·have hbd:=doneF_bd (R:=s.R) (p:=p) (n:=k + 1) (i:=i) (hx40 0 (((atW p (k + 1 - ((i:Int) + 1).toNat):Nat):Int) - 3).toNat (by omega) (by omega))
     (repeat' ((try conv=>whnf);first|(with_reducible refine FIdx.eqN 0 (by omega) (by omega) ?_)|(with_reducible first|refine wT ?_|refine wF ?_|(refine wI (fun hq=>?_) (fun hq=>?_) <;> try simp only [zA,zE,zD,zJ,zB,zI,wK,wL] at hq)|refine wA ?_|refine wB ?_|refine wC ?_|refine wD ?_|refine wE ?_)|((with_reducible refine wN ?_ ?_);focus exact needA)|(with_reducible refine wG ?_)|(with_reducible refine wP ?_)))
     all_goals (try conv=>whnf)
     exact ⟨⟨i + 1,hlt,by show k + 1 - (i + 1) < k + 1 - i;omega,[0,1,2,3,4,5],(wO rfl rfl rfl (wV rfl LnB.A (wV rfl (LnB.rwg3 (Ln.ownE rfl rfl) (Ln.ownE rfl rfl) (Ln.ownE rfl rfl) (Nat.le_refl _)) (wV rfl (LnB.hitR (hitA (d:=1) (hstp 0) h0.symm (by omega))) (wV rfl (LnB.offR (off1 (hstp 1) (by omega))) (wV rfl (LnB.offR (off1 (hstp 2) (by omega))) (wV rfl LnB.A wX))))))),allA⟩⟩
    ·have hbd:=doneF_bd (R:=s.R) (p:=p) (n:=k + 1) (i:=i) (hx40 1 (((atW p (k + 1 - ((i:Int) + 1).toNat):Nat):Int) - 3).toNat (by omega) (by omega))
     (repeat' ((try conv=>whnf);first|(with_reducible refine FIdx.eqN 1 (by omega) (by omega) ?_)|(with_reducible first|refine wT ?_|refine wF ?_|(refine wI (fun hq=>?_) (fun hq=>?_) <;> try simp only [zA,zE,zD,zJ,zB,zI,wK,wL] at hq)|refine wA ?_|refine wB ?_|refine wC ?_|refine wD ?_|refine wE ?_)|((with_reducible refine wN ?_ ?_);focus exact needA)|(with_reducible refine wG ?_)|(with_reducible refine wP ?_)))
     all_goals (try conv=>whnf)
     exact ⟨⟨i + 1,hlt,by show k + 1 - (i + 1) < k + 1 - i;omega,[0,1,2,3,4,5],(wO rfl rfl rfl (wV rfl LnB.A (wV rfl (LnB.rwg3 (Ln.ownE rfl rfl) (Ln.ownE rfl rfl) (Ln.ownE rfl rfl) (Nat.le_refl _)) (wV rfl (LnB.offR (off1 (hstp 0) (by omega))) (wV rfl (LnB.hitR (hitA (d:=1) (hstp 1) h0.symm (by omega))) (wV rfl (LnB.offR (off1 (hstp 2) (by omega))) (wV rfl LnB.A wX))))))),allA⟩⟩
    ·have hbd:=doneF_bd (R:=s.R) (p:=p) (n:=k + 1) (i:=i) (hx40 2 (((atW p (k + 1 - ((i:Int) + 1).toNat):Nat):Int) - 3).toNat (by omega) (by omega))
     (repeat' ((try conv=>whnf);first|(with_reducible refine FIdx.eqN 2 (by omega) (by omega) ?_)|(with_reducible first|refine wT ?_|refine wF ?_|(refine wI (fun hq=>?_) (fun hq=>?_) <;> try simp only [zA,zE,zD,zJ,zB,zI,wK,wL] at hq)|refine wA ?_|refine wB ?_|refine wC ?_|refine wD ?_|refine wE ?_)|((with_reducible refine wN ?_ ?_);focus exact needA)|(with_reducible refine wG ?_)|(with_reducible refine wP ?_)))
     all_goals (try conv=>whnf)
     exact ⟨⟨i + 1,hlt,by show k + 1 - (i + 1) < k + 1 - i;omega,[0,1,2,3,4,5],(wO rfl rfl rfl (wV rfl LnB.A (wV rfl (LnB.rwg3 (Ln.ownE rfl rfl) (Ln.ownE rfl rfl) (Ln.ownE rfl rfl) (Nat.le_refl _)) (wV rfl (LnB.offR (off1 (hstp 0) (by omega))) (wV rfl (LnB.offR (off1 (hstp 1) (by omega))) (wV rfl (LnB.hitR (hitA (d:=1) (hstp 2) h0.symm (by omega))) (wV rfl LnB.A wX))))))),allA⟩⟩
   ·have x1:s.R ≤ a:=x1
    have x2:b < s.R:=x2
    have hstp:=fun r=>done_cr (n:=k + 1) x ha2 hb2 x1 x2 r
    have h0:b = 0 ∨ b = 1 ∨ b = 2:=by omega
    rcases h0 with h0|h0|h0
    ·have hbd:=doneF_bd (R:=s.R) (p:=p) (n:=k + 1) (i:=i) (hx40 0 (((atW p (k + 1 - i):Nat):Int) - 3).toNat (by omega) (by omega))
     (repeat' ((try conv=>whnf);first|(with_reducible refine FIdx.eqN 0 (by omega) (by omega) ?_)|(with_reducible first|refine wT ?_|refine wF ?_|(refine wI (fun hq=>?_) (fun hq=>?_) <;> try simp only [zA,zE,zD,zJ,zB,zI,wK,wL] at hq)|refine wA ?_|refine wB ?_|refine wC ?_|refine wD ?_|refine wE ?_)|((with_reducible refine wN ?_ ?_);focus exact needA)|(with_reducible refine wG ?_)|(with_reducible refine wP ?_)))
     all_goals (try conv=>whnf)
     exact ⟨⟨i + 1,hlt,by show k + 1 - (i + 1) < k + 1 - i;omega,[0,1,2,3,4,5],(wO rfl rfl rfl (wV rfl LnB.A (wV rfl (LnB.rwg3 (Ln.ownE rfl rfl) (Ln.ownE rfl rfl) (Ln.ownE rfl rfl) (Nat.le_refl _)) (wV rfl (LnB.hitR (hitA (d:=(-1)) (hstp 0) h0.symm (by omega))) (wV rfl (LnB.offR (off1 (hstp 1) (by omega))) (wV rfl (LnB.offR (off1 (hstp 2) (by omega))) (wV rfl LnB.A wX))))))),allA⟩⟩
    ·have hbd:=doneF_bd (R:=s.R) (p:=p) (n:=k + 1) (i:=i) (hx40 1 (((atW p (k + 1 - i):Nat):Int) - 3).toNat (by omega) (by omega))
     (repeat' ((try conv=>whnf);first|(with_reducible refine FIdx.eqN 1 (by omega) (by omega) ?_)|(with_reducible first|refine wT ?_|refine wF ?_|(refine wI (fun hq=>?_) (fun hq=>?_) <;> try simp only [zA,zE,zD,zJ,zB,zI,wK,wL] at hq)|refine wA ?_|refine wB ?_|refine wC ?_|refine wD ?_|refine wE ?_)|((with_reducible refine wN ?_ ?_);focus exact needA)|(with_reducible refine wG ?_)|(with_reducible refine wP ?_)))
     all_goals (try conv=>whnf)
     exact ⟨⟨i + 1,hlt,by show k + 1 - (i + 1) < k + 1 - i;omega,[0,1,2,3,4,5],(wO rfl rfl rfl (wV rfl LnB.A (wV rfl (LnB.rwg3 (Ln.ownE rfl rfl) (Ln.ownE rfl rfl) (Ln.ownE rfl rfl) (Nat.le_refl _)) (wV rfl (LnB.offR (off1 (hstp 0) (by omega))) (wV rfl (LnB.hitR (hitA (d:=(-1)) (hstp 1) h0.symm (by omega))) (wV rfl (LnB.offR (off1 (hstp 2) (by omega))) (wV rfl LnB.A wX))))))),allA⟩⟩
    ·have hbd:=doneF_bd (R:=s.R) (p:=p) (n:=k + 1) (i:=i) (hx40 2 (((atW p (k + 1 - i):Nat):Int) - 3).toNat (by omega) (by omega))
     (repeat' ((try conv=>whnf);first|(with_reducible refine FIdx.eqN 2 (by omega) (by omega) ?_)|(with_reducible first|refine wT ?_|refine wF ?_|(refine wI (fun hq=>?_) (fun hq=>?_) <;> try simp only [zA,zE,zD,zJ,zB,zI,wK,wL] at hq)|refine wA ?_|refine wB ?_|refine wC ?_|refine wD ?_|refine wE ?_)|((with_reducible refine wN ?_ ?_);focus exact needA)|(with_reducible refine wG ?_)|(with_reducible refine wP ?_)))
     all_goals (try conv=>whnf)
     exact ⟨⟨i + 1,hlt,by show k + 1 - (i + 1) < k + 1 - i;omega,[0,1,2,3,4,5],(wO rfl rfl rfl (wV rfl LnB.A (wV rfl (LnB.rwg3 (Ln.ownE rfl rfl) (Ln.ownE rfl rfl) (Ln.ownE rfl rfl) (Nat.le_refl _)) (wV rfl (LnB.offR (off1 (hstp 0) (by omega))) (wV rfl (LnB.offR (off1 (hstp 1) (by omega))) (wV rfl (LnB.hitR (hitA (d:=(-1)) (hstp 2) h0.symm (by omega))) (wV rfl LnB.A wX))))))),allA⟩⟩
  ·have hik:k + 1 = i:=by omega
   subst hik
   have hb0:=doneF_bd (R:=s.R) (p:=p) (n:=k + 1) (i:=k + 1) (hx40 r0 c0 hr0 hc0)
   have hAg:=hx.shift (g:=1) (C.way rfl rfl (down:=false) (t:=r0) rfl rfl hr0 hto) hr0 hc0 ho (fun _ r c hm'=>by have h1:=C.cap_col rfl hm';have h2:=C.pos;show (1:Int) ≤ x r c;have h3:(p.head C.ne).2 ≤ x r c:=h1;omega) (fun h=>absurd h (by decide)) (by show 0 ≤ x r0 c0 + _;simp;have:=hx.nn r0 c0 hr0 hc0;omega)
   have hat:=shift_at (C.way rfl rfl (down:=false) (t:=r0) rfl rfl hr0 hto) 1
   have hLe:=lastF_eq (R:=s.R) (p:=p) (x:=x) (r0:=r0) (c0:=c0) (down:=false) hl2
   rw [show (fun r c=>x r c + wayD false (nds (gRef s m r0 c0 x).R p) (gRef s m r0 c0 x).r0 (gRef s m r0 c0 x).c0 1 r c) = lastF s.R p (k + 1) x r0 c0 (if false = true then -1 else 1) from hLe.symm] at hAg
   have hL0:lastF s.R p (k + 1) x r0 c0 (1) r0 c0 = x r0 c0 + 1:=by
    have:=congrFun (congrFun hLe r0) c0
    rw [show lastF s.R p (k + 1) x r0 c0 (1) = lastF s.R p (k + 1) x r0 c0 (if false = true then -1 else 1) from rfl,this]
    show x r0 c0 + wayD false (nds s.R p) r0 c0 1 r0 c0 = _
    have hat2:wayD false (nds s.R p) r0 c0 1 r0 c0 = 1 * (if false = true then -1 else 1):=hat
    rw [hat2];rfl
   have hle40:=hAg.le hs hr0 hc0
   rw [show lastF s.R p (k + 1) x r0 c0 (if false = true then -1 else 1) r0 c0 = x r0 c0 + 1 from hL0] at hle40
   have hlf:∀ r j,lastF s.R p (k + 1) x r0 c0 (1) r j = if r = r0 ∧ j = c0 then doneF s.R p (k + 1) x (k + 1) r j + 1 else doneF s.R p (k + 1) x (k + 1) r j:=fun r j=>rfl
   have h0:r0 = 0 ∨ r0 = 1 ∨ r0 = 2:=by omega
   rcases h0 with rfl|rfl|rfl
   ·(repeat' ((try conv=>whnf);first|(with_reducible first|refine wT ?_|refine wF ?_|(refine wI (fun hq=>?_) (fun hq=>?_) <;> try simp only [zA,zE,zD,zJ,zB,zI,wK,wL] at hq)|refine wA ?_|refine wB ?_|refine wC ?_|refine wD ?_|refine wE ?_)|((with_reducible refine wN ?_ ?_);focus exact needA)|(with_reducible refine wG ?_)|(with_reducible refine wP ?_)))
    all_goals (try conv=>whnf)
    exact ⟨⟨lastF s.R p (k + 1) x 0 c0 (1),hAg,by show (40000 - _:Int).toNat < (40000 - _:Int).toNat;rw [hL0];omega,[0,1,2,3,4],(wO rfl rfl rfl (wV rfl LnB.A (wV rfl (LnB.rwg3 (Ln.ownE rfl rfl) (Ln.ownE rfl rfl) (Ln.ownE rfl rfl) (Nat.le_refl _)) (wV rfl (LnB.hitR (hitA (d:=1) (hlf 0) rfl rfl)) (wV rfl (LnB.offR (off1 (hlf 1) (by decide))) (wV rfl (LnB.offR (off1 (hlf 2) (by decide))) wX)))))),allA⟩⟩
   ·(repeat' ((try conv=>whnf);first|(with_reducible first|refine wT ?_|refine wF ?_|(refine wI (fun hq=>?_) (fun hq=>?_) <;> try simp only [zA,zE,zD,zJ,zB,zI,wK,wL] at hq)|refine wA ?_|refine wB ?_|refine wC ?_|refine wD ?_|refine wE ?_)|((with_reducible refine wN ?_ ?_);focus exact needA)|(with_reducible refine wG ?_)|(with_reducible refine wP ?_)))
    all_goals (try conv=>whnf)
    exact ⟨⟨lastF s.R p (k + 1) x 1 c0 (1),hAg,by show (40000 - _:Int).toNat < (40000 - _:Int).toNat;rw [hL0];omega,[0,1,2,3,4],(wO rfl rfl rfl (wV rfl LnB.A (wV rfl (LnB.rwg3 (Ln.ownE rfl rfl) (Ln.ownE rfl rfl) (Ln.ownE rfl rfl) (Nat.le_refl _)) (wV rfl (LnB.offR (off1 (hlf 0) (by decide))) (wV rfl (LnB.hitR (hitA (d:=1) (hlf 1) rfl rfl)) (wV rfl (LnB.offR (off1 (hlf 2) (by decide))) wX)))))),allA⟩⟩
   ·(repeat' ((try conv=>whnf);first|(with_reducible first|refine wT ?_|refine wF ?_|(refine wI (fun hq=>?_) (fun hq=>?_) <;> try simp only [zA,zE,zD,zJ,zB,zI,wK,wL] at hq)|refine wA ?_|refine wB ?_|refine wC ?_|refine wD ?_|refine wE ?_)|((with_reducible refine wN ?_ ?_);focus exact needA)|(with_reducible refine wG ?_)|(with_reducible refine wP ?_)))
    all_goals (try conv=>whnf)
    exact ⟨⟨lastF s.R p (k + 1) x 2 c0 (1),hAg,by show (40000 - _:Int).toNat < (40000 - _:Int).toNat;rw [hL0];omega,[0,1,2,3,4],(wO rfl rfl rfl (wV rfl LnB.A (wV rfl (LnB.rwg3 (Ln.ownE rfl rfl) (Ln.ownE rfl rfl) (Ln.ownE rfl rfl) (Nat.le_refl _)) (wV rfl (LnB.offR (off1 (hlf 0) (by decide))) (wV rfl (LnB.offR (off1 (hlf 1) (by decide))) (wV rfl (LnB.hitR (hitA (d:=1) (hlf 2) rfl rfl)) wX)))))),allA⟩⟩
theorem moved3D (f:ShF) (s:Sheet) (hs:SheetOk s) (z e:Bool) (m:List Int) (hm:MaskOk s m) (r0 c0:Nat) (hr0:r0 < s.R) (hc0:c0 < s.C) (ho:outS m r0 c0 = true) (hR:s.R = 3):ACall Try.prog 77 [aSh f s,aInts z e m,AI r0,AI c0,.bool false] [] (fun v h=>MovedOut s m r0 c0 false v h):=by
 have c4:=hs.c4
 have hml:=hm.len
 have hR':s.amounts.length = 3:=hR
 have cp:=copyOwn_ok f.za f.ea f.rz f.re s.amounts s.C (by omega) ⟨hs.c1,hs.c4⟩ (fun k hk=>hs.row k hk)
 rw [hR'] at cp
 have cH:=has_int (m.getD r0 0) c0 (hm.bd r0 hr0).1 (by omega)
 rw [Int.toNat_natCast,show (m.getD r0 0).toNat.testBit c0 = true from ho] at cH
 (refine fcall_of mixed Try.func77 rfl (by decide) (hs:={ pub:=[6] }) ?k (ac:=?ac) ?c (rs:=?rs) ?r ?l ?H;(case k=>kernel_rfl);(case c=>(conv=>(lhs;cbv)));(case r=>(conv=>(lhs;cbv)));(case l=>exact Nat.le_of_ble_eq_true rfl))
 (repeat' ((try conv=>whnf);first|(with_reducible first|refine wT ?_|refine wF ?_|(refine wI (fun hq=>?_) (fun hq=>?_) <;> try simp only [zA,zE,zD,zJ,zB,zI,wK,wL] at hq)|refine wA ?_|refine wB ?_|refine wC ?_|refine wD ?_|refine wE ?_)|((with_reducible refine wN ?_ ?_);focus exact needA)|(with_reducible refine wG ?_)|((refine FCall.give [] [] (cp) rfl rfl True.intro ⟨Ln.A,True.intro⟩ ?_);rintro _ _ ⟨rfl,rfl⟩;(refine ⟨by first|exact Nat.le_of_ble_eq_true rfl|omega,.inl rfl,?_⟩))|(refine FCall.pure (cH) ⟨Ln.sameB _ rfl,Ln.sameB _ rfl,True.intro⟩ rfl ?_)|(with_reducible refine wP ?_)))
 all_goals (try conv=>whnf)
 refine FLoop.of (ACalls.mono _) (X:=Nat → Nat → Int) (fun x=>[(1,aInts z e m),(2,AI r0),(3,AI c0),(4,.bool false),(5,.ptr 0 0),(11,.own 1 3),(12,AI 3)]) (fun x=>[.box 3 (cSh f s),.rwg 3 1 (fun k _=>match k with|0=>.own 2 s.C|1=>.own 3 s.C|_=>.own 4 s.C),rowF s.C (x 0),rowF s.C (x 1),rowF s.C (x 2)]) (fun x=>Ag s m x) (fun x=>(x r0 c0).toNat) s.A ⟨Ag.self hs m,[0,1,2,3,4],(wO rfl rfl rfl (wV rfl LnB.A (wV rfl (LnB.rwg3 (Ln.ownE rfl rfl) (Ln.ownE rfl rfl) (Ln.ownE rfl rfl) (Nat.le_refl _)) (wV rfl LnB.A (wV rfl LnB.A (wV rfl LnB.A wX)))))),allA⟩ ?_
 intro x hx
 have cW:=refWay_ok f s hs z e m hm r0 c0 hr0 hc0 false x hx.nn (r0) (s.R + c0) ⟨by simp,by simp⟩
 rw [show aMat s.R s.C x = aMat 3 s.C x by rw [hR]] at cW
 have hx40:∀ r c,r < s.R → c < s.C → 0 ≤ x r c ∧ x r c ≤ 40000:=fun r c hr hc=>⟨hx.nn r c hr hc,hx.le hs hr hc⟩
 by_cases hz:x r0 c0 = 0
 ·have h0:r0 = 0 ∨ r0 = 1 ∨ r0 = 2:=by omega
  rcases h0 with rfl|rfl|rfl
  all_goals
   (repeat' ((try conv=>whnf);first|(with_reducible first|refine wT ?_|refine wF ?_|(refine wI (fun hq=>?_) (fun hq=>?_) <;> try simp only [zA,zE,zD,zJ,zB,zI,wK,wL] at hq)|refine wA ?_|refine wB ?_|refine wC ?_|refine wD ?_|refine wE ?_)|((with_reducible refine wN ?_ ?_);focus exact needA)|(with_reducible refine wG ?_)|(with_reducible refine wP ?_)))
   (try conv=>whnf)
   exact ⟨⟨aMat s.R s.C x,[],[],Cut.nil _,by rw [hR];exact Ln.mat (x:=x) (goneB rfl) rfl (Nat.le_refl _) (below3 (Ln.pubE (goneB rfl) rfl (Nat.le_refl _) rfl (fun _ _ _ _=>rfl)) (Ln.pubE (goneB rfl) rfl (Nat.le_refl _) rfl (fun _ _ _ _=>rfl)) (Ln.pubE (goneB rfl) rfl (Nat.le_refl _) rfl (fun _ _ _ _=>rfl))),x,hx,(fun h=>by cases h),fun _=>(fun w hw=>by rw [hz];exact hw.nn _ c0 hr0 hc0),rfl,rfl⟩⟩
 have hpos:0 < x r0 c0:=by have:=hx.nn r0 c0 hr0 hc0;omega
 apply cutG
 ·intro rest
  have h0:r0 = 0 ∨ r0 = 1 ∨ r0 = 2:=by omega
  rcases h0 with h0|h0|h0
  all_goals
   have hp2:=hpos
   rw [h0] at hp2
   (repeat' ((try conv=>whnf);first|(with_reducible refine FIdx.eqN 0 (by omega) (by omega) ?_)|(with_reducible refine FIdx.eqN 1 (by omega) (by omega) ?_)|(with_reducible refine FIdx.eqN 2 (by omega) (by omega) ?_)|(with_reducible first|refine wT ?_|refine wF ?_|(refine wI (fun hq=>?_) (fun hq=>?_) <;> try simp only [zA,zE,zD,zJ,zB,zI,wK,wL] at hq)|refine wA ?_|refine wB ?_|refine wC ?_|refine wD ?_|refine wE ?_)|((with_reducible refine wN ?_ ?_);focus exact needA)|(with_reducible refine wG ?_)|(with_reducible refine wP ?_)))
   all_goals (try conv=>whnf)
   all_goals exact FWk.of [(1,aInts z e m),(2,AI r0),(3,AI c0),(4,.bool false),(5,.ptr 0 0),(11,.own 1 3),(12,AI 3)] [.box 3 (cSh f s),.rwg 3 1 (fun k _=>match k with|0=>.own 2 s.C|1=>.own 3 s.C|_=>.own 4 s.C),rowF s.C (x 0),rowF s.C (x 1),rowF s.C (x 2)] [0,1,2,3,4] (wO rfl rfl rfl (wV rfl LnB.A (wV rfl (LnB.rwg3 (Ln.ownE rfl rfl) (Ln.ownE rfl rfl) (Ln.ownE rfl rfl) (Nat.le_refl _)) (wV rfl LnB.A (wV rfl LnB.A (wV rfl LnB.A wX)))))) allA rest.h
 (repeat' ((try conv=>whnf);first|(with_reducible first|refine wT ?_|refine wF ?_|(refine wI (fun hq=>?_) (fun hq=>?_) <;> try simp only [zA,zE,zD,zJ,zB,zI,wK,wL] at hq)|refine wA ?_|refine wB ?_|refine wC ?_|refine wD ?_|refine wE ?_)|((with_reducible refine wN ?_ ?_);focus exact needA)|(with_reducible refine wG ?_)|(with_reducible refine wP ?_)))
 all_goals (try conv=>whnf)
 refine FCall.give [] [1,2,3,4] cW rfl rfl True.intro ⟨Ln.A,Ln.A,Ln.A,Ln.A,Ln.A,Ln.mat (x:=x) (by decide) rfl (Nat.le_refl _) (below3 (Ln.pubE (by decide) rfl (Nat.le_refl _) rfl (fun _ _ _ _=>rfl)) (Ln.pubE (by decide) rfl (Nat.le_refl _) rfl (fun _ _ _ _=>rfl)) (Ln.pubE (by decide) rfl (Nat.le_refl _) rfl (fun _ _ _ _=>rfl))),True.intro⟩ ?_
 rintro _ _ (⟨rfl,rfl,P,hB,hPt⟩|⟨p,k,C,hl,hto,rfl,rfl⟩)
 ·refine ⟨Nat.zero_le _,.inr ⟨rfl,fun y hy=>by cases hy⟩,?_⟩
  have S:=hB.shut
  (repeat' ((try conv=>whnf);first|(with_reducible first|refine wT ?_|refine wF ?_|(refine wI (fun hq=>?_) (fun hq=>?_) <;> try simp only [zA,zE,zD,zJ,zB,zI,wK,wL] at hq)|refine wA ?_|refine wB ?_|refine wC ?_|refine wD ?_|refine wE ?_)|((with_reducible refine wN ?_ ?_);focus exact needA)|(with_reducible refine wG ?_)|(with_reducible refine wP ?_)))
  all_goals (try conv=>whnf)
  exact ⟨⟨aMat s.R s.C x,[],[],Cut.nil _,by rw [hR];exact Ln.mat (x:=x) (goneB rfl) rfl (Nat.le_refl _) (below3 (Ln.pubE (goneB rfl) rfl (Nat.le_refl _) rfl (fun _ _ _ _=>rfl)) (Ln.pubE (goneB rfl) rfl (Nat.le_refl _) rfl (fun _ _ _ _=>rfl)) (Ln.pubE (goneB rfl) rfl (Nat.le_refl _) rfl (fun _ _ _ _=>rfl))),x,hx,(fun h=>by cases h),fun _=>S.lo_row rfl rfl hr0 hc0 rfl (by have:=shut_col hB;cases hP:P r0 with|nil=>exact (this hP).elim|cons=>rfl) (by simp [hPt]) hx,rfl,rfl⟩⟩
 ·refine ⟨Nat.zero_le _,.inr ⟨True.intro,flat_one (flat_row fun _ _=>True.intro)⟩,?_⟩
  have hl2:p.length - 1 = k + 1:=by omega
  have C:=C
  have hkk:k + 2 ≤ 1000:=by
   have h1:=C.nod
   have h2:(p.map (·.1)).length ≤ (List.range (s.R + s.C)).length:=pig h1 fun y hy=>by
    obtain ⟨q,hq,rfl⟩:=List.mem_map.1 hy
    have:q.1 < s.R + s.C:=C.lt q hq
    exact List.mem_range.2 (by omega)
   rw [List.length_map,List.length_range] at h2
   have:=hs.r4
   omega
  (repeat' ((try conv=>whnf);first|(with_reducible first|refine wT ?_|refine wF ?_|(refine wI (fun hq=>?_) (fun hq=>?_) <;> try simp only [zA,zE,zD,zJ,zB,zI,wK,wL] at hq)|refine wA ?_|refine wB ?_|refine wC ?_|refine wD ?_|refine wE ?_)|((with_reducible refine wN ?_ ?_);focus exact needA)|(with_reducible refine wG ?_)|(with_reducible refine wP ?_)))
  all_goals (try conv=>whnf)
  refine FLoop.of (ACalls.mono _) (X:=Nat) (fun i=>[(1,aInts z e m),(2,AI r0),(3,AI c0),(4,.bool false),(5,.ptr 0 0),(11,.own 1 3),(12,AI 3),(13,.own 5 (k + 2)),(14,AI i)]) (fun i=>[.box 3 (cSh f s),.rwg 3 1 (fun k _=>match k with|0=>.own 2 s.C|1=>.own 3 s.C|_=>.own 4 s.C),rowF s.C (doneF s.R p (k + 1) x i 0),rowF s.C (doneF s.R p (k + 1) x i 1),rowF s.C (doneF s.R p (k + 1) x i 2),rowW p (k + 1)]) (fun i=>i ≤ k + 1) (fun i=>k + 1 - i) 0 ⟨Nat.zero_le _,[0,1,2,3,4,5],(wO rfl rfl rfl (wV rfl LnB.A (wV rfl (LnB.rwg3 (Ln.ownE rfl rfl) (Ln.ownE rfl rfl) (Ln.ownE rfl rfl) (Nat.le_refl _)) (wV rfl (LnB.offR fun j=>doneF_zero _ _ _ _ _ _) (wV rfl (LnB.offR fun j=>doneF_zero _ _ _ _ _ _) (wV rfl (LnB.offR fun j=>doneF_zero _ _ _ _ _ _) (wV rfl LnB.A wX))))))),allA⟩ ?_
  intro i hi
  by_cases hlt:i < k + 1
  ·have hadj:=C.adj (j:=k - i) (by omega)
   have e1:((i:Int) + 1).toNat = i + 1:=by omega
   obtain ⟨a,ha⟩:∃ a,atW p (k + 1 - i) = a:=⟨_,rfl⟩
   obtain ⟨b,hb⟩:∃ b,atW p (k + 1 - (i + 1)) = b:=⟨_,rfl⟩
   have ha2:atW p (k + 1 - 1 - i + 1) = a:=by rw [← ha];congr 1;omega
   have hb2:atW p (k + 1 - 1 - i) = b:=by rw [← hb];congr 1;omega
   rw [show k - i + 1 = k + 1 - 1 - i + 1 by omega,show k - i = k + 1 - 1 - i by omega,ha2,hb2] at hadj
   have haN:a < s.R + s.C:=by rw [← ha];exact atW_lt C (by omega)
   have hbN:b < s.R + s.C:=by rw [← hb];exact atW_lt C (by omega)
   have hal:=(al_d (adj_d hadj).1).1
   rw [← e1] at hb
   rcases hal with ⟨x1,x2⟩|⟨x1,x2⟩
   ·have x1:a < s.R:=x1
    have x2:s.R ≤ b:=x2
    have hstp:=fun r=>done_rc (n:=k + 1) x ha2 hb2 x1 x2 r
    have h0:a = 0 ∨ a = 1 ∨ a = 2:=by omega
    rcases h0 with h0|h0|h0
    ·have hbd:=doneF_bd (R:=s.R) (p:=p) (n:=k + 1) (i:=i) (hx40 0 (((atW p (k + 1 - ((i:Int) + 1).toNat):Nat):Int) - 3).toNat (by omega) (by omega))
     (repeat' ((try conv=>whnf);first|(with_reducible refine FIdx.eqN 0 (by omega) (by omega) ?_)|(with_reducible first|refine wT ?_|refine wF ?_|(refine wI (fun hq=>?_) (fun hq=>?_) <;> try simp only [zA,zE,zD,zJ,zB,zI,wK,wL] at hq)|refine wA ?_|refine wB ?_|refine wC ?_|refine wD ?_|refine wE ?_)|((with_reducible refine wN ?_ ?_);focus exact needA)|(with_reducible refine wG ?_)|(with_reducible refine wP ?_)))
     all_goals (try conv=>whnf)
     exact ⟨⟨i + 1,hlt,by show k + 1 - (i + 1) < k + 1 - i;omega,[0,1,2,3,4,5],(wO rfl rfl rfl (wV rfl LnB.A (wV rfl (LnB.rwg3 (Ln.ownE rfl rfl) (Ln.ownE rfl rfl) (Ln.ownE rfl rfl) (Nat.le_refl _)) (wV rfl (LnB.hitR (hitA (d:=1) (hstp 0) h0.symm (by omega))) (wV rfl (LnB.offR (off1 (hstp 1) (by omega))) (wV rfl (LnB.offR (off1 (hstp 2) (by omega))) (wV rfl LnB.A wX))))))),allA⟩⟩
    ·have hbd:=doneF_bd (R:=s.R) (p:=p) (n:=k + 1) (i:=i) (hx40 1 (((atW p (k + 1 - ((i:Int) + 1).toNat):Nat):Int) - 3).toNat (by omega) (by omega))
     (repeat' ((try conv=>whnf);first|(with_reducible refine FIdx.eqN 1 (by omega) (by omega) ?_)|(with_reducible first|refine wT ?_|refine wF ?_|(refine wI (fun hq=>?_) (fun hq=>?_) <;> try simp only [zA,zE,zD,zJ,zB,zI,wK,wL] at hq)|refine wA ?_|refine wB ?_|refine wC ?_|refine wD ?_|refine wE ?_)|((with_reducible refine wN ?_ ?_);focus exact needA)|(with_reducible refine wG ?_)|(with_reducible refine wP ?_)))
     all_goals (try conv=>whnf)
     exact ⟨⟨i + 1,hlt,by show k + 1 - (i + 1) < k + 1 - i;omega,[0,1,2,3,4,5],(wO rfl rfl rfl (wV rfl LnB.A (wV rfl (LnB.rwg3 (Ln.ownE rfl rfl) (Ln.ownE rfl rfl) (Ln.ownE rfl rfl) (Nat.le_refl _)) (wV rfl (LnB.offR (off1 (hstp 0) (by omega))) (wV rfl (LnB.hitR (hitA (d:=1) (hstp 1) h0.symm (by omega))) (wV rfl (LnB.offR (off1 (hstp 2) (by omega))) (wV rfl LnB.A wX))))))),allA⟩⟩
    ·have hbd:=doneF_bd (R:=s.R) (p:=p) (n:=k + 1) (i:=i) (hx40 2 (((atW p (k + 1 - ((i:Int) + 1).toNat):Nat):Int) - 3).toNat (by omega) (by omega))
     (repeat' ((try conv=>whnf);first|(with_reducible refine FIdx.eqN 2 (by omega) (by omega) ?_)|(with_reducible first|refine wT ?_|refine wF ?_|(refine wI (fun hq=>?_) (fun hq=>?_) <;> try simp only [zA,zE,zD,zJ,zB,zI,wK,wL] at hq)|refine wA ?_|refine wB ?_|refine wC ?_|refine wD ?_|refine wE ?_)|((with_reducible refine wN ?_ ?_);focus exact needA)|(with_reducible refine wG ?_)|(with_reducible refine wP ?_)))
     all_goals (try conv=>whnf)
     exact ⟨⟨i + 1,hlt,by show k + 1 - (i + 1) < k + 1 - i;omega,[0,1,2,3,4,5],(wO rfl rfl rfl (wV rfl LnB.A (wV rfl (LnB.rwg3 (Ln.ownE rfl rfl) (Ln.ownE rfl rfl) (Ln.ownE rfl rfl) (Nat.le_refl _)) (wV rfl (LnB.offR (off1 (hstp 0) (by omega))) (wV rfl (LnB.offR (off1 (hstp 1) (by omega))) (wV rfl (LnB.hitR (hitA (d:=1) (hstp 2) h0.symm (by omega))) (wV rfl LnB.A wX))))))),allA⟩⟩
   ·have x1:s.R ≤ a:=x1
    have x2:b < s.R:=x2
    have hstp:=fun r=>done_cr (n:=k + 1) x ha2 hb2 x1 x2 r
    have h0:b = 0 ∨ b = 1 ∨ b = 2:=by omega
    rcases h0 with h0|h0|h0
    ·have hbd:=doneF_bd (R:=s.R) (p:=p) (n:=k + 1) (i:=i) (hx40 0 (((atW p (k + 1 - i):Nat):Int) - 3).toNat (by omega) (by omega))
     (repeat' ((try conv=>whnf);first|(with_reducible refine FIdx.eqN 0 (by omega) (by omega) ?_)|(with_reducible first|refine wT ?_|refine wF ?_|(refine wI (fun hq=>?_) (fun hq=>?_) <;> try simp only [zA,zE,zD,zJ,zB,zI,wK,wL] at hq)|refine wA ?_|refine wB ?_|refine wC ?_|refine wD ?_|refine wE ?_)|((with_reducible refine wN ?_ ?_);focus exact needA)|(with_reducible refine wG ?_)|(with_reducible refine wP ?_)))
     all_goals (try conv=>whnf)
     exact ⟨⟨i + 1,hlt,by show k + 1 - (i + 1) < k + 1 - i;omega,[0,1,2,3,4,5],(wO rfl rfl rfl (wV rfl LnB.A (wV rfl (LnB.rwg3 (Ln.ownE rfl rfl) (Ln.ownE rfl rfl) (Ln.ownE rfl rfl) (Nat.le_refl _)) (wV rfl (LnB.hitR (hitA (d:=(-1)) (hstp 0) h0.symm (by omega))) (wV rfl (LnB.offR (off1 (hstp 1) (by omega))) (wV rfl (LnB.offR (off1 (hstp 2) (by omega))) (wV rfl LnB.A wX))))))),allA⟩⟩
    ·have hbd:=doneF_bd (R:=s.R) (p:=p) (n:=k + 1) (i:=i) (hx40 1 (((atW p (k + 1 - i):Nat):Int) - 3).toNat (by omega) (by omega))
     (repeat' ((try conv=>whnf);first|(with_reducible refine FIdx.eqN 1 (by omega) (by omega) ?_)|(with_reducible first|refine wT ?_|refine wF ?_|(refine wI (fun hq=>?_) (fun hq=>?_) <;> try simp only [zA,zE,zD,zJ,zB,zI,wK,wL] at hq)|refine wA ?_|refine wB ?_|refine wC ?_|refine wD ?_|refine wE ?_)|((with_reducible refine wN ?_ ?_);focus exact needA)|(with_reducible refine wG ?_)|(with_reducible refine wP ?_)))
     all_goals (try conv=>whnf)
     exact ⟨⟨i + 1,hlt,by show k + 1 - (i + 1) < k + 1 - i;omega,[0,1,2,3,4,5],(wO rfl rfl rfl (wV rfl LnB.A (wV rfl (LnB.rwg3 (Ln.ownE rfl rfl) (Ln.ownE rfl rfl) (Ln.ownE rfl rfl) (Nat.le_refl _)) (wV rfl (LnB.offR (off1 (hstp 0) (by omega))) (wV rfl (LnB.hitR (hitA (d:=(-1)) (hstp 1) h0.symm (by omega))) (wV rfl (LnB.offR (off1 (hstp 2) (by omega))) (wV rfl LnB.A wX))))))),allA⟩⟩
    ·have hbd:=doneF_bd (R:=s.R) (p:=p) (n:=k + 1) (i:=i) (hx40 2 (((atW p (k + 1 - i):Nat):Int) - 3).toNat (by omega) (by omega))
     (repeat' ((try conv=>whnf);first|(with_reducible refine FIdx.eqN 2 (by omega) (by omega) ?_)|(with_reducible first|refine wT ?_|refine wF ?_|(refine wI (fun hq=>?_) (fun hq=>?_) <;> try simp only [zA,zE,zD,zJ,zB,zI,wK,wL] at hq)|refine wA ?_|refine wB ?_|refine wC ?_|refine wD ?_|refine wE ?_)|((with_reducible refine wN ?_ ?_);focus exact needA)|(with_reducible refine wG ?_)|(with_reducible refine wP ?_)))
     all_goals (try conv=>whnf)
     exact ⟨⟨i + 1,hlt,by show k + 1 - (i + 1) < k + 1 - i;omega,[0,1,2,3,4,5],(wO rfl rfl rfl (wV rfl LnB.A (wV rfl (LnB.rwg3 (Ln.ownE rfl rfl) (Ln.ownE rfl rfl) (Ln.ownE rfl rfl) (Nat.le_refl _)) (wV rfl (LnB.offR (off1 (hstp 0) (by omega))) (wV rfl (LnB.offR (off1 (hstp 1) (by omega))) (wV rfl (LnB.hitR (hitA (d:=(-1)) (hstp 2) h0.symm (by omega))) (wV rfl LnB.A wX))))))),allA⟩⟩
  ·have hik:k + 1 = i:=by omega
   subst hik
   have hb0:=doneF_bd (R:=s.R) (p:=p) (n:=k + 1) (i:=k + 1) (hx40 r0 c0 hr0 hc0)
   have hAg:=hx.shift (g:=1) (C.way rfl rfl (down:=true) (t:=s.R + c0) rfl rfl hr0 hto) hr0 hc0 ho (fun _ r c hm'=>by have h1:=C.cap_col rfl hm';have h2:=C.pos;show (1:Int) ≤ x r c;have h3:(p.head C.ne).2 ≤ x r c:=h1;omega) (fun h=>absurd h (by decide)) (by show 0 ≤ x r0 c0 + _;simp;have:=hx.nn r0 c0 hr0 hc0;omega)
   have hat:=shift_at (C.way rfl rfl (down:=true) (t:=s.R + c0) rfl rfl hr0 hto) 1
   have hLe:=lastF_eq (R:=s.R) (p:=p) (x:=x) (r0:=r0) (c0:=c0) (down:=true) hl2
   rw [show (fun r c=>x r c + wayD true (nds (gRef s m r0 c0 x).R p) (gRef s m r0 c0 x).r0 (gRef s m r0 c0 x).c0 1 r c) = lastF s.R p (k + 1) x r0 c0 (if true = true then -1 else 1) from hLe.symm] at hAg
   have hL0:lastF s.R p (k + 1) x r0 c0 (-1) r0 c0 = x r0 c0 + -1:=by
    have:=congrFun (congrFun hLe r0) c0
    rw [show lastF s.R p (k + 1) x r0 c0 (-1) = lastF s.R p (k + 1) x r0 c0 (if true = true then -1 else 1) from rfl,this]
    show x r0 c0 + wayD true (nds s.R p) r0 c0 1 r0 c0 = _
    have hat2:wayD true (nds s.R p) r0 c0 1 r0 c0 = 1 * (if true = true then -1 else 1):=hat
    rw [hat2];rfl
   have hle40:=hAg.le hs hr0 hc0
   rw [show lastF s.R p (k + 1) x r0 c0 (if true = true then -1 else 1) r0 c0 = x r0 c0 + -1 from hL0] at hle40
   have hlf:∀ r j,lastF s.R p (k + 1) x r0 c0 (-1) r j = if r = r0 ∧ j = c0 then doneF s.R p (k + 1) x (k + 1) r j + -1 else doneF s.R p (k + 1) x (k + 1) r j:=fun r j=>rfl
   have h0:r0 = 0 ∨ r0 = 1 ∨ r0 = 2:=by omega
   rcases h0 with rfl|rfl|rfl
   ·(repeat' ((try conv=>whnf);first|(with_reducible first|refine wT ?_|refine wF ?_|(refine wI (fun hq=>?_) (fun hq=>?_) <;> try simp only [zA,zE,zD,zJ,zB,zI,wK,wL] at hq)|refine wA ?_|refine wB ?_|refine wC ?_|refine wD ?_|refine wE ?_)|((with_reducible refine wN ?_ ?_);focus exact needA)|(with_reducible refine wG ?_)|(with_reducible refine wP ?_)))
    all_goals (try conv=>whnf)
    exact ⟨⟨lastF s.R p (k + 1) x 0 c0 (-1),hAg,by show (_:Int).toNat < (_:Int).toNat;rw [hL0];have:=hx.nn 0 c0 hr0 hc0;omega,[0,1,2,3,4],(wO rfl rfl rfl (wV rfl LnB.A (wV rfl (LnB.rwg3 (Ln.ownE rfl rfl) (Ln.ownE rfl rfl) (Ln.ownE rfl rfl) (Nat.le_refl _)) (wV rfl (LnB.hitR (hitA (d:=-1) (hlf 0) rfl rfl)) (wV rfl (LnB.offR (off1 (hlf 1) (by decide))) (wV rfl (LnB.offR (off1 (hlf 2) (by decide))) wX)))))),allA⟩⟩
   ·(repeat' ((try conv=>whnf);first|(with_reducible first|refine wT ?_|refine wF ?_|(refine wI (fun hq=>?_) (fun hq=>?_) <;> try simp only [zA,zE,zD,zJ,zB,zI,wK,wL] at hq)|refine wA ?_|refine wB ?_|refine wC ?_|refine wD ?_|refine wE ?_)|((with_reducible refine wN ?_ ?_);focus exact needA)|(with_reducible refine wG ?_)|(with_reducible refine wP ?_)))
    all_goals (try conv=>whnf)
    exact ⟨⟨lastF s.R p (k + 1) x 1 c0 (-1),hAg,by show (_:Int).toNat < (_:Int).toNat;rw [hL0];have:=hx.nn 1 c0 hr0 hc0;omega,[0,1,2,3,4],(wO rfl rfl rfl (wV rfl LnB.A (wV rfl (LnB.rwg3 (Ln.ownE rfl rfl) (Ln.ownE rfl rfl) (Ln.ownE rfl rfl) (Nat.le_refl _)) (wV rfl (LnB.offR (off1 (hlf 0) (by decide))) (wV rfl (LnB.hitR (hitA (d:=-1) (hlf 1) rfl rfl)) (wV rfl (LnB.offR (off1 (hlf 2) (by decide))) wX)))))),allA⟩⟩
   ·(repeat' ((try conv=>whnf);first|(with_reducible first|refine wT ?_|refine wF ?_|(refine wI (fun hq=>?_) (fun hq=>?_) <;> try simp only [zA,zE,zD,zJ,zB,zI,wK,wL] at hq)|refine wA ?_|refine wB ?_|refine wC ?_|refine wD ?_|refine wE ?_)|((with_reducible refine wN ?_ ?_);focus exact needA)|(with_reducible refine wG ?_)|(with_reducible refine wP ?_)))
    all_goals (try conv=>whnf)
    exact ⟨⟨lastF s.R p (k + 1) x 2 c0 (-1),hAg,by show (_:Int).toNat < (_:Int).toNat;rw [hL0];have:=hx.nn 2 c0 hr0 hc0;omega,[0,1,2,3,4],(wO rfl rfl rfl (wV rfl LnB.A (wV rfl (LnB.rwg3 (Ln.ownE rfl rfl) (Ln.ownE rfl rfl) (Ln.ownE rfl rfl) (Nat.le_refl _)) (wV rfl (LnB.offR (off1 (hlf 0) (by decide))) (wV rfl (LnB.offR (off1 (hlf 1) (by decide))) (wV rfl (LnB.hitR (hitA (d:=-1) (hlf 2) rfl rfl)) wX)))))),allA⟩⟩
end Go.Proofs.Ytlffjnmbpoemnaa

namespace Go.Proofs.Ytlffjnmbpoemnaa
open Go.RowKit

set_option maxHeartbeats 16000000
set_option maxRecDepth 100000
theorem movedN1 (f:ShF) (s:Sheet) (hs:SheetOk s) (z e:Bool) (m:List Int) (hm:MaskOk s m) (r0 c0:Nat) (hr0:r0 < s.R) (hc0:c0 < s.C) (ho:outS m r0 c0 = false) (up:Bool) (hR:s.R = 1):ACall Try.prog 77 [aSh f s,aInts z e m,AI r0,AI c0,.bool up] [] (fun v h=>MovedOut s m r0 c0 up v h):=by
 have c4:=hs.c4
 have hml:=hm.len
 have hR':s.amounts.length = 1:=hR
 have cp:=copyOwn_ok f.za f.ea f.rz f.re s.amounts s.C (by omega) ⟨hs.c1,hs.c4⟩ (fun k hk=>hs.row k hk)
 rw [hR'] at cp
 have cH:=has_int (m.getD r0 0) c0 (hm.bd r0 hr0).1 (by omega)
 rw [Int.toNat_natCast,show (m.getD r0 0).toNat.testBit c0 = false from ho] at cH
 (refine fcall_of mixed Try.func77 rfl (by decide) (hs:={}) ?k (ac:=?ac) ?c (rs:=?rs) ?r ?l ?H;(case k=>kernel_rfl);(case c=>(conv=>(lhs;cbv)));(case r=>(conv=>(lhs;cbv)));(case l=>exact Nat.le_of_ble_eq_true rfl))
 (repeat' ((try conv=>whnf);first|(with_reducible first|refine wT ?_|refine wF ?_|(refine wI (fun hq=>?_) (fun hq=>?_) <;> try simp only [zA,zE,zD,zJ,zB,zI,wK,wL] at hq)|refine wA ?_|refine wB ?_|refine wC ?_|refine wD ?_|refine wE ?_)|((with_reducible refine wN ?_ ?_);focus exact needA)|(with_reducible refine wG ?_)|((refine FCall.give [] [] (cp) rfl rfl True.intro ⟨Ln.A,True.intro⟩ ?_);rintro _ _ ⟨rfl,rfl⟩;(refine ⟨by first|exact Nat.le_of_ble_eq_true rfl|omega,.inl rfl,?_⟩))|(refine FCall.pure (cH) ⟨Ln.sameB _ rfl,Ln.sameB _ rfl,True.intro⟩ rfl ?_)|(with_reducible refine wP ?_)))
 all_goals (try conv=>whnf)
 exact ⟨⟨aMat s.R s.C s.A,[],[],Cut.nil _,by rw [hR];exact Ln.mat (x:=s.A) (goneB rfl) rfl (Nat.le_refl _) (below1 (Ln.pubE (goneB rfl) rfl (Nat.le_refl _) rfl (fun _ _ _ _=>rfl))),s.A,Ag.self hs m,fun _ w hw=>by rw [hw.un r0 c0 hr0 hc0 ho];exact Int.le_refl _,fun _ w hw=>by rw [hw.un r0 c0 hr0 hc0 ho];exact Int.le_refl _,rfl,rfl⟩⟩
theorem movedN2 (f:ShF) (s:Sheet) (hs:SheetOk s) (z e:Bool) (m:List Int) (hm:MaskOk s m) (r0 c0:Nat) (hr0:r0 < s.R) (hc0:c0 < s.C) (ho:outS m r0 c0 = false) (up:Bool) (hR:s.R = 2):ACall Try.prog 77 [aSh f s,aInts z e m,AI r0,AI c0,.bool up] [] (fun v h=>MovedOut s m r0 c0 up v h):=by
 have c4:=hs.c4
 have hml:=hm.len
 have hR':s.amounts.length = 2:=hR
 have cp:=copyOwn_ok f.za f.ea f.rz f.re s.amounts s.C (by omega) ⟨hs.c1,hs.c4⟩ (fun k hk=>hs.row k hk)
 rw [hR'] at cp
 have cH:=has_int (m.getD r0 0) c0 (hm.bd r0 hr0).1 (by omega)
 rw [Int.toNat_natCast,show (m.getD r0 0).toNat.testBit c0 = false from ho] at cH
 (refine fcall_of mixed Try.func77 rfl (by decide) (hs:={}) ?k (ac:=?ac) ?c (rs:=?rs) ?r ?l ?H;(case k=>kernel_rfl);(case c=>(conv=>(lhs;cbv)));(case r=>(conv=>(lhs;cbv)));(case l=>exact Nat.le_of_ble_eq_true rfl))
 (repeat' ((try conv=>whnf);first|(with_reducible first|refine wT ?_|refine wF ?_|(refine wI (fun hq=>?_) (fun hq=>?_) <;> try simp only [zA,zE,zD,zJ,zB,zI,wK,wL] at hq)|refine wA ?_|refine wB ?_|refine wC ?_|refine wD ?_|refine wE ?_)|((with_reducible refine wN ?_ ?_);focus exact needA)|(with_reducible refine wG ?_)|((refine FCall.give [] [] (cp) rfl rfl True.intro ⟨Ln.A,True.intro⟩ ?_);rintro _ _ ⟨rfl,rfl⟩;(refine ⟨by first|exact Nat.le_of_ble_eq_true rfl|omega,.inl rfl,?_⟩))|(refine FCall.pure (cH) ⟨Ln.sameB _ rfl,Ln.sameB _ rfl,True.intro⟩ rfl ?_)|(with_reducible refine wP ?_)))
 all_goals (try conv=>whnf)
 exact ⟨⟨aMat s.R s.C s.A,[],[],Cut.nil _,by rw [hR];exact Ln.mat (x:=s.A) (goneB rfl) rfl (Nat.le_refl _) (below2 (Ln.pubE (goneB rfl) rfl (Nat.le_refl _) rfl (fun _ _ _ _=>rfl)) (Ln.pubE (goneB rfl) rfl (Nat.le_refl _) rfl (fun _ _ _ _=>rfl))),s.A,Ag.self hs m,fun _ w hw=>by rw [hw.un r0 c0 hr0 hc0 ho];exact Int.le_refl _,fun _ w hw=>by rw [hw.un r0 c0 hr0 hc0 ho];exact Int.le_refl _,rfl,rfl⟩⟩
theorem movedN3 (f:ShF) (s:Sheet) (hs:SheetOk s) (z e:Bool) (m:List Int) (hm:MaskOk s m) (r0 c0:Nat) (hr0:r0 < s.R) (hc0:c0 < s.C) (ho:outS m r0 c0 = false) (up:Bool) (hR:s.R = 3):ACall Try.prog 77 [aSh f s,aInts z e m,AI r0,AI c0,.bool up] [] (fun v h=>MovedOut s m r0 c0 up v h):=by
 have c4:=hs.c4
 have hml:=hm.len
 have hR':s.amounts.length = 3:=hR
 have cp:=copyOwn_ok f.za f.ea f.rz f.re s.amounts s.C (by omega) ⟨hs.c1,hs.c4⟩ (fun k hk=>hs.row k hk)
 rw [hR'] at cp
 have cH:=has_int (m.getD r0 0) c0 (hm.bd r0 hr0).1 (by omega)
 rw [Int.toNat_natCast,show (m.getD r0 0).toNat.testBit c0 = false from ho] at cH
 (refine fcall_of mixed Try.func77 rfl (by decide) (hs:={}) ?k (ac:=?ac) ?c (rs:=?rs) ?r ?l ?H;(case k=>kernel_rfl);(case c=>(conv=>(lhs;cbv)));(case r=>(conv=>(lhs;cbv)));(case l=>exact Nat.le_of_ble_eq_true rfl))
 (repeat' ((try conv=>whnf);first|(with_reducible first|refine wT ?_|refine wF ?_|(refine wI (fun hq=>?_) (fun hq=>?_) <;> try simp only [zA,zE,zD,zJ,zB,zI,wK,wL] at hq)|refine wA ?_|refine wB ?_|refine wC ?_|refine wD ?_|refine wE ?_)|((with_reducible refine wN ?_ ?_);focus exact needA)|(with_reducible refine wG ?_)|((refine FCall.give [] [] (cp) rfl rfl True.intro ⟨Ln.A,True.intro⟩ ?_);rintro _ _ ⟨rfl,rfl⟩;(refine ⟨by first|exact Nat.le_of_ble_eq_true rfl|omega,.inl rfl,?_⟩))|(refine FCall.pure (cH) ⟨Ln.sameB _ rfl,Ln.sameB _ rfl,True.intro⟩ rfl ?_)|(with_reducible refine wP ?_)))
 all_goals (try conv=>whnf)
 exact ⟨⟨aMat s.R s.C s.A,[],[],Cut.nil _,by rw [hR];exact Ln.mat (x:=s.A) (goneB rfl) rfl (Nat.le_refl _) (below3 (Ln.pubE (goneB rfl) rfl (Nat.le_refl _) rfl (fun _ _ _ _=>rfl)) (Ln.pubE (goneB rfl) rfl (Nat.le_refl _) rfl (fun _ _ _ _=>rfl)) (Ln.pubE (goneB rfl) rfl (Nat.le_refl _) rfl (fun _ _ _ _=>rfl))),s.A,Ag.self hs m,fun _ w hw=>by rw [hw.un r0 c0 hr0 hc0 ho];exact Int.le_refl _,fun _ w hw=>by rw [hw.un r0 c0 hr0 hc0 ho];exact Int.le_refl _,rfl,rfl⟩⟩
theorem moved_any (f:ShF) (s:Sheet) (hs:SheetOk s) (h3:s.R ≤ 3) (z e:Bool) (m:List Int) (hm:MaskOk s m) (r0 c0:Nat) (hr0:r0 < s.R) (hc0:c0 < s.C) (up:Bool):ACall Try.prog 77 [aSh f s,aInts z e m,AI r0,AI c0,.bool up] [] (fun v h=>MovedOut s m r0 c0 up v h):=by
 have r1:=hs.r1
 have hR:s.R = 1 ∨ s.R = 2 ∨ s.R = 3:=by omega
 cases ho:outS m r0 c0
 ·rcases hR with h|h|h
  ·exact movedN1 f s hs z e m hm r0 c0 hr0 hc0 ho up h
  ·exact movedN2 f s hs z e m hm r0 c0 hr0 hc0 ho up h
  ·exact movedN3 f s hs z e m hm r0 c0 hr0 hc0 ho up h
 ·cases up
  ·rcases hR with h|h|h
   ·exact moved1D f s hs z e m hm r0 c0 hr0 hc0 ho h
   ·exact moved2D f s hs z e m hm r0 c0 hr0 hc0 ho h
   ·exact moved3D f s hs z e m hm r0 c0 hr0 hc0 ho h
  ·rcases hR with h|h|h
   ·exact moved1U f s hs z e m hm r0 c0 hr0 hc0 ho h
   ·exact moved2U f s hs z e m hm r0 c0 hr0 hc0 ho h
   ·exact moved3U f s hs z e m hm r0 c0 hr0 hc0 ho h
theorem rspan_ok (f:ShF) (s:Sheet) (hs:SheetOk s) (h3:s.R ≤ 3) (z e:Bool) (m:List Int) (hm:MaskOk s m) (r0 c0:Nat) (hr0:r0 < s.R) (hc0:c0 < s.C):ACall Try.prog 62 [aSh f s,aInts z e m,AI r0,AI c0] [] (fun v h=>v = spanA (loV s m r0 c0) (hiV s m r0 c0) ∧ h = []):=by
 have c4:=hs.c4
 (refine fcall_of mixed Try.func62 rfl (by decide) (hs:={ ord:=[(1,[(0,[]),(1,[]),(2,[]),(3,[]),(5,[]),(8,[]),(11,[]),(12,[]),(13,[]),(14,[]),(16,[]),(19,[]),(4,[11]),(6,[]),(7,[]),(9,[]),(10,[]),(15,[7,10]),(17,[]),(18,[]),(20,[]),(21,[]),(22,[]),(23,[])])] }) ?k (ac:=?ac) ?c (rs:=?rs) ?r ?l ?H;(case k=>kernel_rfl);(case c=>(conv=>(lhs;cbv)));(case r=>(conv=>(lhs;cbv)));(case l=>exact Nat.le_of_ble_eq_true rfl))
 (repeat' ((try conv=>whnf);first|(with_reducible first|refine wT ?_|refine wF ?_|(refine wI (fun hq=>?_) (fun hq=>?_) <;> try simp only [zA,zE,zD,zJ,zB,zI,wK,wL] at hq)|refine wA ?_|refine wB ?_|refine wC ?_|refine wD ?_|refine wE ?_)|((with_reducible refine wN ?_ ?_);focus exact needA)|(with_reducible refine wG ?_)|(with_reducible refine wP ?_)))
 all_goals (try conv=>whnf)
 refine FCall.give [] [] (moved_any f s hs h3 z e m hm r0 c0 hr0 hc0 false) rfl rfl True.intro ⟨Ln.A,Ln.A,Ln.A,Ln.A,Ln.A,True.intro⟩ ?_
 rintro _ _ ⟨y,hy,_,hlo,rfl,rfl⟩
 refine ⟨Nat.zero_le _,.inl rfl,?_⟩
 (repeat' ((try conv=>whnf);first|(with_reducible first|refine wT ?_|refine wF ?_|(refine wI (fun hq=>?_) (fun hq=>?_) <;> try simp only [zA,zE,zD,zJ,zB,zI,wK,wL] at hq)|refine wA ?_|refine wB ?_|refine wC ?_|refine wD ?_|refine wE ?_)|((with_reducible refine wN ?_ ?_);focus exact needA)|(with_reducible refine wG ?_)|(with_reducible refine wP ?_)))
 all_goals (try conv=>whnf)
 refine FCall.give [] [] (moved_any f s hs h3 z e m hm r0 c0 hr0 hc0 true) rfl rfl True.intro ⟨Ln.A,Ln.A,Ln.A,Ln.A,Ln.A,True.intro⟩ ?_
 rintro _ _ ⟨x,hx,hhi,_,rfl,rfl⟩
 refine ⟨Nat.zero_le _,.inl rfl,?_⟩
 rw [IsLo.eq ⟨⟨y,hy,rfl⟩,hlo rfl⟩,IsHi.eq ⟨⟨x,hx,rfl⟩,hhi rfl⟩]
 (repeat' ((try conv=>whnf);first|(with_reducible first|refine wT ?_|refine wF ?_|(refine wI (fun hq=>?_) (fun hq=>?_) <;> try simp only [zA,zE,zD,zJ,zB,zI,wK,wL] at hq)|refine wA ?_|refine wB ?_|refine wC ?_|refine wD ?_|refine wE ?_)|((with_reducible refine wN ?_ ?_);focus exact needA)|(with_reducible refine wG ?_)|(with_reducible refine wP ?_)))
 all_goals (try conv=>whnf)
 (refine ⟨⟨_,[],[],Cut.nil _,Ln.sameB _ rfl,?_,rfl⟩⟩)
 rfl
theorem rRange_ok (f:ShF) (s:Sheet) (hn:Near s) (h3:s.ok = true → s.R ≤ 3) (z e:Bool) (m:List Int) (hm:m.length ≤ 1000) (r c:Int):ACall Try.prog 34 [aSh f s,aInts z e m,AI r,AI c] [] (fun v h=>v = rangeV s m r c ∧ h = []):=by
 have cP:=refCheckP_ok f s hn z e m hm r c
 (refine fcall_of mixed Try.func34 rfl (by decide) (hs:={}) ?k (ac:=?ac) ?c (rs:=?rs) ?r ?l ?H;(case k=>kernel_rfl);(case c=>(conv=>(lhs;cbv)));(case r=>(conv=>(lhs;cbv)));(case l=>exact Nat.le_of_ble_eq_true rfl))
 by_cases h0:checkP s m r c = 0
 ·have hp:=checkP_0 h0
  obtain ⟨r',rfl⟩:=Int.eq_ofNat_of_zero_le hp.r.1
  obtain ⟨c',rfl⟩:=Int.eq_ofNat_of_zero_le hp.c.1
  have cS:=rspan_ok f s hp.sh (h3 hp.ok) z e m hp.m r' c' (by have:=hp.r;omega) (by have:=hp.c;omega)
  rw [show rangeV s m r' c' = .tup 2 (ofL [spanA (loV s m r' c') (hiV s m r' c'),AI 0]) from by unfold rangeV;rw [if_pos h0,h0];rfl]
  rw [h0] at cP
  (repeat' ((try conv=>whnf);first|(with_reducible first|refine wT ?_|refine wF ?_|(refine wI (fun hq=>?_) (fun hq=>?_) <;> try simp only [zA,zE,zD,zJ,zB,zI,wK,wL] at hq)|refine wA ?_|refine wB ?_|refine wC ?_|refine wD ?_|refine wE ?_)|((with_reducible refine wN ?_ ?_);focus exact needA)|(with_reducible refine wG ?_)|(refine FCall.pure (cP) ⟨Ln.sameB _ rfl,Ln.sameB _ rfl,Ln.sameB _ rfl,Ln.sameB _ rfl,True.intro⟩ rfl ?_)|(refine FCall.pure (cS) ⟨Ln.sameB _ rfl,Ln.sameB _ rfl,Ln.sameB _ rfl,Ln.sameB _ rfl,True.intro⟩ rfl ?_)|(with_reducible refine wP ?_)))
  all_goals (try conv=>whnf)
  all_goals ((refine ⟨⟨_,[],[],Cut.nil _,Ln.sameB _ rfl,?_,rfl⟩⟩);rfl)
 ·rw [show rangeV s m r c = .tup 2 (ofL [spanA 0 0,AI (checkP s m r c)]) from by unfold rangeV;rw [if_neg h0]]
  (repeat' ((try conv=>whnf);first|(with_reducible first|refine wT ?_|refine wF ?_|(refine wI (fun hq=>?_) (fun hq=>?_) <;> try simp only [zA,zE,zD,zJ,zB,zI,wK,wL] at hq)|refine wA ?_|refine wB ?_|refine wC ?_|refine wD ?_|refine wE ?_)|((with_reducible refine wN ?_ ?_);focus exact needA)|(with_reducible refine wG ?_)|(refine FCall.pure (cP) ⟨Ln.sameB _ rfl,Ln.sameB _ rfl,Ln.sameB _ rfl,Ln.sameB _ rfl,True.intro⟩ rfl ?_)|(with_reducible refine wP ?_)))
  all_goals (try conv=>whnf)
  all_goals ((refine ⟨⟨_,[],[],Cut.nil _,Ln.sameB _ rfl,?_,rfl⟩⟩);rfl)
theorem rIsSafe_ok (f:ShF) (s:Sheet) (hs:SheetOk s) (h3:s.R ≤ 3) (z e:Bool) (m:List Int) (hm:MaskOk s m):ACall Try.prog 63 [aSh f s,aInts z e m] [] (fun v h=>v = .bool (safeS s m) ∧ h = []):=by
 have r4:=hs.r4
 have c4:=hs.c4
 have hR:s.R = s.amounts.length:=rfl
 have hml:=hm.len
 have hsl:=hs.sec.len
 have gap:=hs.gap
 have cC:=columns_ok f s (by have:=hs.r1;omega)
 (refine fcall_of mixed Try.func63 rfl (by decide) (hs:={}) ?k (ac:=?ac) ?c (rs:=?rs) ?r ?l ?H;(case k=>kernel_rfl);(case c=>(conv=>(lhs;cbv)));(case r=>(conv=>(lhs;cbv)));(case l=>exact Nat.le_of_ble_eq_true rfl))
 (repeat' ((try conv=>whnf);first|(with_reducible first|refine wT ?_|refine wF ?_|(refine wI (fun hq=>?_) (fun hq=>?_) <;> try simp only [zA,zE,zD,zJ,zB,zI,wK,wL] at hq)|refine wA ?_|refine wB ?_|refine wC ?_|refine wD ?_|refine wE ?_)|((with_reducible refine wN ?_ ?_);focus exact needA)|(with_reducible refine wG ?_)|(with_reducible refine wP ?_)))
 all_goals (try conv=>whnf)
 refine FLoop.of (ACalls.mono _) (X:=Nat) (fun r=>[(1,aInts z e m),(2,.ptr 0 0),(5,AI r)]) (fun r=>[.box 3 (cSh f s)]) (fun r=>r ≤ s.R ∧ ∀ k,k < r → rowSafe s m k = true) (fun r=>s.R - r) 0 ⟨⟨Nat.zero_le _,fun k hk=>absurd hk (Nat.not_lt_zero k)⟩,[0],Cut.A,allA⟩ ?_
 rintro r ⟨hr,hup⟩
 by_cases hlt:r < s.R
 ·(repeat' ((try conv=>whnf);first|(with_reducible first|refine wT ?_|refine wF ?_|(refine wI (fun hq=>?_) (fun hq=>?_) <;> try simp only [zA,zE,zD,zJ,zB,zI,wK,wL] at hq)|refine wA ?_|refine wB ?_|refine wC ?_|refine wD ?_|refine wE ?_)|((with_reducible refine wN ?_ ?_);focus exact needA)|(with_reducible refine wG ?_)|(with_reducible refine wP ?_)))
  all_goals (try conv=>whnf)
  refine FLoop.of (ACalls.mono _) (X:=Nat) (fun c=>[(1,aInts z e m),(2,.ptr 0 0),(5,AI r),(6,AI c)]) (fun c=>[.box 3 (cSh f s)]) (fun c=>c ≤ s.C ∧ ∀ k,k < c → cellSafe s m r k = true) (fun c=>s.C - c) 0 ⟨⟨Nat.zero_le _,fun k hk=>absurd hk (Nat.not_lt_zero k)⟩,[0],Cut.A,allA⟩ ?_
  rintro c ⟨hc,hupc⟩
  by_cases hltc:c < s.C
  ·have noc:cellSafe s m r c = false → safeS s m = false:=fun hx=>by unfold safeS;exact rall_no hlt (by unfold rowSafe;exact rall_no hltc hx)
   have cS:=has_int (s.secret.getD r 0) c (hs.sec.bd r hlt).1 (by omega)
   have cM:=has_int (m.getD r 0) c (hm.bd r hlt).1 (by omega)
   rw [Int.toNat_natCast] at cS cM
   have cP:=rspan_ok f s hs h3 z e m hm r c hlt hltc
   have hle:=lo_le hs m hlt hltc
   cases o1:outS s.secret r c
   ·rw [show (s.secret.getD r 0).toNat.testBit c = false from o1] at cS
    (repeat' ((try conv=>whnf);first|(with_reducible first|refine wT ?_|refine wF ?_|(refine wI (fun hq=>?_) (fun hq=>?_) <;> try simp only [zA,zE,zD,zJ,zB,zI,wK,wL] at hq)|refine wA ?_|refine wB ?_|refine wC ?_|refine wD ?_|refine wE ?_)|((with_reducible refine wN ?_ ?_);focus exact needA)|(with_reducible refine wG ?_)|(refine FCall.pure (cC) ⟨Ln.sameB _ rfl,True.intro⟩ rfl ?_)|(refine FCall.pure (cS) ⟨Ln.sameB _ rfl,Ln.sameB _ rfl,True.intro⟩ rfl ?_)|(with_reducible refine wP ?_)))
    all_goals (try conv=>whnf)
    all_goals exact ⟨⟨c + 1,⟨hltc,below_step hupc (by unfold cellSafe;rw [o1];rfl)⟩,by show s.C - (c + 1) < s.C - c;omega,[0],Cut.A,allA⟩⟩
   ·rw [show (s.secret.getD r 0).toNat.testBit c = true from o1] at cS
    cases o2:outS m r c
    ·rw [show (m.getD r 0).toNat.testBit c = false from o2] at cM
     rw [noc (by unfold cellSafe;rw [o1,o2];rfl)]
     (repeat' ((try conv=>whnf);first|(with_reducible first|refine wT ?_|refine wF ?_|(refine wI (fun hq=>?_) (fun hq=>?_) <;> try simp only [zA,zE,zD,zJ,zB,zI,wK,wL] at hq)|refine wA ?_|refine wB ?_|refine wC ?_|refine wD ?_|refine wE ?_)|((with_reducible refine wN ?_ ?_);focus exact needA)|(with_reducible refine wG ?_)|(refine FCall.pure (cC) ⟨Ln.sameB _ rfl,True.intro⟩ rfl ?_)|(refine FCall.pure (cS) ⟨Ln.sameB _ rfl,Ln.sameB _ rfl,True.intro⟩ rfl ?_)|(refine FCall.pure (cP) ⟨Ln.sameB _ rfl,Ln.sameB _ rfl,Ln.sameB _ rfl,Ln.sameB _ rfl,True.intro⟩ rfl ?_)|(refine FCall.pure (cM) ⟨Ln.sameB _ rfl,Ln.sameB _ rfl,True.intro⟩ rfl ?_)|(with_reducible refine wP ?_)))
     all_goals (try conv=>whnf)
     all_goals ((refine ⟨⟨_,[],[],Cut.nil _,Ln.sameB _ rfl,?_,rfl⟩⟩);rfl)
    ·rw [show (m.getD r 0).toNat.testBit c = true from o2] at cM
     by_cases hg:s.gap ≤ hiV s m r c - loV s m r c
     ·(repeat' ((try conv=>whnf);first|(with_reducible first|refine wT ?_|refine wF ?_|(refine wI (fun hq=>?_) (fun hq=>?_) <;> try simp only [zA,zE,zD,zJ,zB,zI,wK,wL] at hq)|refine wA ?_|refine wB ?_|refine wC ?_|refine wD ?_|refine wE ?_)|((with_reducible refine wN ?_ ?_);focus exact needA)|(with_reducible refine wG ?_)|(refine FCall.pure (cC) ⟨Ln.sameB _ rfl,True.intro⟩ rfl ?_)|(refine FCall.pure (cS) ⟨Ln.sameB _ rfl,Ln.sameB _ rfl,True.intro⟩ rfl ?_)|(refine FCall.pure (cP) ⟨Ln.sameB _ rfl,Ln.sameB _ rfl,Ln.sameB _ rfl,Ln.sameB _ rfl,True.intro⟩ rfl ?_)|(refine FCall.pure (cM) ⟨Ln.sameB _ rfl,Ln.sameB _ rfl,True.intro⟩ rfl ?_)|(with_reducible refine wP ?_)))
      all_goals (try conv=>whnf)
      all_goals exact ⟨⟨c + 1,⟨hltc,below_step hupc (by unfold cellSafe;rw [o1,o2,decide_eq_true hg];rfl)⟩,by show s.C - (c + 1) < s.C - c;omega,[0],Cut.A,allA⟩⟩
     ·rw [noc (by unfold cellSafe;rw [o1,o2,decide_eq_false hg];rfl)]
      (repeat' ((try conv=>whnf);first|(with_reducible first|refine wT ?_|refine wF ?_|(refine wI (fun hq=>?_) (fun hq=>?_) <;> try simp only [zA,zE,zD,zJ,zB,zI,wK,wL] at hq)|refine wA ?_|refine wB ?_|refine wC ?_|refine wD ?_|refine wE ?_)|((with_reducible refine wN ?_ ?_);focus exact needA)|(with_reducible refine wG ?_)|(refine FCall.pure (cC) ⟨Ln.sameB _ rfl,True.intro⟩ rfl ?_)|(refine FCall.pure (cS) ⟨Ln.sameB _ rfl,Ln.sameB _ rfl,True.intro⟩ rfl ?_)|(refine FCall.pure (cP) ⟨Ln.sameB _ rfl,Ln.sameB _ rfl,Ln.sameB _ rfl,Ln.sameB _ rfl,True.intro⟩ rfl ?_)|(refine FCall.pure (cM) ⟨Ln.sameB _ rfl,Ln.sameB _ rfl,True.intro⟩ rfl ?_)|(with_reducible refine wP ?_)))
      all_goals (try conv=>whnf)
      all_goals ((refine ⟨⟨_,[],[],Cut.nil _,Ln.sameB _ rfl,?_,rfl⟩⟩);rfl)
  ·have hcE:s.C = c:=by omega
   (repeat' ((try conv=>whnf);first|(with_reducible first|refine wT ?_|refine wF ?_|(refine wI (fun hq=>?_) (fun hq=>?_) <;> try simp only [zA,zE,zD,zJ,zB,zI,wK,wL] at hq)|refine wA ?_|refine wB ?_|refine wC ?_|refine wD ?_|refine wE ?_)|((with_reducible refine wN ?_ ?_);focus exact needA)|(with_reducible refine wG ?_)|(refine FCall.pure (cC) ⟨Ln.sameB _ rfl,True.intro⟩ rfl ?_)|(with_reducible refine wP ?_)))
   all_goals (try conv=>whnf)
   all_goals exact ⟨⟨r + 1,⟨hlt,below_step hup (by unfold rowSafe;rw [hcE];exact rall_yes hupc)⟩,by show s.R - (r + 1) < s.R - r;omega,[0],Cut.A,allA⟩⟩
 ·have hrE:s.R = r:=by omega
  rw [show safeS s m = true from by unfold safeS;rw [hrE];exact rall_yes hup]
  (repeat' ((try conv=>whnf);first|(with_reducible first|refine wT ?_|refine wF ?_|(refine wI (fun hq=>?_) (fun hq=>?_) <;> try simp only [zA,zE,zD,zJ,zB,zI,wK,wL] at hq)|refine wA ?_|refine wB ?_|refine wC ?_|refine wD ?_|refine wE ?_)|((with_reducible refine wN ?_ ?_);focus exact needA)|(with_reducible refine wG ?_)|(with_reducible refine wP ?_)))
  all_goals (try conv=>whnf)
  all_goals ((refine ⟨⟨_,[],[],Cut.nil _,Ln.sameB _ rfl,?_,rfl⟩⟩);rfl)
theorem rSafe_ok (f:ShF) (s:Sheet) (hn:Near s) (h3:s.ok = true → s.R ≤ 3) (z e:Bool) (m:List Int) (hm:m.length ≤ 1000):ACall Try.prog 35 [aSh f s,aInts z e m] [] (fun v h=>v = safeV s m ∧ h = []):=by
 have cM:=refCheckM_ok f s hn z e m hm
 (refine fcall_of mixed Try.func35 rfl (by decide) (hs:={}) ?k (ac:=?ac) ?c (rs:=?rs) ?r ?l ?H;(case k=>kernel_rfl);(case c=>(conv=>(lhs;cbv)));(case r=>(conv=>(lhs;cbv)));(case l=>exact Nat.le_of_ble_eq_true rfl))
 by_cases h0:checkM s m = 0
 ·obtain ⟨hk,hmk⟩:=checkM_0 h0
  have cS:=rIsSafe_ok f s (sheet_d hk) (h3 hk) z e m (mask_d hmk)
  rw [show safeV s m = .tup 2 (ofL [.bool (safeS s m),AI 0]) from by unfold safeV;rw [h0];rfl]
  rw [h0] at cM
  (repeat' ((try conv=>whnf);first|(with_reducible first|refine wT ?_|refine wF ?_|(refine wI (fun hq=>?_) (fun hq=>?_) <;> try simp only [zA,zE,zD,zJ,zB,zI,wK,wL] at hq)|refine wA ?_|refine wB ?_|refine wC ?_|refine wD ?_|refine wE ?_)|((with_reducible refine wN ?_ ?_);focus exact needA)|(with_reducible refine wG ?_)|(refine FCall.pure (cM) ⟨Ln.sameB _ rfl,Ln.sameB _ rfl,True.intro⟩ rfl ?_)|(refine FCall.pure (cS) ⟨Ln.sameB _ rfl,Ln.sameB _ rfl,True.intro⟩ rfl ?_)|(with_reducible refine wP ?_)))
  all_goals (try conv=>whnf)
  all_goals ((refine ⟨⟨_,[],[],Cut.nil _,Ln.sameB _ rfl,?_,rfl⟩⟩);rfl)
 ·rw [show safeV s m = .tup 2 (ofL [.bool false,AI (checkM s m)]) from by unfold safeV;rw [decide_eq_false h0];rfl]
  (repeat' ((try conv=>whnf);first|(with_reducible first|refine wT ?_|refine wF ?_|(refine wI (fun hq=>?_) (fun hq=>?_) <;> try simp only [zA,zE,zD,zJ,zB,zI,wK,wL] at hq)|refine wA ?_|refine wB ?_|refine wC ?_|refine wD ?_|refine wE ?_)|((with_reducible refine wN ?_ ?_);focus exact needA)|(with_reducible refine wG ?_)|(refine FCall.pure (cM) ⟨Ln.sameB _ rfl,Ln.sameB _ rfl,True.intro⟩ rfl ?_)|(with_reducible refine wP ?_)))
  all_goals (try conv=>whnf)
  all_goals ((refine ⟨⟨_,[],[],Cut.nil _,Ln.sameB _ rfl,?_,rfl⟩⟩);rfl)
theorem rOther_ok (f:ShF) (s:Sheet) (hn:Near s) (h3:s.ok = true → s.R ≤ 3) (z e:Bool) (m:List Int) (hm:m.length ≤ 1000) (r c a:Int):ACall Try.prog 37 [aSh f s,aInts z e m,AI r,AI c,AI a] [] (fun v h=>v = AI (checkO s m r c a) ∧ h = []):=by
 have cP:=refCheckP_ok f s hn z e m hm r c
 (refine fcall_of mixed Try.func37 rfl (by decide) (hs:={}) ?k (ac:=?ac) ?c (rs:=?rs) ?r ?l ?H;(case k=>kernel_rfl);(case c=>(conv=>(lhs;cbv)));(case r=>(conv=>(lhs;cbv)));(case l=>exact Nat.le_of_ble_eq_true rfl))
 by_cases h0:checkP s m r c = 0
 ·have hp:=checkP_0 h0
  obtain ⟨r',rfl⟩:=Int.eq_ofNat_of_zero_le hp.r.1
  obtain ⟨c',rfl⟩:=Int.eq_ofNat_of_zero_le hp.c.1
  have cS:=rspan_ok f s hp.sh (h3 hp.ok) z e m hp.m r' c' (by have:=hp.r;omega) (by have:=hp.c;omega)
  have cW:=within_ok a (loV s m r' c') (hiV s m r' c')
  rw [show checkO s m r' c' a = if inB a (loV s m r' c') (hiV s m r' c') then 0 else 3 from by unfold checkO;rw [if_pos h0];rfl]
  rw [h0] at cP
  cases hw:inB a (loV s m r' c') (hiV s m r' c')
  ·rw [hw] at cW
   (repeat' ((try conv=>whnf);first|(with_reducible first|refine wT ?_|refine wF ?_|(refine wI (fun hq=>?_) (fun hq=>?_) <;> try simp only [zA,zE,zD,zJ,zB,zI,wK,wL] at hq)|refine wA ?_|refine wB ?_|refine wC ?_|refine wD ?_|refine wE ?_)|((with_reducible refine wN ?_ ?_);focus exact needA)|(with_reducible refine wG ?_)|(refine FCall.pure (cP) ⟨Ln.sameB _ rfl,Ln.sameB _ rfl,Ln.sameB _ rfl,Ln.sameB _ rfl,True.intro⟩ rfl ?_)|(refine FCall.pure (cS) ⟨Ln.sameB _ rfl,Ln.sameB _ rfl,Ln.sameB _ rfl,Ln.sameB _ rfl,True.intro⟩ rfl ?_)|(refine FCall.pure (cW) ⟨Ln.sameB _ rfl,Ln.sameB _ rfl,Ln.sameB _ rfl,True.intro⟩ rfl ?_)|(with_reducible refine wP ?_)))
   all_goals (try conv=>whnf)
   all_goals ((refine ⟨⟨_,[],[],Cut.nil _,Ln.sameB _ rfl,?_,rfl⟩⟩);rfl)
  ·rw [hw] at cW
   (repeat' ((try conv=>whnf);first|(with_reducible first|refine wT ?_|refine wF ?_|(refine wI (fun hq=>?_) (fun hq=>?_) <;> try simp only [zA,zE,zD,zJ,zB,zI,wK,wL] at hq)|refine wA ?_|refine wB ?_|refine wC ?_|refine wD ?_|refine wE ?_)|((with_reducible refine wN ?_ ?_);focus exact needA)|(with_reducible refine wG ?_)|(refine FCall.pure (cP) ⟨Ln.sameB _ rfl,Ln.sameB _ rfl,Ln.sameB _ rfl,Ln.sameB _ rfl,True.intro⟩ rfl ?_)|(refine FCall.pure (cS) ⟨Ln.sameB _ rfl,Ln.sameB _ rfl,Ln.sameB _ rfl,Ln.sameB _ rfl,True.intro⟩ rfl ?_)|(refine FCall.pure (cW) ⟨Ln.sameB _ rfl,Ln.sameB _ rfl,Ln.sameB _ rfl,True.intro⟩ rfl ?_)|(with_reducible refine wP ?_)))
   all_goals (try conv=>whnf)
   all_goals ((refine ⟨⟨_,[],[],Cut.nil _,Ln.sameB _ rfl,?_,rfl⟩⟩);rfl)
 ·rw [show checkO s m r c a = checkP s m r c from by unfold checkO;rw [if_neg h0]]
  (repeat' ((try conv=>whnf);first|(with_reducible first|refine wT ?_|refine wF ?_|(refine wI (fun hq=>?_) (fun hq=>?_) <;> try simp only [zA,zE,zD,zJ,zB,zI,wK,wL] at hq)|refine wA ?_|refine wB ?_|refine wC ?_|refine wD ?_|refine wE ?_)|((with_reducible refine wN ?_ ?_);focus exact needA)|(with_reducible refine wG ?_)|(refine FCall.pure (cP) ⟨Ln.sameB _ rfl,Ln.sameB _ rfl,Ln.sameB _ rfl,Ln.sameB _ rfl,True.intro⟩ rfl ?_)|(with_reducible refine wP ?_)))
  all_goals (try conv=>whnf)
  all_goals ((refine ⟨⟨_,[],[],Cut.nil _,Ln.sameB _ rfl,?_,rfl⟩⟩);rfl)
end Go.Proofs.Ytlffjnmbpoemnaa
