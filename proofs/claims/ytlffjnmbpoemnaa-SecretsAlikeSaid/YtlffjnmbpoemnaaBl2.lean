/- Secrets: two sheets that agree have the same print and the same ranges (SecretsAlike). / How many elements handed slices can have: what the form's own reach says of their lengths. -/
import Derived.Test.YtlffjnmbpoemnaaBl1
import Derived.Test.YtlffjnmbpoemnaaBs15
import Derived.SizedLaws
set_option linter.unusedSimpArgs false
set_option linter.unusedVariables false
namespace Go.Proofs.Ytlffjnmbpoemnaa
open Go.RowKit

def flT (s:Sheet) (l:List (List Int)):ShF:=⟨decide (l.length = 0),decide (l.length = 0),fun _=>false,eRow l,false,decide (s.secret.length = 0)⟩
def shT (s:Sheet) (l:List (List Int)):Sheet:=⟨l,s.secret,s.gap⟩
theorem safe_gap {s:Sheet} {m:List Int} (h:safeS s m = true) {r c:Nat} (hr:r < s.R) (hc:c < s.C) (ho:outS s.secret r c = true):s.gap ≤ hiV s m r c - loV s m r c:=by
 unfold safeS rowSafe at h
 have h1:=List.all_eq_true.1 (List.all_eq_true.1 h r (List.mem_range.2 hr)) c (List.mem_range.2 hc)
 unfold cellSafe at h1
 rw [ho] at h1
 simp only [Bool.not_true,Bool.false_or,Bool.and_eq_true,decide_eq_true_eq] at h1
 exact h1.2
theorem agree_twin {s t:Sheet} {m:List Int} (hs:SheetOk s) (h:agreeB s m t.amounts = true):Twin s t m:=by
 obtain ⟨hR,hC⟩:=agree_len hs h
 have ha:=(agree_ag h).1
 refine ⟨hR,hC,fun r c hr hc=>?_,fun r hr=>ha.row r hr,fun c hc=>ha.col c hc⟩
 unfold shownS
 cases ho:outS m r c
 ·exact ha.un r c hr hc ho
 ·rfl
theorem showV_twin {σ:Nat → Nat → Prop} {Bp:Nat → Prop} {H:List AB} {s t:Sheet} {m:List Int} (hs:checkM s m = 0) (ht:checkM t m = 0) (h:Twin s t m):Ln σ Bp H (showV t m) (.tup 2 (ofL [printA s m,AI 0])):=by
 unfold showV
 rw [if_pos ht,ht]
 exact Ln.tupN ⟨⟨True.intro,twin_ln h⟩,Ln.A⟩
set_option maxHeartbeats 16000000
set_option maxRecDepth 100000
theorem pShow_twin (f:ShF) (s t:Sheet) (hn:Near t) (z e:Bool) (m:List Int) (hm:m.length ≤ 1000) (hs:checkM s m = 0) (ht:checkM t m = 0) (h:Twin s t m):ACall Try.prog 29 [aSh f t,aInts z e m] [] (fun v h=>v = .tup 2 (ofL [printA s m,AI 0]) ∧ h = []):=by
 refine ACall.wk (ACall.mono' _ ?_ (pShow_ok f t hn z e m hm))
 rintro _ _ ⟨rfl,rfl⟩
 exact ⟨_,[],[],Cut.nil _,showV_twin hs ht h,rfl,rfl⟩
theorem alike_any (f:ShF) (s:Sheet) (z e:Bool) (m:List Int) (z2 e2:Bool) (rz re:Nat → Bool) (l:List (List Int)) (hl:l.length ≤ 5864062014805) (hlr:∀ k,k < l.length → (l.getD k []).length ≤ 17592186044416) (r c a:Int):ACall Try.prog 11 [aSh f s,aInts z e m,.agg 4 (ofL [aRows z2 e2 rz re l,AI r,AI c,AI a])] [] (fun v h=>v = .bool true ∧ h = []):=by
 have cV:=valid_ok f s z e m
 (refine fcall_of mixed Try.func11 rfl (by decide) (hs:={ pub:=[15,17,23] }) ?k (ac:=?ac) ?c (rs:=?rs) ?r ?l ?H;(case k=>kernel_rfl);(case c=>(conv=>(lhs;cbv)));(case r=>(conv=>(lhs;cbv)));(case l=>exact Nat.le_of_ble_eq_true rfl))
 cases hv:validS s m
 ·rw [hv] at cV
  (repeat' ((try conv=>whnf);first|(with_reducible first|refine wT ?_|refine wF ?_|(refine wI (fun hq=>?_) (fun hq=>?_) <;> try simp only [zA,zE,zD,zJ,zB,zI,wK,wL] at hq)|refine wA ?_|refine wB ?_|refine wC ?_|refine wD ?_|refine wE ?_)|((with_reducible refine wN ?_ ?_);focus exact needA)|(with_reducible refine wG ?_)|(refine FCall.pure (cV) ⟨Ln.sameB _ rfl,Ln.sameB _ rfl,True.intro⟩ rfl ?_)|(refine FCall.pure works_ok True.intro rfl ?_)|(with_reducible refine wP ?_)))
  all_goals (try conv=>whnf)
  all_goals ((refine ⟨⟨_,[],[],Cut.nil _,Ln.sameB _ rfl,?_,rfl⟩⟩);rfl)
 rw [hv] at cV
 obtain ⟨hn,hk,hs,hm,hm20,hR3,hC3⟩:=valid_d hv
 have cP:=refCheckP_ok f s hn z e m (by omega) r c
 rcases Decidable.em (¬ checkP s m r c = 0) with hp|hp
 ·(repeat' ((try conv=>whnf);first|(with_reducible first|refine wT ?_|refine wF ?_|(refine wI (fun hq=>?_) (fun hq=>?_) <;> try simp only [zA,zE,zD,zJ,zB,zI,wK,wL] at hq)|refine wA ?_|refine wB ?_|refine wC ?_|refine wD ?_|refine wE ?_)|((with_reducible refine wN ?_ ?_);focus exact needA)|(with_reducible refine wG ?_)|(refine FCall.pure (cV) ⟨Ln.sameB _ rfl,Ln.sameB _ rfl,True.intro⟩ rfl ?_)|(refine FCall.pure works_ok True.intro rfl ?_)|(refine FCall.pure (cP) ⟨Ln.sameB _ rfl,Ln.sameB _ rfl,Ln.sameB _ rfl,Ln.sameB _ rfl,True.intro⟩ rfl ?_)|(with_reducible refine wP ?_)))
  all_goals (try conv=>whnf)
  all_goals ((refine ⟨⟨_,[],[],Cut.nil _,Ln.sameB _ rfl,?_,rfl⟩⟩);rfl)
 have hp:checkP s m r c = 0:=Decidable.not_not.1 hp
 rw [hp] at cP
 have hpp:=checkP_0 hp
 have hcM:=checkM_of hk hm
 obtain ⟨r',rfl⟩:=Int.eq_ofNat_of_zero_le hpp.r.1
 obtain ⟨c',rfl⟩:=Int.eq_ofNat_of_zero_le hpp.c.1
 have hr':r' < s.R:=by have:=hpp.r;omega
 have hc':c' < s.C:=by have:=hpp.c;omega
 have hRl:s.R = s.amounts.length:=rfl
 have hrow:=hs.row r' hr'
 have hsl:=hs.sec.len
 have cR:=pRange_ok f s hn (fun _=>hR3) z e m (by omega) r' c'
 rw [rangeV_0 hp] at cR
 have cSf:=pSafe_ok f s hn (fun _=>hR3) z e m (by omega)
 rw [safeV_0 hcM] at cSf
 have hle:0 ≤ loV s m r' c' ∧ loV s m r' c' ≤ (s.amounts.getD r' []).getD c' 0 ∧ (s.amounts.getD r' []).getD c' 0 ≤ hiV s m r' c' ∧ hiV s m r' c' ≤ 40000:=lo_le hs m hr' hc'
 apply cutG
 ·intro rest
  obtain ⟨b,hb,hb16,-⟩:=mask_16 hs hs.sec hr'
  cases hq7:b.testBit c'
  ·(repeat' ((try conv=>whnf);first|(with_reducible first|refine wT ?_|refine wF ?_|(refine wI (fun hq=>?_) (fun hq=>?_) <;> try simp only [zA,zE,zD,zJ,zB,zI,wK,wL] at hq)|refine wA ?_|refine wB ?_|refine wC ?_|refine wD ?_|refine wE ?_)|((with_reducible refine wN ?_ ?_);focus exact needA)|(with_reducible refine wG ?_)|(refine FCall.pure (cV) ⟨Ln.sameB _ rfl,Ln.sameB _ rfl,True.intro⟩ rfl ?_)|(refine FCall.pure (cP) ⟨Ln.sameB _ rfl,Ln.sameB _ rfl,Ln.sameB _ rfl,Ln.sameB _ rfl,True.intro⟩ rfl ?_)|(refine FCall.pure (cR) ⟨Ln.sameB _ rfl,Ln.sameB _ rfl,Ln.sameB _ rfl,Ln.sameB _ rfl,True.intro⟩ rfl ?_)|(refine FCall.pure (cSf) ⟨Ln.sameB _ rfl,Ln.sameB _ rfl,True.intro⟩ rfl ?_)|(with_reducible refine Fits.inU (by omega) ?_)|(rw [hb];refine FBit.shrN rfl (by omega) ?_)|(refine FBit.hasF rfl hq7 ?_)|(with_reducible refine wP ?_)))
   all_goals (try conv=>whnf)
   exact FWk.of [(1,aInts z e m),(3,.ptr 0 0),(5,.ptr 1 0),(7,AI r'),(8,AI c'),(9,.ptr 2 0)] [.box 3 (cSh f s),.box 4 (ofL [aRows z2 e2 rz re l,AI r',AI c',AI a]),.box 2 (ofL [AI (loV s m r' c'),AI (hiV s m r' c')])] [0,1,2] Cut.A allA rest.h
  cases hsf:safeS s m
  ·rw [hsf] at cSf
   (repeat' ((try conv=>whnf);first|(with_reducible first|refine FCond.t rfl ?_|refine FCond.f rfl ?_)|((with_reducible refine FCond.uT (fun hq=>?_));rw [hq];(with_reducible refine FCond.t rfl ?_);clear hq)|((with_reducible refine FCond.uF (fun hq=>?_));rw [hq];(with_reducible refine FCond.f rfl ?_);clear hq)|((with_reducible refine wJ (fun hq=>?_) (fun hq=>?_)) <;> (rw [hq];(with_reducible first|refine FCond.t rfl ?_|refine FCond.f rfl ?_);(try simp only [zA,zE,zD,zJ,zB,zI,wK,wL] at hq)))|(with_reducible first|refine wA ?_|refine wB ?_|refine wC ?_|refine wD ?_|refine wE ?_)|((with_reducible refine wN ?_ ?_);focus exact needA)|(with_reducible refine wG ?_)|(refine FCall.pure (cV) ⟨Ln.sameB _ rfl,Ln.sameB _ rfl,True.intro⟩ rfl ?_)|(refine FCall.pure (cP) ⟨Ln.sameB _ rfl,Ln.sameB _ rfl,Ln.sameB _ rfl,Ln.sameB _ rfl,True.intro⟩ rfl ?_)|(refine FCall.pure (cR) ⟨Ln.sameB _ rfl,Ln.sameB _ rfl,Ln.sameB _ rfl,Ln.sameB _ rfl,True.intro⟩ rfl ?_)|(refine FCall.pure (cSf) ⟨Ln.sameB _ rfl,Ln.sameB _ rfl,True.intro⟩ rfl ?_)|(with_reducible refine Fits.inU (by omega) ?_)|(rw [hb];refine FBit.shrN rfl (by omega) ?_)|(refine FBit.hasT rfl hq7 ?_)|(with_reducible refine wP ?_)))
   all_goals (try conv=>whnf)
   exact FWk.of [(1,aInts z e m),(3,.ptr 0 0),(5,.ptr 1 0),(7,AI r'),(8,AI c'),(9,.ptr 2 0)] [.box 3 (cSh f s),.box 4 (ofL [aRows z2 e2 rz re l,AI r',AI c',AI a]),.box 2 (ofL [AI (loV s m r' c'),AI (hiV s m r' c')])] [0,1,2] Cut.A allA rest.h
  rw [hsf] at cSf
  have hgap:=safe_gap hsf hr' hc' (by unfold outS;rw [hb];exact hq7)
  have key:∀ v,v = loV s m r' c' ∨ v = hiV s m r' c' → in64 v ∧ checkO s m r' c' v = 0:=by
   intro v hv
   have hin:loV s m r' c' ≤ v ∧ v ≤ hiV s m r' c':=by rcases hv with rfl|rfl <;> omega
   refine ⟨by unfold in64;omega,?_⟩
   unfold checkO
   rw [if_pos hp]
   show (if inB v (loV s m r' c') (hiV s m r' c') then (0:Int) else 3) = 0
   rw [show inB v (loV s m r' c') (hiV s m r' c') = true from decide_eq_true hin];rfl
  by_cases hfar:(s.amounts.getD r' []).getD c' 0 - loV s m r' c' < hiV s m r' c' - (s.amounts.getD r' []).getD c' 0
  ·have hk2:=key _ (.inr rfl)
   have co:=other_ok f s hn (fun _=>hR3) z e m (by omega) r' c' _ hk2.1
   (repeat' ((try conv=>whnf);first|(with_reducible first|refine FCond.t rfl ?_|refine FCond.f rfl ?_)|((with_reducible refine FCond.uT (fun hq=>?_));rw [hq];(with_reducible refine FCond.t rfl ?_);clear hq)|((with_reducible refine FCond.uF (fun hq=>?_));rw [hq];(with_reducible refine FCond.f rfl ?_);clear hq)|((with_reducible refine wJ (fun hq=>?_) (fun hq=>?_)) <;> (rw [hq];(with_reducible first|refine FCond.t rfl ?_|refine FCond.f rfl ?_);(try simp only [zA,zE,zD,zJ,zB,zI,wK,wL] at hq)))|(with_reducible first|refine wA ?_|refine wB ?_|refine wC ?_|refine wD ?_|refine wE ?_)|((with_reducible refine wN ?_ ?_);focus exact needA)|(with_reducible refine wG ?_)|(refine FCall.pure (cV) ⟨Ln.sameB _ rfl,Ln.sameB _ rfl,True.intro⟩ rfl ?_)|(refine FCall.pure (cP) ⟨Ln.sameB _ rfl,Ln.sameB _ rfl,Ln.sameB _ rfl,Ln.sameB _ rfl,True.intro⟩ rfl ?_)|(refine FCall.pure (cR) ⟨Ln.sameB _ rfl,Ln.sameB _ rfl,Ln.sameB _ rfl,Ln.sameB _ rfl,True.intro⟩ rfl ?_)|(refine FCall.pure (cSf) ⟨Ln.sameB _ rfl,Ln.sameB _ rfl,True.intro⟩ rfl ?_)|(with_reducible refine Fits.inU (by omega) ?_)|(rw [hb];refine FBit.shrN rfl (by omega) ?_)|(refine FBit.hasT rfl hq7 ?_)|(with_reducible refine wP ?_)))
   all_goals (try conv=>whnf)
   refine FCall.give [] [] co rfl rfl True.intro ⟨Ln.A,Ln.A,Ln.A,Ln.A,Ln.A,True.intro⟩ ?_
   rintro _ _ ⟨rfl,⟨h1,rfl⟩|⟨h1,y,hy,hya,rfl⟩⟩
   ·exact absurd hk2.2 h1
   have cB:=agrees_ok f s hs z e m hm false false (fun _=>false) (fun _=>false) (mkL s.R s.C y)
   rw [ag_agree hs hy] at cB
   have hya:y r' c' = hiV s m r' c':=hya
   refine ⟨Nat.zero_le _,.inl rfl,?_⟩
   (repeat' ((try conv=>whnf);first|(with_reducible first|refine FCond.t rfl ?_|refine FCond.f rfl ?_)|((with_reducible refine FCond.uT (fun hq=>?_));rw [hq];(with_reducible refine FCond.t rfl ?_);clear hq)|((with_reducible refine FCond.uF (fun hq=>?_));rw [hq];(with_reducible refine FCond.f rfl ?_);clear hq)|((with_reducible refine wJ (fun hq=>?_) (fun hq=>?_)) <;> (rw [hq];(with_reducible first|refine FCond.t rfl ?_|refine FCond.f rfl ?_);(try simp only [zA,zE,zD,zJ,zB,zI,wK,wL] at hq)))|(with_reducible first|refine wA ?_|refine wB ?_|refine wC ?_|refine wD ?_|refine wE ?_)|((with_reducible refine wN ?_ ?_);focus exact needA)|(with_reducible refine wG ?_)|(refine FCall.pure cB ⟨Ln.A,Ln.A,Ln.matL _ _ _,True.intro⟩ rfl ?_)|(with_reducible refine wP ?_)))
   all_goals (try conv=>whnf)
   exact FWk.of [(1,aInts z e m),(3,.ptr 0 0),(5,.ptr 1 0),(7,AI r'),(8,AI c'),(9,.ptr 2 0)] [.box 3 (cSh f s),.box 4 (ofL [aRows z2 e2 rz re l,AI r',AI c',AI a]),.box 2 (ofL [AI (loV s m r' c'),AI (hiV s m r' c')])] [0,1,2] Cut.A allA rest.h
  ·have hk2:=key _ (.inl rfl)
   have co:=other_ok f s hn (fun _=>hR3) z e m (by omega) r' c' _ hk2.1
   (repeat' ((try conv=>whnf);first|(with_reducible first|refine FCond.t rfl ?_|refine FCond.f rfl ?_)|((with_reducible refine FCond.uT (fun hq=>?_));rw [hq];(with_reducible refine FCond.t rfl ?_);clear hq)|((with_reducible refine FCond.uF (fun hq=>?_));rw [hq];(with_reducible refine FCond.f rfl ?_);clear hq)|((with_reducible refine wJ (fun hq=>?_) (fun hq=>?_)) <;> (rw [hq];(with_reducible first|refine FCond.t rfl ?_|refine FCond.f rfl ?_);(try simp only [zA,zE,zD,zJ,zB,zI,wK,wL] at hq)))|(with_reducible first|refine wA ?_|refine wB ?_|refine wC ?_|refine wD ?_|refine wE ?_)|((with_reducible refine wN ?_ ?_);focus exact needA)|(with_reducible refine wG ?_)|(refine FCall.pure (cV) ⟨Ln.sameB _ rfl,Ln.sameB _ rfl,True.intro⟩ rfl ?_)|(refine FCall.pure (cP) ⟨Ln.sameB _ rfl,Ln.sameB _ rfl,Ln.sameB _ rfl,Ln.sameB _ rfl,True.intro⟩ rfl ?_)|(refine FCall.pure (cR) ⟨Ln.sameB _ rfl,Ln.sameB _ rfl,Ln.sameB _ rfl,Ln.sameB _ rfl,True.intro⟩ rfl ?_)|(refine FCall.pure (cSf) ⟨Ln.sameB _ rfl,Ln.sameB _ rfl,True.intro⟩ rfl ?_)|(with_reducible refine Fits.inU (by omega) ?_)|(rw [hb];refine FBit.shrN rfl (by omega) ?_)|(refine FBit.hasT rfl hq7 ?_)|(with_reducible refine wP ?_)))
   all_goals (try conv=>whnf)
   refine FCall.give [] [] co rfl rfl True.intro ⟨Ln.A,Ln.A,Ln.A,Ln.A,Ln.A,True.intro⟩ ?_
   rintro _ _ ⟨rfl,⟨h1,rfl⟩|⟨h1,y,hy,hya,rfl⟩⟩
   ·exact absurd hk2.2 h1
   have cB:=agrees_ok f s hs z e m hm false false (fun _=>false) (fun _=>false) (mkL s.R s.C y)
   rw [ag_agree hs hy] at cB
   have hya:y r' c' = loV s m r' c':=hya
   refine ⟨Nat.zero_le _,.inl rfl,?_⟩
   (repeat' ((try conv=>whnf);first|(with_reducible first|refine FCond.t rfl ?_|refine FCond.f rfl ?_)|((with_reducible refine FCond.uT (fun hq=>?_));rw [hq];(with_reducible refine FCond.t rfl ?_);clear hq)|((with_reducible refine FCond.uF (fun hq=>?_));rw [hq];(with_reducible refine FCond.f rfl ?_);clear hq)|((with_reducible refine wJ (fun hq=>?_) (fun hq=>?_)) <;> (rw [hq];(with_reducible first|refine FCond.t rfl ?_|refine FCond.f rfl ?_);(try simp only [zA,zE,zD,zJ,zB,zI,wK,wL] at hq)))|(with_reducible first|refine wA ?_|refine wB ?_|refine wC ?_|refine wD ?_|refine wE ?_)|((with_reducible refine wN ?_ ?_);focus exact needA)|(with_reducible refine wG ?_)|(refine FCall.pure cB ⟨Ln.A,Ln.A,Ln.matL _ _ _,True.intro⟩ rfl ?_)|(with_reducible refine wP ?_)))
   all_goals (try conv=>whnf)
   exact FWk.of [(1,aInts z e m),(3,.ptr 0 0),(5,.ptr 1 0),(7,AI r'),(8,AI c'),(9,.ptr 2 0)] [.box 3 (cSh f s),.box 4 (ofL [aRows z2 e2 rz re l,AI r',AI c',AI a]),.box 2 (ofL [AI (loV s m r' c'),AI (hiV s m r' c')])] [0,1,2] Cut.A allA rest.h
 have cC:=copy_ok f s hn
 have cK:=copyRows_any z2 e2 rz re l hl hlr
 (repeat' ((try conv=>whnf);first|(with_reducible first|refine wT ?_|refine wF ?_|(refine wI (fun hq=>?_) (fun hq=>?_) <;> try simp only [zA,zE,zD,zJ,zB,zI,wK,wL] at hq)|refine wA ?_|refine wB ?_|refine wC ?_|refine wD ?_|refine wE ?_)|((with_reducible refine wN ?_ ?_);focus exact needA)|(with_reducible refine wG ?_)|(refine FCall.pure (cC) ⟨Ln.sameB _ rfl,True.intro⟩ rfl ?_)|(refine FCall.pure (cK) ⟨Ln.sameB _ rfl,True.intro⟩ rfl ?_)|(with_reducible refine wP ?_)))
 all_goals (try conv=>whnf)
 obtain ⟨t,htE⟩:∃ t,t = shT s l:=⟨_,rfl⟩
 obtain ⟨ft,hfE⟩:∃ ft,ft = flT s l:=⟨_,rfl⟩
 refine FWk.of [(1,aInts z e m),(3,.ptr 0 0),(5,.ptr 1 0),(7,AI r'),(8,AI c'),(9,.ptr 2 0),(16,.ptr 3 0)] [.box 3 (cSh f s),.box 4 (ofL [aRows z2 e2 rz re l,AI r',AI c',AI a]),.box 2 (ofL [AI (loV s m r' c'),AI (hiV s m r' c')]),.box 3 (cSh ft t)] [0,1,2,3] ?cu ?ln ?k
 case cu=>subst htE;subst hfE;exact wO rfl rfl rfl (wV rfl LnB.A (wV rfl LnB.A (wV rfl LnB.A (wV rfl (LnB.boxN ⟨⟨⟨True.intro,Ln.sameB _ rfl⟩,Ln.sameB _ rfl⟩,Ln.sameB _ rfl⟩) wX))))
 case ln=>exact allA
 have htl:t.amounts = l:=by rw [htE];rfl
 rcases Nat.lt_or_ge 20 l.length with hl20|hl20
 ·(repeat' ((try conv=>whnf);first|(with_reducible first|refine wT ?_|refine wF ?_|(refine wI (fun hq=>?_) (fun hq=>?_) <;> try simp only [zA,zE,zD,zJ,zB,zI,wK,wL] at hq)|refine wA ?_|refine wB ?_|refine wC ?_|refine wD ?_|refine wE ?_)|((with_reducible refine wN ?_ ?_);focus exact needA)|(with_reducible refine wG ?_)|(refine FCall.pure works_ok True.intro rfl ?_)|(with_reducible refine wP ?_)))
  all_goals (try conv=>whnf)
  all_goals ((refine ⟨⟨_,[],[],Cut.nil _,Ln.sameB _ rfl,?_,rfl⟩⟩);rfl)
 have cF:=far_ok ft t
 cases hf:farS t
 ·rw [hf] at cF
  obtain ⟨hnt,ht3⟩:=far_d hf
  have cCh:=refCheck_ok ft t hnt
  cases hkt:t.ok
  ·rw [show checkS t = 80 from by unfold checkS;rw [hkt];rfl] at cCh
   (repeat' ((try conv=>whnf);first|(with_reducible first|refine FCond.t rfl ?_|refine FCond.f rfl ?_)|((with_reducible refine FCond.uT (fun hq=>?_));rw [hq];(with_reducible refine FCond.t rfl ?_);clear hq)|((with_reducible refine FCond.uF (fun hq=>?_));rw [hq];(with_reducible refine FCond.f rfl ?_);clear hq)|((with_reducible refine wJ (fun hq=>?_) (fun hq=>?_)) <;> (rw [hq];(with_reducible first|refine FCond.t rfl ?_|refine FCond.f rfl ?_);(try simp only [zA,zE,zD,zJ,zB,zI,wK,wL] at hq)))|(with_reducible first|refine wA ?_|refine wB ?_|refine wC ?_|refine wD ?_|refine wE ?_)|((with_reducible refine wN ?_ ?_);focus exact needA)|(with_reducible refine wG ?_)|(refine FCall.pure works_ok True.intro rfl ?_)|(refine FCall.pure (cF) ⟨Ln.sameB _ rfl,True.intro⟩ rfl ?_)|(refine FCall.pure (cCh) ⟨Ln.sameB _ rfl,True.intro⟩ rfl ?_)|(with_reducible refine wP ?_)))
   all_goals (try conv=>whnf)
   all_goals ((refine ⟨⟨_,[],[],Cut.nil _,Ln.sameB _ rfl,?_,rfl⟩⟩);rfl)
  rw [show checkS t = 0 from by unfold checkS;rw [hkt];rfl] at cCh
  have cA:=agrees_ok f s hs z e m hm ft.za ft.ea ft.rz ft.re t.amounts
  cases hag:agreeB s m t.amounts
  ·rw [hag] at cA
   (repeat' ((try conv=>whnf);first|(with_reducible first|refine FCond.t rfl ?_|refine FCond.f rfl ?_)|((with_reducible refine FCond.uT (fun hq=>?_));rw [hq];(with_reducible refine FCond.t rfl ?_);clear hq)|((with_reducible refine FCond.uF (fun hq=>?_));rw [hq];(with_reducible refine FCond.f rfl ?_);clear hq)|((with_reducible refine wJ (fun hq=>?_) (fun hq=>?_)) <;> (rw [hq];(with_reducible first|refine FCond.t rfl ?_|refine FCond.f rfl ?_);(try simp only [zA,zE,zD,zJ,zB,zI,wK,wL] at hq)))|(with_reducible first|refine wA ?_|refine wB ?_|refine wC ?_|refine wD ?_|refine wE ?_)|((with_reducible refine wN ?_ ?_);focus exact needA)|(with_reducible refine wG ?_)|(refine FCall.pure works_ok True.intro rfl ?_)|(refine FCall.pure (cF) ⟨Ln.sameB _ rfl,True.intro⟩ rfl ?_)|(refine FCall.pure (cCh) ⟨Ln.sameB _ rfl,True.intro⟩ rfl ?_)|(refine FCall.pure (cA) ⟨Ln.sameB _ rfl,Ln.sameB _ rfl,Ln.sameB _ rfl,True.intro⟩ rfl ?_)|(with_reducible refine wP ?_)))
   all_goals (try conv=>whnf)
   all_goals ((refine ⟨⟨_,[],[],Cut.nil _,Ln.sameB _ rfl,?_,rfl⟩⟩);rfl)
  rw [hag] at cA
  obtain ⟨hRt,hCt⟩:=agree_len hs hag
  have hst:=sheet_d hkt
  have hmt:=agree_ok hs hm hag
  have hcT:=checkM_of hkt hmt
  have hpt:checkP t m r' c' = 0:=checkP_of hkt hmt (by
   unfold placeOk
   rw [show inB (r':Int) 0 ((t.R:Int) - 1) = true from decide_eq_true (by omega),show inB (c':Int) 0 ((t.C:Int) - 1) = true from decide_eq_true (by omega)];rfl)
  have cRt:=pRange_ok ft t hnt (fun h=>(ht3 h).1) z e m (by omega) r' c'
  rw [rangeV_0 hpt,agree_lo hs hag hr' hc',agree_hi hs hag hr' hc'] at cRt
  have htw:=agree_twin hs hag
  have cS1:=pShow_ok f s hn z e m (by omega)
  rw [show showV s m = .tup 2 (ofL [printA s m,AI 0]) from by unfold showV;rw [if_pos hcM,hcM]] at cS1
  have cS2:=pShow_twin ft s t hnt z e m (by omega) hcM hcT htw
  have cSm:=pSame_ok f ft s t hn hnt z e m (by omega)
  rw [show sameV s t m = .tup 2 (ofL [.bool true,AI 0]) from by unfold sameV;rw [checkT_c hk hkt (mask_of hm),hag,if_pos ⟨hRt,hCt⟩];rfl] at cSm
  have cPr:=samePrints_yes s.R s.C (by omega) (by omega) (shownS s m) (rowSum s.amounts s.C) (fun c=>colTo s.amounts s.R c) (sumTo (fun c=>colTo s.amounts s.R c) s.C)
  (repeat' ((try conv=>whnf);first|(with_reducible first|refine FCond.t rfl ?_|refine FCond.f rfl ?_)|((with_reducible refine FCond.uT (fun hq=>?_));rw [hq];(with_reducible refine FCond.t rfl ?_);clear hq)|((with_reducible refine FCond.uF (fun hq=>?_));rw [hq];(with_reducible refine FCond.f rfl ?_);clear hq)|((with_reducible refine wJ (fun hq=>?_) (fun hq=>?_)) <;> (rw [hq];(with_reducible first|refine FCond.t rfl ?_|refine FCond.f rfl ?_);(try simp only [zA,zE,zD,zJ,zB,zI,wK,wL] at hq)))|(with_reducible first|refine wA ?_|refine wB ?_|refine wC ?_|refine wD ?_|refine wE ?_)|((with_reducible refine wN ?_ ?_);focus exact needA)|(with_reducible refine wG ?_)|(refine FCall.pure (cF) ⟨Ln.sameB _ rfl,True.intro⟩ rfl ?_)|(refine FCall.pure (cCh) ⟨Ln.sameB _ rfl,True.intro⟩ rfl ?_)|(refine FCall.pure (cA) ⟨Ln.sameB _ rfl,Ln.sameB _ rfl,Ln.sameB _ rfl,True.intro⟩ rfl ?_)|(refine FCall.pure (cRt) ⟨Ln.sameB _ rfl,Ln.sameB _ rfl,Ln.sameB _ rfl,Ln.sameB _ rfl,True.intro⟩ rfl ?_)|(refine FCall.pure (cS1) ⟨Ln.sameB _ rfl,Ln.sameB _ rfl,True.intro⟩ rfl ?_)|(refine FCall.pure (cS2) ⟨Ln.sameB _ rfl,Ln.sameB _ rfl,True.intro⟩ rfl ?_)|(refine FCall.pure (cSm) ⟨Ln.sameB _ rfl,Ln.sameB _ rfl,Ln.sameB _ rfl,True.intro⟩ rfl ?_)|(with_reducible refine wP ?_)))
  all_goals (try conv=>whnf)
  refine FWk.of [(9,.ptr 0 0),(17,.ptr 1 0),(18,AI 0),(19,.ptr 2 0),(20,AI 0),(21,.ptr 3 0),(22,AI 0),(23,.bool true),(24,AI 0)] [.box 2 (ofL [AI (loV s m r' c'),AI (hiV s m r' c')]),.box 2 (ofL [AI (loV s m r' c'),AI (hiV s m r' c')]),.box 4 (cPrn s m),.box 4 (cPrn s m)] [2,4,5,6] Cut.A allA ?_
  (repeat' ((try conv=>whnf);first|(with_reducible first|refine FCond.t rfl ?_|refine FCond.f rfl ?_)|((with_reducible refine FCond.uT (fun hq=>?_));rw [hq];(with_reducible refine FCond.t rfl ?_);clear hq)|((with_reducible refine FCond.uF (fun hq=>?_));rw [hq];(with_reducible refine FCond.f rfl ?_);clear hq)|((with_reducible refine wJ (fun hq=>?_) (fun hq=>?_)) <;> (rw [hq];(with_reducible first|refine FCond.t rfl ?_|refine FCond.f rfl ?_);(try simp only [zA,zE,zD,zJ,zB,zI,wK,wL] at hq)))|(with_reducible first|refine wA ?_|refine wB ?_|refine wC ?_|refine wD ?_|refine wE ?_)|((with_reducible refine wN ?_ ?_);focus exact needA)|(with_reducible refine wG ?_)|(with_reducible refine And.intro rfl ?_)|(refine FCall.pure (cPr) ⟨Ln.sameB _ rfl,Ln.sameB _ rfl,True.intro⟩ rfl ?_)|(refine FCall.pure works_ok True.intro rfl ?_)|(with_reducible refine wP ?_)))
  all_goals (try conv=>whnf)
  all_goals first|((refine ⟨⟨_,[],[],Cut.nil _,Ln.sameB _ rfl,?_,rfl⟩⟩);rfl)|exact absurd hq (by simp)|fail
 ·rw [hf] at cF
  (repeat' ((try conv=>whnf);first|(with_reducible first|refine FCond.t rfl ?_|refine FCond.f rfl ?_)|((with_reducible refine FCond.uT (fun hq=>?_));rw [hq];(with_reducible refine FCond.t rfl ?_);clear hq)|((with_reducible refine FCond.uF (fun hq=>?_));rw [hq];(with_reducible refine FCond.f rfl ?_);clear hq)|((with_reducible refine wJ (fun hq=>?_) (fun hq=>?_)) <;> (rw [hq];(with_reducible first|refine FCond.t rfl ?_|refine FCond.f rfl ?_);(try simp only [zA,zE,zD,zJ,zB,zI,wK,wL] at hq)))|(with_reducible first|refine wA ?_|refine wB ?_|refine wC ?_|refine wD ?_|refine wE ?_)|((with_reducible refine wN ?_ ?_);focus exact needA)|(with_reducible refine wG ?_)|(refine FCall.pure works_ok True.intro rfl ?_)|(refine FCall.pure (cF) ⟨Ln.sameB _ rfl,True.intro⟩ rfl ?_)|(with_reducible refine wP ?_)))
  all_goals (try conv=>whnf)
  all_goals ((refine ⟨⟨_,[],[],Cut.nil _,Ln.sameB _ rfl,?_,rfl⟩⟩);rfl)
end Go.Proofs.Ytlffjnmbpoemnaa

namespace Go.Proofs.Ytlffjnmbpoemnaa
open Go.RowKit Go.ChangeShapes Go.WideShapes Go.Deep

section
variable {H:Type} {enc:TypeId × Value → H} {P:Program} {w:World} {base:Nat} {held:Bool}
theorem weights_all {e:TypeId} {d:DataW H} {n:Nat}:∀ {l:List (DataW H)},d ∈ l → n ∈ d.weights P e → n ∈ DataW.weightsAll P e l
 | x :: r,hd,hn=>by
  simp only [DataW.weightsAll,List.mem_append]
  rcases List.mem_cons.1 hd with rfl|hd
  ·exact .inl hn
  ·exact .inr (weights_all hd hn)
theorem len_w {t e:TypeId} {B n:Nat} {v:Value} {y:DataW H × List MemPlace} (ht:P.underlying t = some (.slice e)) (h:DataW.trod enc P w base (fun _=>true) held n t [v] = some y) (hw:∀ k ∈ y.1.weights P t,k ≤ B) {A:Option Addr} {len cap:Nat} (hv:v = .slice A len cap):len * P.bytesOf e ≤ B:=by
 subst hv
 rcases open_slice ht h with ⟨h0,_⟩|⟨a,len',cap',m,n',D,Pl,h0,hb,hl,hm,hmm,rfl,hx⟩
 ·injection h0 with h0
  injection h0 with e1 e2 e3
  subst e2
  rw [Nat.zero_mul]
  exact Nat.zero_le _
 ·injection h0 with h0
  injection h0 with e1 e2 e3
  subst e2
  have:=hw ((((List.range len).map D).length + ((List.range (m - len)).map fun j=>D (len + j)).length) * P.bytesOf e) (by simp only [DataW.weights,ht];exact List.mem_cons_self)
  rw [List.length_map,List.length_range] at this
  exact Nat.le_trans (Nat.mul_le_mul_right _ (Nat.le_add_right _ _)) this
theorem rows_w {t e i:TypeId} {B n:Nat} {v:Value} {y:DataW H × List MemPlace} (ht:P.underlying t = some (.slice e)) (he:P.underlying e = some (.slice i)) (hc:P.cellsOf e = 1) (h:DataW.trod enc P w base (fun _=>true) held n t [v] = some y) (hw:∀ k ∈ y.1.weights P t,k ≤ B)
  {z f:Bool} {rz re:Nat → Bool} {sz:Nat} {len:Nat → Nat} {N:Nat} {c:Nat → Nat → Nat → AV} (hr:rep nobody w (.sl z f N 1 (fun k _=>.sl (rz k) (re k) (len k) sz (c k))) g0 v):N * P.bytesOf e ≤ B ∧ ∀ k,k < N → len k * P.bytesOf i ≤ B:=by
 obtain ⟨A,cap,hv,-,hz,-,-,hcell⟩:=hr
 refine ⟨len_w ht h hw hv,fun k hk=>?_⟩
 subst hv
 rcases open_slice1 ht hc h with ⟨h0,_⟩|⟨a,len',cap',m,n',V,D,Pl,h0,hb,hl,hm,hmm,rfl,hx⟩
 ·injection h0 with h0
  injection h0 with e1 e2 e3
  omega
 ·injection h0 with h0
  injection h0 with e1 e2 e3
  subst e1;subst e2
  obtain ⟨b,off,u,hA,-,-,hu,-,A',cap2,hu2,-⟩:=hcell k hk 0 Nat.one_pos
  injection hA with hA
  subst hA
  have hkm:k < m:=by
   rw [hmm];split <;> omega
  obtain ⟨g1,g2⟩:=hx k hkm
  have hform:(⟨b,off,none⟩:Addr).add k = ⟨b,off + k * 1 + 0,none⟩:=by
   unfold Addr.add
   by_cases hx0:k = 0 <;> simp [hx0]
  rw [hform,hu] at g1
  injection g1 with g1
  subst g1
  refine len_w he g2 (fun q hq=>hw q ?_) hu2
  simp only [DataW.weights,ht]
  exact List.mem_cons_of_mem _ (List.mem_append_left _ (weights_all (List.mem_map.2 ⟨k,List.mem_range.2 hk,rfl⟩) hq))
/-- The first field of a struct, rows of numbers. -/
theorem field_w {t e i s0:TypeId} {fs:Array Field} {B n:Nat} {cs:List Value} {y:DataW H × List MemPlace} (hs:P.underlying s0 = some (.struct fs)) {f0:Field} (hf:fs[0]? = some f0) (ho:f0.offset = 0) (h1:P.cellsOf f0.type = 1) (htt:f0.type = t) (ht:P.underlying t = some (.slice e)) (he:P.underlying e = some (.slice i)) (hc:P.cellsOf e = 1)
  (h:DataW.trod enc P w base (fun _=>true) held n s0 cs = some y) (hw:∀ k ∈ y.1.weights P s0,k ≤ B) {m:Nat} {q:Nat → AV} (hcs:CellsAre w cs m q) (hm:0 < m)
  {z f:Bool} {rz re:Nat → Bool} {sz:Nat} {len:Nat → Nat} {N:Nat} {c:Nat → Nat → Nat → AV} (hq:q 0 = .sl z f N 1 (fun k _=>.sl (rz k) (re k) (len k) sz (c k))):N * P.bytesOf e ≤ B ∧ ∀ k,k < N → len k * P.bytesOf i ≤ B:=by
 obtain ⟨xs,n',rfl,rfl,hl,hlen,hx⟩:=DataW.trod_struct hs h
 have hx0:=hx 0 f0 hf
 obtain ⟨u,hu,-,hrep⟩:=hcs.2 0 hm
 have hcu:(cs.drop f0.offset).take (P.cellsOf f0.type) = [u]:=by
  rw [ho,h1,List.drop_zero]
  cases cs with
  | nil=>simp at hu
  | cons a r=>simp at hu;subst hu;rfl
 rw [hcu] at hx0
 have hpos:0 < xs.length:=by
  rw [hlen]
  rcases Nat.eq_zero_or_pos fs.size with h0|h0
  ·rw [Array.getElem?_eq_none (by omega)] at hf;cases hf
  ·exact h0
 rw [List.getElem?_eq_getElem hpos,htt] at hx0
 rw [hq] at hrep
 refine rows_w ht he hc hx0 (fun k hk=>hw k ?_) hrep
 simp only [DataW.weights,hs]
 refine DataW.weights_mem_each (j:=0) (t:=t) (d:=xs[0].1) ?_ ?_ k hk
 ·rw [List.getElem?_map,Array.getElem?_toList,hf,← htt];rfl
 ·rw [List.getElem?_map,List.getElem?_eq_getElem hpos];rfl
end
end Go.Proofs.Ytlffjnmbpoemnaa
