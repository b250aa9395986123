/- TopAble: nobody at all, the early exits, and the law for any input (printed by gen_tae.py). / Teams: how crews and jobs read. / TopAble: how papers, and lists of lists of papers and of truths, read. -/
import Derived.Test.YtkejebdfbkgaiaaBb2
import Derived.Test.YtkejebdfbkgaiaaBb3
import Derived.Test.YtkejebdfbkgaiaaBa31
import Derived.Test.YtkejebdfbkgaiaaBa16
import Derived.Test.YtkejebdfbkgaiaaBb1
set_option linter.unusedSimpArgs false
set_option linter.unusedVariables false
namespace Go.Proofs.Ytkejebdfbkgaiaa
open Go.RowKit

theorem team_none {c:Crew} {j:Job} (h0:checkT c j = 0) (hn:c.people.length = 0):(teamE c j).2.2 = 3:=by
 have hb:(bestT c j).1 = 0:=by
  rcases best_two c j with ⟨h,_⟩|⟨_,h,_⟩
  ·exact h
  ·rw [hn] at h;omega
 unfold teamE
 rw [if_pos h0,if_pos hb]
theorem near_small' {c:Crew} (h:NearT c):SmallC c:=⟨by have:=h.pl;omega,by have:=h.wl;omega,fun i hi=>by have:=h.ps i hi;omega⟩
set_option maxHeartbeats 16000000
set_option maxRecDepth 100000
theorem able0 (f:CFl) (c:Crew) (j:Job) (x:Cert) (hn:c.people.length = 0) (hc0:checkT c j = 0) (hfar:farT c = false) (hl3:c.langs ≤ 3) (hpl:x.pl.length = 0) (htl0:x.tl.length = 0) (hs:SmallC c) :
  ACall Try.prog 3 [aCrew f c,aJob j,.agg 2 (ofL [aPL x,aTL x])] [] (fun r h=>r = .bool true ∧ h = []):=by
 have cA:=farT_ok f c
 rw [hfar] at cA
 have cK:=refCheck_ok f c j
 rw [hc0] at cK
 have cCp:=copy_pub f c hs
 (refine fcall_of mixed Try.func3 rfl (by decide) (hs:={ pub:=[4],ord:=[(12,[(0,[]),(1,[]),(2,[]),(3,[]),(4,[]),(5,[]),(6,[]),(7,[]),(8,[]),(9,[]),(10,[]),(11,[]),(12,[]),(13,[]),(14,[]),(15,[]),(16,[1,4,7,9,12,15]),(17,[9,12,15]),(18,[])]),(19,[(0,[]),(1,[]),(2,[]),(3,[]),(4,[]),(5,[]),(6,[]),(7,[]),(8,[]),(9,[]),(10,[1,5,7]),(11,[1,5]),(12,[]),(13,[])])],alt:=[(3,⟨[0,2],(.alt 1 [] (.alt 3 [] (.alt 4 [] (.alt 5 [] (.alt 6 [] (.alt 7 [] .leaf .leaf) .leaf) .leaf) (.alt 5 [] (.alt 4 [] (.alt 6 [] (.alt 7 [] .leaf .leaf) .leaf) .leaf) .leaf)) (.alt 4 [] (.alt 3 [] (.alt 5 [] (.alt 6 [] (.alt 7 [] .leaf .leaf) .leaf) .leaf) (.alt 5 [] (.alt 3 [] (.alt 6 [] (.alt 7 [] .leaf .leaf) .leaf) .leaf) .leaf)) (.alt 5 [] (.alt 3 [] (.alt 4 [] (.alt 6 [] (.alt 7 [] .leaf .leaf) .leaf) .leaf) (.alt 4 [] (.alt 3 [] (.alt 6 [] (.alt 7 [] .leaf .leaf) .leaf) .leaf) .leaf)) .leaf))) (.alt 4 [] (.alt 1 [] (.alt 3 [] (.alt 5 [] (.alt 6 [] (.alt 7 [] .leaf .leaf) .leaf) .leaf) (.alt 5 [] (.alt 3 [] (.alt 6 [] (.alt 7 [] .leaf .leaf) .leaf) .leaf) .leaf)) (.alt 5 [] (.alt 1 [] (.alt 3 [] (.alt 6 [] (.alt 7 [] .leaf .leaf) .leaf) .leaf) .leaf) .leaf)) (.alt 5 [] (.alt 1 [] (.alt 3 [] (.alt 4 [] (.alt 6 [] (.alt 7 [] .leaf .leaf) .leaf) .leaf) (.alt 4 [] (.alt 3 [] (.alt 6 [] (.alt 7 [] .leaf .leaf) .leaf) .leaf) .leaf)) (.alt 4 [] (.alt 1 [] (.alt 3 [] (.alt 6 [] (.alt 7 [] .leaf .leaf) .leaf) .leaf) .leaf) .leaf)) .leaf))),[(1,[2]),(4,[0,2]),(5,[0,2])]⟩)] }) ?k (ac:=?ac) ?c (rs:=?rs) ?r ?l ?H;(case k=>kernel_rfl);(case c=>(conv=>(lhs;cbv)));(case r=>(conv=>(lhs;cbv)));(case l=>exact Nat.le_of_ble_eq_true rfl))
 ·apply cutG
  ·intro rest
   (repeat' ((try conv=>whnf);first|(with_reducible first|refine FCond.t rfl ?_|refine FCond.f rfl ?_)|((with_reducible refine FCond.uT (fun hq=>?_));rw [hq];(with_reducible refine FCond.t rfl ?_);clear hq)|((with_reducible refine FCond.uF (fun hq=>?_));rw [hq];(with_reducible refine FCond.f rfl ?_);clear hq)|((with_reducible refine wJ (fun hq=>?_) (fun hq=>?_)) <;> (rw [hq];(with_reducible first|refine FCond.t rfl ?_|refine FCond.f rfl ?_);(try simp only [zA,zE,zD,zJ,zB,zI,wK,wL] at hq)))|(with_reducible first|refine wA ?_|refine wB ?_|refine wC ?_|refine wD ?_|refine wE ?_)|((with_reducible refine wN ?_ ?_);focus exact needA)|(with_reducible refine wG ?_)|(refine FCall.pure (cA) ⟨Ln.sameB _ rfl,True.intro⟩ rfl ?_)|(refine FCall.pure (cK) ⟨Ln.sameB _ rfl,Ln.sameB _ rfl,True.intro⟩ rfl ?_)|(refine FAlt.mk ?_ ?_)|(refine FCall.pure (cCp) ⟨Ln.sameB _ rfl,True.intro⟩ rfl ?_)|(with_reducible refine wP ?_)))
   all_goals (try conv=>whnf)
   all_goals first
    | (exfalso;omega)
    | exact FWk.of [(3,.ptr 0 0),(4,.ptr 1 0),(5,.ptr 2 0),(7,.ptr 3 0),(8,.ptr 4 0)] [.box 3 (cCrew f c),.box 6 (cJob j),.box 2 (ofL [aPL x,aTL x]),.box 3 (cCrew (flC c) c),.box 3 (cCrew (flC c) c)] [0,1,2,3,4] (wO rfl rfl rfl (wV rfl (LnB.boxN ⟨⟨⟨True.intro,Ln.sameB _ rfl⟩,Ln.sameB _ rfl⟩,Ln.sameB _ rfl⟩) (wV rfl (LnB.boxN ⟨⟨⟨⟨⟨⟨True.intro,Ln.sameB _ rfl⟩,Ln.sameB _ rfl⟩,Ln.sameB _ rfl⟩,Ln.sameB _ rfl⟩,Ln.sameB _ rfl⟩,Ln.sameB _ rfl⟩) (wV rfl (LnB.boxN ⟨⟨True.intro,Ln.sameB _ rfl⟩,Ln.sameB _ rfl⟩) (wV rfl (LnB.boxN ⟨⟨⟨True.intro,Ln.sameB _ rfl⟩,Ln.sameB _ rfl⟩,Ln.sameB _ rfl⟩) (wV rfl (LnB.boxN ⟨⟨⟨True.intro,Ln.sameB _ rfl⟩,Ln.sameB _ rfl⟩,Ln.sameB _ rfl⟩) wX)))))) ⟨Ln.ptr _ _ _ rfl,Ln.ptr _ _ _ rfl,Ln.ptr _ _ _ rfl,Ln.ptr _ _ _ rfl,Ln.ptr _ _ _ rfl,True.intro⟩ rest.h
    | exact FWk.of [(3,.ptr 0 0),(4,.ptr 1 0),(5,.ptr 2 0),(7,.ptr 3 0),(8,.ptr 4 0)] [.box 3 (cCrew f c),.box 6 (cJob j),.box 2 (ofL [aPL x,aTL x]),.box 3 (cCrew (flC c) c),.box 3 (cCrew (flC c) c)] [0,1,2,4,3] (wO rfl rfl rfl (wV rfl (LnB.boxN ⟨⟨⟨True.intro,Ln.sameB _ rfl⟩,Ln.sameB _ rfl⟩,Ln.sameB _ rfl⟩) (wV rfl (LnB.boxN ⟨⟨⟨⟨⟨⟨True.intro,Ln.sameB _ rfl⟩,Ln.sameB _ rfl⟩,Ln.sameB _ rfl⟩,Ln.sameB _ rfl⟩,Ln.sameB _ rfl⟩,Ln.sameB _ rfl⟩) (wV rfl (LnB.boxN ⟨⟨True.intro,Ln.sameB _ rfl⟩,Ln.sameB _ rfl⟩) (wV rfl (LnB.boxN ⟨⟨⟨True.intro,Ln.sameB _ rfl⟩,Ln.sameB _ rfl⟩,Ln.sameB _ rfl⟩) (wV rfl (LnB.boxN ⟨⟨⟨True.intro,Ln.sameB _ rfl⟩,Ln.sameB _ rfl⟩,Ln.sameB _ rfl⟩) wX)))))) ⟨Ln.ptr _ _ _ rfl,Ln.ptr _ _ _ rfl,Ln.ptr _ _ _ rfl,Ln.ptr _ _ _ rfl,Ln.ptr _ _ _ rfl,True.intro⟩ rest.h
    | fail
  (try conv=>whnf)
  clear cA cK cCp
  (repeat' ((try conv=>whnf);first|(with_reducible first|refine FCond.t rfl ?_|refine FCond.f rfl ?_)|((with_reducible refine FCond.uT (fun hq=>?_));rw [hq];(with_reducible refine FCond.t rfl ?_);clear hq)|((with_reducible refine FCond.uF (fun hq=>?_));rw [hq];(with_reducible refine FCond.f rfl ?_);clear hq)|((with_reducible refine wJ (fun hq=>?_) (fun hq=>?_)) <;> (rw [hq];(with_reducible first|refine FCond.t rfl ?_|refine FCond.f rfl ?_);(try simp only [zA,zE,zD,zJ,zB,zI,wK,wL] at hq)))|(with_reducible first|refine wA ?_|refine wB ?_|refine wC ?_|refine wD ?_|refine wE ?_)|((with_reducible refine wN ?_ ?_);focus exact needA)|(with_reducible refine wG ?_)|(with_reducible refine wP ?_)))
  all_goals (try conv=>whnf)
  refine FLoop.of (ACalls.mono _) (X:=Nat) (fun i=>[(3,.ptr 0 0),(4,.ptr 1 0),(5,.ptr 2 0),(7,.ptr 3 0),(8,.ptr 4 0),(9,AI i)]) (fun _=>[.box 3 (cCrew f c),.box 6 (cJob j),.box 2 (ofL [aPL x,aTL x]),.box 3 (cCrew (flC c) c),.box 3 (cCrew (flC c) c)]) (fun i=>i = 0) (fun i=>0) 0 ⟨rfl,[0,1,2,3,4],(wO rfl rfl rfl (wV rfl (LnB.A) (wV rfl (LnB.A) (wV rfl (LnB.A) (wV rfl (LnB.A) (wV rfl (LnB.A) wX)))))),allA⟩ ?_
  intro i hx
  have d1:=pteam_ok (flC c) c j
  have h3:=team_none hc0 hn
  obtain rfl:=hx
  (repeat' ((try conv=>whnf);first|(with_reducible first|refine FCond.t rfl ?_|refine FCond.f rfl ?_)|((with_reducible refine FCond.uT (fun hq=>?_));rw [hq];(with_reducible refine FCond.t rfl ?_);clear hq)|((with_reducible refine FCond.uF (fun hq=>?_));rw [hq];(with_reducible refine FCond.f rfl ?_);clear hq)|((with_reducible refine wJ (fun hq=>?_) (fun hq=>?_)) <;> (rw [hq];(with_reducible first|refine FCond.t rfl ?_|refine FCond.f rfl ?_);(try simp only [zA,zE,zD,zJ,zB,zI,wK,wL] at hq)))|(with_reducible first|refine wA ?_|refine wB ?_|refine wC ?_|refine wD ?_|refine wE ?_)|((with_reducible refine wN ?_ ?_);focus exact needA)|(with_reducible refine wG ?_)|(refine FCall.pure (d1) ⟨Ln.sameB _ rfl,Ln.sameB _ rfl,True.intro⟩ rfl ?_)|(refine FCall.pure able_ok True.intro rfl ?_)|(with_reducible refine wP ?_)))
  all_goals (try conv=>whnf)
  all_goals first
   | (exfalso;omega)
   | ((refine ⟨⟨_,[],[],Cut.nil _,Ln.sameB _ rfl,?_,rfl⟩⟩);rfl)
theorem able_far (f:CFl) (c:Crew) (j:Job) (x:Cert) (h:farT c = true):ACall Try.prog 3 [aCrew f c,aJob j,.agg 2 (ofL [aPL x,aTL x])] [] (fun r h=>r = .bool true ∧ h = []):=by
 have cA:=farT_ok f c
 rw [h] at cA
 (refine fcall_of mixed Try.func3 rfl (by decide) (hs:={ ord:=[(12,[(0,[]),(1,[]),(2,[]),(3,[]),(4,[]),(5,[]),(6,[]),(7,[]),(8,[]),(9,[]),(10,[]),(11,[]),(12,[]),(13,[]),(14,[]),(15,[]),(16,[1,4,7,9,12,15]),(17,[9,12,15]),(18,[])]),(19,[(0,[]),(1,[]),(2,[]),(3,[]),(4,[]),(5,[]),(6,[]),(7,[]),(8,[]),(9,[]),(10,[1,5,7]),(11,[1,5]),(12,[]),(13,[])])],alt:=[(3,⟨[0,2],(.alt 1 [] (.alt 3 [] (.alt 4 [] (.alt 5 [] (.alt 6 [] (.alt 7 [] .leaf .leaf) .leaf) .leaf) (.alt 5 [] (.alt 4 [] (.alt 6 [] (.alt 7 [] .leaf .leaf) .leaf) .leaf) .leaf)) (.alt 4 [] (.alt 3 [] (.alt 5 [] (.alt 6 [] (.alt 7 [] .leaf .leaf) .leaf) .leaf) (.alt 5 [] (.alt 3 [] (.alt 6 [] (.alt 7 [] .leaf .leaf) .leaf) .leaf) .leaf)) (.alt 5 [] (.alt 3 [] (.alt 4 [] (.alt 6 [] (.alt 7 [] .leaf .leaf) .leaf) .leaf) (.alt 4 [] (.alt 3 [] (.alt 6 [] (.alt 7 [] .leaf .leaf) .leaf) .leaf) .leaf)) .leaf))) (.alt 4 [] (.alt 1 [] (.alt 3 [] (.alt 5 [] (.alt 6 [] (.alt 7 [] .leaf .leaf) .leaf) .leaf) (.alt 5 [] (.alt 3 [] (.alt 6 [] (.alt 7 [] .leaf .leaf) .leaf) .leaf) .leaf)) (.alt 5 [] (.alt 1 [] (.alt 3 [] (.alt 6 [] (.alt 7 [] .leaf .leaf) .leaf) .leaf) .leaf) .leaf)) (.alt 5 [] (.alt 1 [] (.alt 3 [] (.alt 4 [] (.alt 6 [] (.alt 7 [] .leaf .leaf) .leaf) .leaf) (.alt 4 [] (.alt 3 [] (.alt 6 [] (.alt 7 [] .leaf .leaf) .leaf) .leaf) .leaf)) (.alt 4 [] (.alt 1 [] (.alt 3 [] (.alt 6 [] (.alt 7 [] .leaf .leaf) .leaf) .leaf) .leaf) .leaf)) .leaf))),[(1,[2]),(4,[0,2]),(5,[0,2])]⟩)] }) ?k (ac:=?ac) ?c (rs:=?rs) ?r ?l ?H;(case k=>kernel_rfl);(case c=>(conv=>(lhs;cbv)));(case r=>(conv=>(lhs;cbv)));(case l=>exact Nat.le_of_ble_eq_true rfl))
 (repeat' ((try conv=>whnf);first|(with_reducible first|refine FCond.t rfl ?_|refine FCond.f rfl ?_)|((with_reducible refine FCond.uT (fun hq=>?_));rw [hq];(with_reducible refine FCond.t rfl ?_);clear hq)|((with_reducible refine FCond.uF (fun hq=>?_));rw [hq];(with_reducible refine FCond.f rfl ?_);clear hq)|((with_reducible refine wJ (fun hq=>?_) (fun hq=>?_)) <;> (rw [hq];(with_reducible first|refine FCond.t rfl ?_|refine FCond.f rfl ?_);(try simp only [zA,zE,zD,zJ,zB,zI,wK,wL] at hq)))|(with_reducible first|refine wA ?_|refine wB ?_|refine wC ?_|refine wD ?_|refine wE ?_)|((with_reducible refine wN ?_ ?_);focus exact needA)|(with_reducible refine wG ?_)|(refine FCall.pure (cA) ⟨Ln.sameB _ rfl,True.intro⟩ rfl ?_)|(refine FCall.pure able_ok True.intro rfl ?_)|(with_reducible refine wP ?_)))
 all_goals (try conv=>whnf)
 all_goals ((refine ⟨⟨_,[],[],Cut.nil _,Ln.sameB _ rfl,?_,rfl⟩⟩);rfl)
theorem able_bad (f:CFl) (c:Crew) (j:Job) (x:Cert) (h:farT c = false) (h2:checkT c j ≠ 0):ACall Try.prog 3 [aCrew f c,aJob j,.agg 2 (ofL [aPL x,aTL x])] [] (fun r h=>r = .bool true ∧ h = []):=by
 have cA:=farT_ok f c
 rw [h] at cA
 have cK:=refCheck_ok f c j
 (refine fcall_of mixed Try.func3 rfl (by decide) (hs:={ ord:=[(12,[(0,[]),(1,[]),(2,[]),(3,[]),(4,[]),(5,[]),(6,[]),(7,[]),(8,[]),(9,[]),(10,[]),(11,[]),(12,[]),(13,[]),(14,[]),(15,[]),(16,[1,4,7,9,12,15]),(17,[9,12,15]),(18,[])]),(19,[(0,[]),(1,[]),(2,[]),(3,[]),(4,[]),(5,[]),(6,[]),(7,[]),(8,[]),(9,[]),(10,[1,5,7]),(11,[1,5]),(12,[]),(13,[])])],alt:=[(3,⟨[0,2],(.alt 1 [] (.alt 3 [] (.alt 4 [] (.alt 5 [] (.alt 6 [] (.alt 7 [] .leaf .leaf) .leaf) .leaf) (.alt 5 [] (.alt 4 [] (.alt 6 [] (.alt 7 [] .leaf .leaf) .leaf) .leaf) .leaf)) (.alt 4 [] (.alt 3 [] (.alt 5 [] (.alt 6 [] (.alt 7 [] .leaf .leaf) .leaf) .leaf) (.alt 5 [] (.alt 3 [] (.alt 6 [] (.alt 7 [] .leaf .leaf) .leaf) .leaf) .leaf)) (.alt 5 [] (.alt 3 [] (.alt 4 [] (.alt 6 [] (.alt 7 [] .leaf .leaf) .leaf) .leaf) (.alt 4 [] (.alt 3 [] (.alt 6 [] (.alt 7 [] .leaf .leaf) .leaf) .leaf) .leaf)) .leaf))) (.alt 4 [] (.alt 1 [] (.alt 3 [] (.alt 5 [] (.alt 6 [] (.alt 7 [] .leaf .leaf) .leaf) .leaf) (.alt 5 [] (.alt 3 [] (.alt 6 [] (.alt 7 [] .leaf .leaf) .leaf) .leaf) .leaf)) (.alt 5 [] (.alt 1 [] (.alt 3 [] (.alt 6 [] (.alt 7 [] .leaf .leaf) .leaf) .leaf) .leaf) .leaf)) (.alt 5 [] (.alt 1 [] (.alt 3 [] (.alt 4 [] (.alt 6 [] (.alt 7 [] .leaf .leaf) .leaf) .leaf) (.alt 4 [] (.alt 3 [] (.alt 6 [] (.alt 7 [] .leaf .leaf) .leaf) .leaf) .leaf)) (.alt 4 [] (.alt 1 [] (.alt 3 [] (.alt 6 [] (.alt 7 [] .leaf .leaf) .leaf) .leaf) .leaf) .leaf)) .leaf))),[(1,[2]),(4,[0,2]),(5,[0,2])]⟩)] }) ?k (ac:=?ac) ?c (rs:=?rs) ?r ?l ?H;(case k=>kernel_rfl);(case c=>(conv=>(lhs;cbv)));(case r=>(conv=>(lhs;cbv)));(case l=>exact Nat.le_of_ble_eq_true rfl))
 (repeat' ((try conv=>whnf);first|(with_reducible first|refine FCond.t rfl ?_|refine FCond.f rfl ?_)|((with_reducible refine FCond.uT (fun hq=>?_));rw [hq];(with_reducible refine FCond.t rfl ?_);clear hq)|((with_reducible refine FCond.uF (fun hq=>?_));rw [hq];(with_reducible refine FCond.f rfl ?_);clear hq)|((with_reducible refine wJ (fun hq=>?_) (fun hq=>?_)) <;> (rw [hq];(with_reducible first|refine FCond.t rfl ?_|refine FCond.f rfl ?_);(try simp only [zA,zE,zD,zJ,zB,zI,wK,wL] at hq)))|(with_reducible first|refine wA ?_|refine wB ?_|refine wC ?_|refine wD ?_|refine wE ?_)|((with_reducible refine wN ?_ ?_);focus exact needA)|(with_reducible refine wG ?_)|(refine FCall.pure (cA) ⟨Ln.sameB _ rfl,True.intro⟩ rfl ?_)|(refine FCall.pure (cK) ⟨Ln.sameB _ rfl,Ln.sameB _ rfl,True.intro⟩ rfl ?_)|(refine FCall.pure able_ok True.intro rfl ?_)|(with_reducible refine wP ?_)))
 all_goals (try conv=>whnf)
 all_goals first
  | (exfalso;omega)
  | ((refine ⟨⟨_,[],[],Cut.nil _,Ln.sameB _ rfl,?_,rfl⟩⟩);rfl)
theorem able_big (f:CFl) (c:Crew) (j:Job) (x:Cert) (h:farT c = false) (h2:checkT c j = 0) (h3:¬ (c.people.length ≤ 3 ∧ c.langs ≤ 3 ∧ x.pl.length = c.people.length ∧ x.tl.length = c.people.length)):ACall Try.prog 3 [aCrew f c,aJob j,.agg 2 (ofL [aPL x,aTL x])] [] (fun r h=>r = .bool true ∧ h = []):=by
 have cA:=farT_ok f c
 rw [h] at cA
 have cK:=refCheck_ok f c j
 rw [h2] at cK
 (refine fcall_of mixed Try.func3 rfl (by decide) (hs:={ ord:=[(12,[(0,[]),(1,[]),(2,[]),(3,[]),(4,[]),(5,[]),(6,[]),(7,[]),(8,[]),(9,[]),(10,[]),(11,[]),(12,[]),(13,[]),(14,[]),(15,[]),(16,[1,4,7,9,12,15]),(17,[9,12,15]),(18,[])]),(19,[(0,[]),(1,[]),(2,[]),(3,[]),(4,[]),(5,[]),(6,[]),(7,[]),(8,[]),(9,[]),(10,[1,5,7]),(11,[1,5]),(12,[]),(13,[])])],alt:=[(3,⟨[0,2],(.alt 1 [] (.alt 3 [] (.alt 4 [] (.alt 5 [] (.alt 6 [] (.alt 7 [] .leaf .leaf) .leaf) .leaf) (.alt 5 [] (.alt 4 [] (.alt 6 [] (.alt 7 [] .leaf .leaf) .leaf) .leaf) .leaf)) (.alt 4 [] (.alt 3 [] (.alt 5 [] (.alt 6 [] (.alt 7 [] .leaf .leaf) .leaf) .leaf) (.alt 5 [] (.alt 3 [] (.alt 6 [] (.alt 7 [] .leaf .leaf) .leaf) .leaf) .leaf)) (.alt 5 [] (.alt 3 [] (.alt 4 [] (.alt 6 [] (.alt 7 [] .leaf .leaf) .leaf) .leaf) (.alt 4 [] (.alt 3 [] (.alt 6 [] (.alt 7 [] .leaf .leaf) .leaf) .leaf) .leaf)) .leaf))) (.alt 4 [] (.alt 1 [] (.alt 3 [] (.alt 5 [] (.alt 6 [] (.alt 7 [] .leaf .leaf) .leaf) .leaf) (.alt 5 [] (.alt 3 [] (.alt 6 [] (.alt 7 [] .leaf .leaf) .leaf) .leaf) .leaf)) (.alt 5 [] (.alt 1 [] (.alt 3 [] (.alt 6 [] (.alt 7 [] .leaf .leaf) .leaf) .leaf) .leaf) .leaf)) (.alt 5 [] (.alt 1 [] (.alt 3 [] (.alt 4 [] (.alt 6 [] (.alt 7 [] .leaf .leaf) .leaf) .leaf) (.alt 4 [] (.alt 3 [] (.alt 6 [] (.alt 7 [] .leaf .leaf) .leaf) .leaf) .leaf)) (.alt 4 [] (.alt 1 [] (.alt 3 [] (.alt 6 [] (.alt 7 [] .leaf .leaf) .leaf) .leaf) .leaf) .leaf)) .leaf))),[(1,[2]),(4,[0,2]),(5,[0,2])]⟩)] }) ?k (ac:=?ac) ?c (rs:=?rs) ?r ?l ?H;(case k=>kernel_rfl);(case c=>(conv=>(lhs;cbv)));(case r=>(conv=>(lhs;cbv)));(case l=>exact Nat.le_of_ble_eq_true rfl))
 by_cases k1:c.people.length ≤ 3
 ·by_cases k2:c.langs ≤ 3
  ·by_cases k3:x.pl.length = c.people.length
   ·have k4:x.tl.length ≠ c.people.length:=fun k=>h3 ⟨k1,k2,k3,k⟩
    clear h3
    (repeat' ((try conv=>whnf);first|(with_reducible first|refine FCond.t rfl ?_|refine FCond.f rfl ?_)|((with_reducible refine FCond.uT (fun hq=>?_));rw [hq];(with_reducible refine FCond.t rfl ?_);clear hq)|((with_reducible refine FCond.uF (fun hq=>?_));rw [hq];(with_reducible refine FCond.f rfl ?_);clear hq)|((with_reducible refine wJ (fun hq=>?_) (fun hq=>?_)) <;> (rw [hq];(with_reducible first|refine FCond.t rfl ?_|refine FCond.f rfl ?_);(try simp only [zA,zE,zD,zJ,zB,zI,wK,wL] at hq)))|(with_reducible first|refine wA ?_|refine wB ?_|refine wC ?_|refine wD ?_|refine wE ?_)|((with_reducible refine wN ?_ ?_);focus exact needA)|(with_reducible refine wG ?_)|(refine FCall.pure (cA) ⟨Ln.sameB _ rfl,True.intro⟩ rfl ?_)|(refine FCall.pure (cK) ⟨Ln.sameB _ rfl,Ln.sameB _ rfl,True.intro⟩ rfl ?_)|(refine FCall.pure able_ok True.intro rfl ?_)|(with_reducible refine wP ?_)))
    all_goals (try conv=>whnf)
    all_goals first
     | (exfalso;omega)
     | ((refine ⟨⟨_,[],[],Cut.nil _,Ln.sameB _ rfl,?_,rfl⟩⟩);rfl)
   ·clear h3
    (repeat' ((try conv=>whnf);first|(with_reducible first|refine FCond.t rfl ?_|refine FCond.f rfl ?_)|((with_reducible refine FCond.uT (fun hq=>?_));rw [hq];(with_reducible refine FCond.t rfl ?_);clear hq)|((with_reducible refine FCond.uF (fun hq=>?_));rw [hq];(with_reducible refine FCond.f rfl ?_);clear hq)|((with_reducible refine wJ (fun hq=>?_) (fun hq=>?_)) <;> (rw [hq];(with_reducible first|refine FCond.t rfl ?_|refine FCond.f rfl ?_);(try simp only [zA,zE,zD,zJ,zB,zI,wK,wL] at hq)))|(with_reducible first|refine wA ?_|refine wB ?_|refine wC ?_|refine wD ?_|refine wE ?_)|((with_reducible refine wN ?_ ?_);focus exact needA)|(with_reducible refine wG ?_)|(refine FCall.pure (cA) ⟨Ln.sameB _ rfl,True.intro⟩ rfl ?_)|(refine FCall.pure (cK) ⟨Ln.sameB _ rfl,Ln.sameB _ rfl,True.intro⟩ rfl ?_)|(refine FCall.pure able_ok True.intro rfl ?_)|(with_reducible refine wP ?_)))
    all_goals (try conv=>whnf)
    all_goals first
     | (exfalso;omega)
     | ((refine ⟨⟨_,[],[],Cut.nil _,Ln.sameB _ rfl,?_,rfl⟩⟩);rfl)
  ·clear h3
   (repeat' ((try conv=>whnf);first|(with_reducible first|refine FCond.t rfl ?_|refine FCond.f rfl ?_)|((with_reducible refine FCond.uT (fun hq=>?_));rw [hq];(with_reducible refine FCond.t rfl ?_);clear hq)|((with_reducible refine FCond.uF (fun hq=>?_));rw [hq];(with_reducible refine FCond.f rfl ?_);clear hq)|((with_reducible refine wJ (fun hq=>?_) (fun hq=>?_)) <;> (rw [hq];(with_reducible first|refine FCond.t rfl ?_|refine FCond.f rfl ?_);(try simp only [zA,zE,zD,zJ,zB,zI,wK,wL] at hq)))|(with_reducible first|refine wA ?_|refine wB ?_|refine wC ?_|refine wD ?_|refine wE ?_)|((with_reducible refine wN ?_ ?_);focus exact needA)|(with_reducible refine wG ?_)|(refine FCall.pure (cA) ⟨Ln.sameB _ rfl,True.intro⟩ rfl ?_)|(refine FCall.pure (cK) ⟨Ln.sameB _ rfl,Ln.sameB _ rfl,True.intro⟩ rfl ?_)|(refine FCall.pure able_ok True.intro rfl ?_)|(with_reducible refine wP ?_)))
   all_goals (try conv=>whnf)
   all_goals first
    | (exfalso;omega)
    | ((refine ⟨⟨_,[],[],Cut.nil _,Ln.sameB _ rfl,?_,rfl⟩⟩);rfl)
 ·clear h3
  (repeat' ((try conv=>whnf);first|(with_reducible first|refine FCond.t rfl ?_|refine FCond.f rfl ?_)|((with_reducible refine FCond.uT (fun hq=>?_));rw [hq];(with_reducible refine FCond.t rfl ?_);clear hq)|((with_reducible refine FCond.uF (fun hq=>?_));rw [hq];(with_reducible refine FCond.f rfl ?_);clear hq)|((with_reducible refine wJ (fun hq=>?_) (fun hq=>?_)) <;> (rw [hq];(with_reducible first|refine FCond.t rfl ?_|refine FCond.f rfl ?_);(try simp only [zA,zE,zD,zJ,zB,zI,wK,wL] at hq)))|(with_reducible first|refine wA ?_|refine wB ?_|refine wC ?_|refine wD ?_|refine wE ?_)|((with_reducible refine wN ?_ ?_);focus exact needA)|(with_reducible refine wG ?_)|(refine FCall.pure (cA) ⟨Ln.sameB _ rfl,True.intro⟩ rfl ?_)|(refine FCall.pure (cK) ⟨Ln.sameB _ rfl,Ln.sameB _ rfl,True.intro⟩ rfl ?_)|(refine FCall.pure able_ok True.intro rfl ?_)|(with_reducible refine wP ?_)))
  all_goals (try conv=>whnf)
  all_goals first
   | (exfalso;omega)
   | ((refine ⟨⟨_,[],[],Cut.nil _,Ln.sameB _ rfl,?_,rfl⟩⟩);rfl)
theorem topAble_any (f:CFl) (c:Crew) (j:Job) (x:Cert) (hsz:∀ i k,k < (x.pl.getD i []).length → Sized (pAt x i k)) (htl:∀ i k,k < (x.tl.getD i []).length → (tAt x i k).length ≤ 9223372036854775807):ACall Try.prog 3 [aCrew f c,aJob j,.agg 2 (ofL [aPL x,aTL x])] [] (fun r h=>r = .bool true ∧ h = []):=by
 by_cases hfar:farT c = true
 ·exact able_far f c j x hfar
 have hfar:farT c = false:=by simpa using hfar
 by_cases hc0:checkT c j = 0
 ·by_cases hok:c.people.length ≤ 3 ∧ c.langs ≤ 3 ∧ x.pl.length = c.people.length ∧ x.tl.length = c.people.length
  ·obtain ⟨k1,k2,k3,k4⟩:=hok
   have hc:c.ok = true:=by
    unfold checkT at hc0
    split at hc0
    ·assumption
    ·cases hc0
   obtain ⟨⟨h2,_⟩,_,_,hp,_⟩:=crew_d hc
   have hlen:∀ i,i < c.people.length → ((c.people.getD i ps0).levels.length:Int) = c.langs:=fun i hi=>by
    have:=hp i hi
    unfold Person.ok at this
    simp only [Bool.and_eq_true,decide_eq_true_eq] at this
    exact this.1.1.1.1.1.1
   have hs:=near_small' (near_of hfar)
   by_cases n0:c.people.length = 0
   ·exact able0 f c j x n0 hc0 hfar k2 (by omega) (by omega) hs
   have cCp:=copy_all f c.langs c.people c.laws hs k1 (by omega) (fun i hi=>by have:=hlen i hi;omega)
   rcases (show c.people.length = 1 ∨ c.people.length = 2 ∨ c.people.length = 3 by omega) with hn|hn|hn
   ·rw [hn] at cCp;exact able1 f c j x hn hc0 hfar k2 (by omega) (by omega) hsz htl hlen h2 cCp
   ·rw [hn] at cCp;exact able2 f c j x hn hc0 hfar k2 (by omega) (by omega) hsz htl hlen h2 cCp
   ·rw [hn] at cCp;exact able3 f c j x hn hc0 hfar k2 (by omega) (by omega) hsz htl hlen h2 cCp
  ·exact able_big f c j x hfar hc0 hok
 ·exact able_bad f c j x hfar hc0
end Go.Proofs.Ytkejebdfbkgaiaa

namespace Go.Proofs.Ytkejebdfbkgaiaa
open Go.RowKit Go.ChangeShapes Go.WideShapes Go.Deep

section
variable {H:Type} {enc:TypeId × Value → H} {w:World} {base:Nat} {held:Bool}
theorem csz : Try.prog.cellsOf 3 = 1 ∧ Try.prog.cellsOf 41 = 1 ∧ Try.prog.cellsOf 4 = 1 ∧ Try.prog.cellsOf 52 = 6 ∧ Try.prog.cellsOf 22 = 1 ∧ Try.prog.cellsOf 94 = 3 ∧ Try.prog.cellsOf 23 = 1 ∧ Try.prog.cellsOf 25 = 3 ∧ Try.prog.cellsOf 27 = 6:=by
 refine ⟨?_,?_,?_,?_,?_,?_,?_,?_,?_⟩ <;> kernel_rfl
theorem rt_int {n:Nat} {cs:List Value} {y:DataW H × List MemPlace} (h:DataW.trod enc Try.prog w base (fun _=>true) held n 3 cs = some y):∃ i:Int,I64 i ∧ CellsAre w cs 1 (fun _=>AI i):=rdr_int Try.underlying3 h
theorem rt_bool {n:Nat} {cs:List Value} {y:DataW H × List MemPlace} (h:DataW.trod enc Try.prog w base (fun _=>true) held n 4 cs = some y):∃ b:Bool,CellsAre w cs 1 (fun _=>.bool b):=by
 obtain ⟨b,rfl,_⟩:=DataW.trod_bool Try.underlying4 h
 exact ⟨b,.one rfl rfl⟩
theorem rt_ints {n:Nat} {cs:List Value} {y:DataW H × List MemPlace} (h:DataW.trod enc Try.prog w base (fun _=>true) held n 41 cs = some y):∃ (z:Bool) (l:List Int),(l.length ≤ 9223372036854775807 ∧ ∀ x ∈ l,I64 x) ∧ CellsAre w cs 1 (fun _=>aInts z false l) :=
 rdr_slice (fun (x:Int) _=>AI x) I64 0 Try.underlying41 csz.1 (by omega) rt_int h
theorem rt_person {n:Nat} {cs:List Value} {y:DataW H × List MemPlace} (h:DataW.trod enc Try.prog w base (fun _=>true) held n 52 cs = some y):∃ x:PFl × Person,(I64 x.2.fields ∧ I64 x.2.clears ∧ I64 x.2.fee) ∧ CellsAre w cs 6 (cPerson x.1 x.2):=by
 obtain ⟨hl,⟨_,_,h0⟩,⟨_,_,h1⟩,⟨_,_,h2⟩,⟨_,_,h3⟩,⟨_,_,h4⟩,⟨_,_,h5⟩,_⟩:=rdr_fields Try.underlying52 h
 simp only [csz.1,csz.2.1,csz.2.2.1] at h0 h1 h2 h3 h4 h5
 obtain ⟨z0,a,_,c0⟩:=rt_ints h0
 obtain ⟨b,hb,c1⟩:=rt_int h1
 obtain ⟨c,hc,c2⟩:=rt_int h2
 obtain ⟨z3,d,_,c3⟩:=rt_ints h3
 obtain ⟨e,c4⟩:=rt_bool h4
 obtain ⟨f,hf,c5⟩:=rt_int h5
 refine ⟨(⟨z0,false,z3,false⟩,⟨a,b,c,d,e,f⟩),⟨hb,hc,hf⟩,by rw [hl];exact csz.2.2.2.1,fun o ho=>?_⟩
 rcases (show o = 0 ∨ o = 1 ∨ o = 2 ∨ o = 3 ∨ o = 4 ∨ o = 5 by omega) with rfl|rfl|rfl|rfl|rfl|rfl
 ·exact c0.sub (o:=0) (by omega)
 ·exact c1.sub (o:=0) (by omega)
 ·exact c2.sub (o:=0) (by omega)
 ·exact c3.sub (o:=0) (by omega)
 ·exact c4.sub (o:=0) (by omega)
 ·exact c5.sub (o:=0) (by omega)
theorem rt_people {n:Nat} {cs:List Value} {y:DataW H × List MemPlace} (h:DataW.trod enc Try.prog w base (fun _=>true) held n 22 cs = some y):∃ (z:Bool) (pf:Nat → PFl) (l:List Person),(l.length ≤ 9223372036854775807 ∧ ∀ x ∈ l,I64 x.fields ∧ I64 x.clears ∧ I64 x.fee) ∧ CellsAre w cs 1 (fun _=>aPeople z false pf l):=by
 obtain ⟨z,l,⟨h1,h2⟩,c⟩:=rdr_slice (fun (x:PFl × Person)=>cPerson x.1 x.2) (fun x=>I64 x.2.fields ∧ I64 x.2.clears ∧ I64 x.2.fee) (⟨true,true,true,true⟩,ps0) Try.underlying22 csz.2.2.2.1 (by omega) rt_person h
 have hb:∀ k,(l.map Prod.snd).getD k ps0 = (l.getD k (⟨true,true,true,true⟩,ps0)).2:=fun k=>by
  simp only [List.getD,List.getElem?_map]
  cases l[k]? <;> rfl
 refine ⟨z,fun k=>(l.getD k (⟨true,true,true,true⟩,ps0)).1,l.map Prod.snd,⟨by simpa using h1,fun x hx=>?_⟩,?_⟩
 ·obtain ⟨y,hy,rfl⟩:=List.mem_map.1 hx
  exact h2 y hy
 ·simp only [aPeople,List.length_map,hb]
  exact c
theorem rt_law {n:Nat} {cs:List Value} {y:DataW H × List MemPlace} (h:DataW.trod enc Try.prog w base (fun _=>true) held n 94 cs = some y):∃ x:LawT,True ∧ CellsAre w cs 3 (cLaw x):=by
 obtain ⟨hl,⟨_,_,h0⟩,⟨_,_,h1⟩,⟨_,_,h2⟩,_⟩:=rdr_fields Try.underlying94 h
 simp only [csz.1,csz.2.2.1] at h0 h1 h2
 obtain ⟨a,_,c0⟩:=rt_int h0
 obtain ⟨b,_,c1⟩:=rt_int h1
 obtain ⟨c,c2⟩:=rt_bool h2
 refine ⟨⟨a,b,c⟩,trivial,by rw [hl];exact csz.2.2.2.2.2.1,fun o ho=>?_⟩
 rcases (show o = 0 ∨ o = 1 ∨ o = 2 by omega) with rfl|rfl|rfl
 ·exact c0.sub (o:=0) (by omega)
 ·exact c1.sub (o:=0) (by omega)
 ·exact c2.sub (o:=0) (by omega)
theorem rt_laws {n:Nat} {cs:List Value} {y:DataW H × List MemPlace} (h:DataW.trod enc Try.prog w base (fun _=>true) held n 23 cs = some y):∃ (z:Bool) (l:List LawT),(l.length ≤ 9223372036854775807 ∧ ∀ x ∈ l,True) ∧ CellsAre w cs 1 (fun _=>aLaws z false l) :=
 rdr_slice cLaw (fun _=>True) lw0 Try.underlying23 csz.2.2.2.2.2.1 (by omega) rt_law h
theorem rt_crew {n:Nat} {cs:List Value} {y:DataW H × List MemPlace} (h:DataW.trod enc Try.prog w base (fun _=>true) held n 25 cs = some y):∃ (f:CFl) (c:Crew),(I64 c.langs ∧ ∀ x ∈ c.people,I64 x.fields ∧ I64 x.clears ∧ I64 x.fee) ∧ CellsAre w cs 3 (cCrew f c):=by
 obtain ⟨hl,⟨_,_,h0⟩,⟨_,_,h1⟩,⟨_,_,h2⟩,_⟩:=rdr_fields Try.underlying25 h
 simp only [csz.1,csz.2.2.2.2.1,csz.2.2.2.2.2.2.1] at h0 h1 h2
 obtain ⟨a,ha,c0⟩:=rt_int h0
 obtain ⟨z1,pf,b,⟨_,hb⟩,c1⟩:=rt_people h1
 obtain ⟨z2,c,_,c2⟩:=rt_laws h2
 refine ⟨⟨z1,false,z2,false,pf⟩,⟨a,b,c⟩,⟨ha,hb⟩,by rw [hl];exact csz.2.2.2.2.2.2.2.1,fun o ho=>?_⟩
 rcases (show o = 0 ∨ o = 1 ∨ o = 2 by omega) with rfl|rfl|rfl
 ·exact c0.sub (o:=0) (by omega)
 ·exact c1.sub (o:=0) (by omega)
 ·exact c2.sub (o:=0) (by omega)
theorem rt_job {n:Nat} {cs:List Value} {y:DataW H × List MemPlace} (h:DataW.trod enc Try.prog w base (fun _=>true) held n 27 cs = some y):∃ j:Job,(I64 j.fr ∧ I64 j.to ∧ I64 j.client ∧ I64 j.field ∧ I64 j.kind ∧ I64 j.size) ∧ CellsAre w cs 6 (cJob j):=by
 obtain ⟨hl,⟨_,_,h0⟩,⟨_,_,h1⟩,⟨_,_,h2⟩,⟨_,_,h3⟩,⟨_,_,h4⟩,⟨_,_,h5⟩,_⟩:=rdr_fields Try.underlying27 h
 simp only [csz.1] at h0 h1 h2 h3 h4 h5
 obtain ⟨a,ha,c0⟩:=rt_int h0
 obtain ⟨b,hb,c1⟩:=rt_int h1
 obtain ⟨c,hc,c2⟩:=rt_int h2
 obtain ⟨d,hd,c3⟩:=rt_int h3
 obtain ⟨e,he,c4⟩:=rt_int h4
 obtain ⟨f,hf,c5⟩:=rt_int h5
 refine ⟨⟨a,b,c,d,e,f⟩,⟨ha,hb,hc,hd,he,hf⟩,by rw [hl];exact csz.2.2.2.2.2.2.2.2,fun o ho=>?_⟩
 rcases (show o = 0 ∨ o = 1 ∨ o = 2 ∨ o = 3 ∨ o = 4 ∨ o = 5 by omega) with rfl|rfl|rfl|rfl|rfl|rfl
 ·exact c0.sub (o:=0) (by omega)
 ·exact c1.sub (o:=0) (by omega)
 ·exact c2.sub (o:=0) (by omega)
 ·exact c3.sub (o:=0) (by omega)
 ·exact c4.sub (o:=0) (by omega)
 ·exact c5.sub (o:=0) (by omega)
end
end Go.Proofs.Ytkejebdfbkgaiaa

namespace Go.Proofs.Ytkejebdfbkgaiaa
open Go.RowKit Go.ChangeShapes Go.WideShapes Go.Deep

def dP : PaF × Paper:=(⟨true,true,true,true,true,true,fun _=>true,fun _=>true⟩,default)
section
variable {H:Type} {enc:TypeId × Value → H} {w:World} {base:Nat} {held:Bool}
theorem csz9 : Try.prog.cellsOf 3 = 1 ∧ Try.prog.cellsOf 41 = 1 ∧ Try.prog.cellsOf 71 = 2 ∧ Try.prog.cellsOf 39 = 1 ∧ Try.prog.cellsOf 48 = 2 ∧ Try.prog.cellsOf 68 = 4 ∧ Try.prog.cellsOf 40 = 1 ∧ Try.prog.cellsOf 43 = 4 ∧ Try.prog.cellsOf 37 = 1 ∧ Try.prog.cellsOf 28 = 1 ∧ Try.prog.cellsOf 38 = 1 ∧ Try.prog.cellsOf 29 = 1 ∧ Try.prog.cellsOf 31 = 2:=by
 refine ⟨?_,?_,?_,?_,?_,?_,?_,?_,?_,?_,?_,?_,?_⟩ <;> kernel_rfl
theorem rt_item {n:Nat} {cs:List Value} {y:DataW H × List MemPlace} (h:DataW.trod enc Try.prog w base (fun _=>true) held n 71 cs = some y):∃ x:Item,True ∧ CellsAre w cs 2 (cItem x):=by
 obtain ⟨hl,⟨_,_,h0⟩,⟨_,_,h1⟩,_⟩:=rdr_fields Try.underlying71 h
 simp only [csz9.1] at h0 h1
 obtain ⟨a,_,c0⟩:=rt_int h0
 obtain ⟨b,_,c1⟩:=rt_int h1
 refine ⟨⟨a,b⟩,trivial,by rw [hl];exact csz9.2.2.1,fun o ho=>?_⟩
 rcases (show o = 0 ∨ o = 1 by omega) with rfl|rfl
 ·exact c0.sub (o:=0) (by omega)
 ·exact c1.sub (o:=0) (by omega)
theorem rt_items {n:Nat} {cs:List Value} {y:DataW H × List MemPlace} (h:DataW.trod enc Try.prog w base (fun _=>true) held n 39 cs = some y):∃ (z:Bool) (l:List Item),(l.length ≤ 9223372036854775807 ∧ ∀ x ∈ l,True) ∧ CellsAre w cs 1 (fun _=>aItems z false l) :=
 rdr_slice cItem (fun _=>True) default Try.underlying39 csz9.2.2.1 (by omega) rt_item h
theorem rt_span {n:Nat} {cs:List Value} {y:DataW H × List MemPlace} (h:DataW.trod enc Try.prog w base (fun _=>true) held n 48 cs = some y):∃ a b:Int,CellsAre w cs 2 (ofL [AI a,AI b]):=by
 obtain ⟨hl,⟨_,_,h0⟩,⟨_,_,h1⟩,_⟩:=rdr_fields Try.underlying48 h
 simp only [csz9.1] at h0 h1
 obtain ⟨a,_,c0⟩:=rt_int h0
 obtain ⟨b,_,c1⟩:=rt_int h1
 refine ⟨a,b,by rw [hl];exact csz9.2.2.2.2.1,fun o ho=>?_⟩
 rcases (show o = 0 ∨ o = 1 by omega) with rfl|rfl
 ·exact c0.sub (o:=0) (by omega)
 ·exact c1.sub (o:=0) (by omega)
theorem rt_judge {n:Nat} {cs:List Value} {y:DataW H × List MemPlace} (h:DataW.trod enc Try.prog w base (fun _=>true) held n 68 cs = some y):∃ x:Bool × Judge,x.2.marks.length ≤ 9223372036854775807 ∧ CellsAre w cs 4 (cJudge x.1 false x.2):=by
 obtain ⟨hl,⟨_,_,h0⟩,⟨_,_,h1⟩,⟨_,_,h2⟩,_⟩:=rdr_fields Try.underlying68 h
 simp only [csz9.1,csz9.2.1,csz9.2.2.2.2.1] at h0 h1 h2
 obtain ⟨a,b,c0⟩:=rt_span h0
 obtain ⟨c,_,c1⟩:=rt_int h1
 obtain ⟨z,l,hl2,c2⟩:=rt_ints h2
 refine ⟨(z,⟨a,b,c,l⟩),hl2.1,by rw [hl];exact csz9.2.2.2.2.2.1,fun o ho=>?_⟩
 rcases (show o = 0 ∨ o = 1 ∨ o = 2 ∨ o = 3 by omega) with rfl|rfl|rfl|rfl
 ·exact c0.sub (o:=0) (by omega)
 ·exact c0.sub (o:=1) (by omega)
 ·exact c1.sub (o:=0) (by omega)
 ·exact c2.sub (o:=0) (by omega)
theorem rt_judges {n:Nat} {cs:List Value} {y:DataW H × List MemPlace} (h:DataW.trod enc Try.prog w base (fun _=>true) held n 40 cs = some y):∃ (z:Bool) (rz:Nat → Bool) (l:List Judge),(l.length ≤ 9223372036854775807 ∧ ∀ k,k < l.length → (l.getD k default).marks.length ≤ 9223372036854775807) ∧ CellsAre w cs 1 (fun _=>aJudges z false rz (fun _=>false) l):=by
 obtain ⟨z,l,⟨hl,hq⟩,c⟩:=rdr_slice (fun (x:Bool × Judge)=>cJudge x.1 false x.2) (fun x=>x.2.marks.length ≤ 9223372036854775807) (true,default) Try.underlying40 csz9.2.2.2.2.2.1 (by omega) rt_judge h
 have hb:∀ k,(l.map Prod.snd).getD k default = (l.getD k (true,default)).2:=fun k=>by
  simp only [List.getD,List.getElem?_map]
  cases l[k]? <;> rfl
 refine ⟨z,fun k=>(l.getD k (true,default)).1,l.map Prod.snd,⟨by rw [List.length_map];exact hl,fun k hk=>?_⟩,?_⟩
 ·rw [List.length_map] at hk
  rw [hb]
  exact hq _ (by rw [List.getD,List.getElem?_eq_getElem hk];exact List.getElem_mem hk)
 ·simp only [aJudges,List.length_map,hb]
  exact c
theorem rt_paper {n:Nat} {cs:List Value} {y:DataW H × List MemPlace} (h:DataW.trod enc Try.prog w base (fun _=>true) held n 43 cs = some y):∃ (f:PaF) (p:Paper),Sized p ∧ CellsAre w cs 4 (cPaper f p):=by
 obtain ⟨hl,⟨_,_,h0⟩,⟨_,_,h1⟩,⟨_,_,h2⟩,⟨_,_,h3⟩,_⟩:=rdr_fields Try.underlying43 h
 simp only [csz9.1,csz9.2.1,csz9.2.2.2.1,csz9.2.2.2.2.2.2.1] at h0 h1 h2 h3
 obtain ⟨zi,a,ha,c0⟩:=rt_items h0
 obtain ⟨zj,rz,b,hb,c1⟩:=rt_judges h1
 obtain ⟨c,_,c2⟩:=rt_int h2
 obtain ⟨zg,d,hd,c3⟩:=rt_ints h3
 refine ⟨⟨zi,false,zj,false,zg,false,rz,fun _=>false⟩,⟨a,b,c,d⟩,⟨ha.1,hb.1,hd.1,hb.2⟩,by rw [hl];exact csz9.2.2.2.2.2.2.2.1,fun o ho=>?_⟩
 rcases (show o = 0 ∨ o = 1 ∨ o = 2 ∨ o = 3 by omega) with rfl|rfl|rfl|rfl
 ·exact c0.sub (o:=0) (by omega)
 ·exact c1.sub (o:=0) (by omega)
 ·exact c2.sub (o:=0) (by omega)
 ·exact c3.sub (o:=0) (by omega)
theorem getD_map {α β:Type} (g:α → β) (l:List α) (d:α) (k:Nat):(l.map g).getD k (g d) = g (l.getD k d):=by
 simp only [List.getD,List.getElem?_map]
 cases l[k]? <;> rfl
theorem getD_all {α:Type} {Q:α → Prop} {l:List α} {d:α} (h:∀ x ∈ l,Q x) {k:Nat} (hk:k < l.length):Q (l.getD k d):=h _ (by rw [List.getD,List.getElem?_eq_getElem hk];exact List.getElem_mem hk)
/-- A row of papers. -/
abbrev cPs (x:Bool × List (PaF × Paper)) (_:Nat):AV:=.sl x.1 false x.2.length 4 (fun k=>cPaper (x.2.getD k dP).1 (x.2.getD k dP).2)
theorem rt_ps {n:Nat} {cs:List Value} {y:DataW H × List MemPlace} (h:DataW.trod enc Try.prog w base (fun _=>true) held n 37 cs = some y):∃ x:Bool × List (PaF × Paper),(∀ k,k < x.2.length → Sized (x.2.getD k dP).2) ∧ CellsAre w cs 1 (cPs x):=by
 obtain ⟨z,l,⟨_,hq⟩,c⟩:=rdr_slice (fun (x:PaF × Paper)=>cPaper x.1 x.2) (fun x=>Sized x.2) dP Try.underlying37 csz9.2.2.2.2.2.2.2.1 (by omega) (fun {_ _ _} hh=>by
  obtain ⟨f,p,hs,c⟩:=rt_paper hh
  exact ⟨(f,p),hs,c⟩) h
 exact ⟨(z,l),fun k hk=>getD_all hq hk,c⟩
theorem rt_pps {n:Nat} {cs:List Value} {y:DataW H × List MemPlace} (h:DataW.trod enc Try.prog w base (fun _=>true) held n 28 cs = some y):∃ (z:Bool) (l:List (Bool × List (PaF × Paper))),(∀ i,i < l.length → ∀ k,k < (l.getD i (true,[])).2.length → Sized ((l.getD i (true,[])).2.getD k dP).2) ∧ CellsAre w cs 1 (fun _=>.sl z false l.length 1 (fun i=>cPs (l.getD i (true,[])))):=by
 obtain ⟨z,l,⟨_,hq⟩,c⟩:=rdr_slice cPs (fun x=>∀ k,k < x.2.length → Sized (x.2.getD k dP).2) (true,[]) Try.underlying28 csz9.2.2.2.2.2.2.2.2.1 (by omega) rt_ps h
 exact ⟨z,l,fun i hi=>getD_all hq hi,c⟩
/-- A row of truths. -/
abbrev cT1 (x:Bool × List Int) (_:Nat):AV:=aInts x.1 false x.2
abbrev cTs (x:Bool × List (Bool × List Int)) (_:Nat):AV:=.sl x.1 false x.2.length 1 (fun k=>cT1 (x.2.getD k (true,[])))
theorem rt_ts {n:Nat} {cs:List Value} {y:DataW H × List MemPlace} (h:DataW.trod enc Try.prog w base (fun _=>true) held n 38 cs = some y):∃ x:Bool × List (Bool × List Int),(∀ k,k < x.2.length → (x.2.getD k (true,[])).2.length ≤ 9223372036854775807) ∧ CellsAre w cs 1 (cTs x):=by
 obtain ⟨z,l,⟨_,hq⟩,c⟩:=rdr_slice cT1 (fun x=>x.2.length ≤ 9223372036854775807) (true,[]) Try.underlying38 csz9.2.1 (by omega) (fun {_ _ _} hh=>by
  obtain ⟨z,l,hl,c⟩:=rt_ints hh
  exact ⟨(z,l),hl.1,c⟩) h
 exact ⟨(z,l),fun k hk=>getD_all hq hk,c⟩
theorem rt_tts {n:Nat} {cs:List Value} {y:DataW H × List MemPlace} (h:DataW.trod enc Try.prog w base (fun _=>true) held n 29 cs = some y):∃ (z:Bool) (l:List (Bool × List (Bool × List Int))),(∀ i,i < l.length → ∀ k,k < (l.getD i (true,[])).2.length → ((l.getD i (true,[])).2.getD k (true,[])).2.length ≤ 9223372036854775807) ∧ CellsAre w cs 1 (fun _=>.sl z false l.length 1 (fun i=>cTs (l.getD i (true,[])))):=by
 obtain ⟨z,l,⟨_,hq⟩,c⟩:=rdr_slice cTs (fun x=>∀ k,k < x.2.length → (x.2.getD k (true,[])).2.length ≤ 9223372036854775807) (true,[]) Try.underlying29 csz9.2.2.2.2.2.2.2.2.2.2.1 (by omega) rt_ts h
 exact ⟨z,l,fun i hi=>getD_all hq hi,c⟩
def mkC (z:Bool) (l:List (Bool × List (PaF × Paper))) (z2:Bool) (l2:List (Bool × List (Bool × List Int))):Cert :=
 ⟨l.map (fun r=>r.2.map Prod.snd),l2.map (fun r=>r.2.map Prod.snd),z,false,fun i=>(l.getD i (true,[])).1,fun _=>false,fun i k=>((l.getD i (true,[])).2.getD k dP).1,z2,false,fun i=>(l2.getD i (true,[])).1,fun _=>false,fun i k=>((l2.getD i (true,[])).2.getD k (true,[])).1,fun _ _=>false⟩
theorem mkC_p {z:Bool} {l:List (Bool × List (PaF × Paper))} {z2:Bool} {l2:List (Bool × List (Bool × List Int))} (i:Nat):(mkC z l z2 l2).pl.getD i [] = (l.getD i (true,[])).2.map Prod.snd :=
 getD_map (fun (r:Bool × List (PaF × Paper))=>r.2.map Prod.snd) l (true,[]) i
theorem mkC_t {z:Bool} {l:List (Bool × List (PaF × Paper))} {z2:Bool} {l2:List (Bool × List (Bool × List Int))} (i:Nat):(mkC z l z2 l2).tl.getD i [] = (l2.getD i (true,[])).2.map Prod.snd :=
 getD_map (fun (r:Bool × List (Bool × List Int))=>r.2.map Prod.snd) l2 (true,[]) i
theorem mkC_pAt {z:Bool} {l:List (Bool × List (PaF × Paper))} {z2:Bool} {l2:List (Bool × List (Bool × List Int))} (i k:Nat):pAt (mkC z l z2 l2) i k = ((l.getD i (true,[])).2.getD k dP).2:=by
 unfold pAt
 rw [mkC_p]
 exact getD_map Prod.snd _ dP k
theorem mkC_tAt {z:Bool} {l:List (Bool × List (PaF × Paper))} {z2:Bool} {l2:List (Bool × List (Bool × List Int))} (i k:Nat):tAt (mkC z l z2 l2) i k = ((l2.getD i (true,[])).2.getD k (true,[])).2:=by
 unfold tAt
 rw [mkC_t]
 exact getD_map Prod.snd _ (true,[]) k
theorem rt_cert {n:Nat} {cs:List Value} {y:DataW H × List MemPlace} (h:DataW.trod enc Try.prog w base (fun _=>true) held n 31 cs = some y):∃ x:Cert,((∀ i k,k < (x.pl.getD i []).length → Sized (pAt x i k)) ∧ ∀ i k,k < (x.tl.getD i []).length → (tAt x i k).length ≤ 9223372036854775807) ∧ CellsAre w cs 2 (ofL [aPL x,aTL x]):=by
 obtain ⟨hl,⟨_,_,h0⟩,⟨_,_,h1⟩,_⟩:=rdr_fields Try.underlying31 h
 simp only [csz9.2.2.2.2.2.2.2.2.2.1,csz9.2.2.2.2.2.2.2.2.2.2.2.1] at h0 h1
 obtain ⟨z,l,hq,c0⟩:=rt_pps h0
 obtain ⟨z2,l2,hq2,c1⟩:=rt_tts h1
 have e0:aPL (mkC z l z2 l2) = .sl z false l.length 1 (fun i=>cPs (l.getD i (true,[]))):=by
  have:(mkC z l z2 l2).pl.length = l.length:=by simp [mkC]
  simp only [aPL,mkC_p,mkC_pAt,List.length_map,this]
  rfl
 have e1:aTL (mkC z l z2 l2) = .sl z2 false l2.length 1 (fun i=>cTs (l2.getD i (true,[]))):=by
  have:(mkC z l z2 l2).tl.length = l2.length:=by simp [mkC]
  simp only [aTL,mkC_t,mkC_tAt,List.length_map,this]
  rfl
 refine ⟨mkC z l z2 l2,⟨fun i k hk=>?_,fun i k hk=>?_⟩,by rw [hl];exact csz9.2.2.2.2.2.2.2.2.2.2.2.2,fun o ho=>?_⟩
 ·rw [mkC_p,List.length_map] at hk
  rw [mkC_pAt]
  by_cases hi:i < l.length
  ·exact hq i hi k hk
  ·rw [List.getD,List.getElem?_eq_none (by omega)] at hk;cases hk
 ·rw [mkC_t,List.length_map] at hk
  rw [mkC_tAt]
  by_cases hi:i < l2.length
  ·exact hq2 i hi k hk
  ·rw [List.getD,List.getElem?_eq_none (by omega)] at hk;cases hk
 ·rcases (show o = 0 ∨ o = 1 by omega) with rfl|rfl
  ·show ∃ u,cs[0]? = some u ∧ u.oneCell' = true ∧ rep nobody w (aPL (mkC z l z2 l2)) g0 u
   rw [e0]
   exact c0.sub (o:=0) (by omega)
  ·show ∃ u,cs[1]? = some u ∧ u.oneCell' = true ∧ rep nobody w (aTL (mkC z l z2 l2)) g0 u
   rw [e1]
   exact c1.sub (o:=0) (by omega)
end
end Go.Proofs.Ytkejebdfbkgaiaa
