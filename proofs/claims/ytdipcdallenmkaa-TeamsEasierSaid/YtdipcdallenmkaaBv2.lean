/- Teams: the statement TeamsEasier (printed by gen_tee4.py). / Teams: how an ease reads. -/
import Derived.Test.YtdipcdallenmkaaBv1
import Derived.Test.YtdipcdallenmkaaBt10
set_option linter.unusedSimpArgs false
set_option linter.unusedVariables false
namespace Go.Proofs.Ytdipcdallenmkaa
open Go.RowKit

set_option maxHeartbeats 8000000
set_option maxRecDepth 100000
theorem easier_any (f:CFl) (c:Crew) (j:Job) (xf:PFl) (xm:Person) (xp xt xfi xc xl xu:Int):ACall Try.prog 3 [aCrew f c,aJob j,.agg 12 (cEs xf xm xp xt xfi xc xl xu)] [] (fun v h=>v = .bool true ∧ h = []):=by
 have hcv:=ready_ok f c j
 (refine fcall_of mixed Try.func3 rfl (by decide) (hs:={ ord:=[(18,[(0,[]),(1,[]),(2,[]),(3,[]),(4,[]),(5,[]),(6,[]),(7,[]),(8,[]),(9,[]),(10,[]),(11,[]),(12,[]),(13,[9]),(14,[]),(15,[])])],pub:=[8,12,15,16,18,21,22] }) ?k (ac:=?ac) ?c (rs:=?rs) ?r ?l ?H;(case k=>kernel_rfl);(case c=>(conv=>(lhs;cbv)));(case r=>(conv=>(lhs;cbv)));(case l=>exact Nat.le_of_ble_eq_true rfl))
 cases hv:(!farT c && decide (checkT c j = 0))
 ·rw [hv] at hcv
  (repeat' ((try conv=>whnf);first|(with_reducible first|refine FCond.t rfl ?_|refine FCond.f rfl ?_)|((with_reducible refine FCond.uT (fun hq=>?_));rw [hq];(with_reducible refine FCond.t rfl ?_);clear hq)|((with_reducible refine FCond.uF (fun hq=>?_));rw [hq];(with_reducible refine FCond.f rfl ?_);clear hq)|((with_reducible refine wJ (fun hq=>?_) (fun hq=>?_)) <;> (rw [hq];(with_reducible first|refine FCond.t rfl ?_|refine FCond.f rfl ?_);(try simp only [zA,zE,zD,zJ,zB,zI,wK,wL] at hq)))|(with_reducible first|refine wA ?_|refine wB ?_|refine wC ?_|refine wD ?_|refine wE ?_)|((with_reducible refine wN ?_ ?_);focus exact needA)|(with_reducible refine wG ?_)|(refine FCall.pure (hcv) ⟨Ln.sameB _ rfl,Ln.sameB _ rfl,True.intro⟩ rfl ?_)|(refine FCall.pure works_ok True.intro rfl ?_)|(with_reducible refine wP ?_)))
  all_goals (try conv=>whnf)
  all_goals ((refine ⟨⟨_,[],[],Cut.nil _,Ln.sameB _ rfl,?_,rfl⟩⟩);rfl)
 rw [hv] at hcv
 simp only [Bool.and_eq_true,Bool.not_eq_true',decide_eq_true_eq] at hv
 obtain ⟨hnear,h0⟩:=hv
 have hnear:=near_of hnear
 obtain ⟨hc,hj⟩:=checkT_0.1 h0
 obtain ⟨d1,d2,d3,d4,d5⟩:=crew_d hc
 by_cases hg:c.people.length ≤ 4 ∧ xm.levels.length ≤ 20 ∧ xm.ties.length ≤ 30 ∧ 0 ≤ xu ∧ xu ≤ 5
 case neg =>
  by_cases g1:c.people.length ≤ 4
  case neg =>
   (repeat' ((try conv=>whnf);first|(with_reducible first|refine FCond.t rfl ?_|refine FCond.f rfl ?_)|((with_reducible refine FCond.uT (fun hq=>?_));rw [hq];(with_reducible refine FCond.t rfl ?_);clear hq)|((with_reducible refine FCond.uF (fun hq=>?_));rw [hq];(with_reducible refine FCond.f rfl ?_);clear hq)|((with_reducible refine wJ (fun hq=>?_) (fun hq=>?_)) <;> (rw [hq];(with_reducible first|refine FCond.t rfl ?_|refine FCond.f rfl ?_);(try simp only [zA,zE,zD,zJ,zB,zI,wK,wL] at hq)))|(with_reducible first|refine wA ?_|refine wB ?_|refine wC ?_|refine wD ?_|refine wE ?_)|((with_reducible refine wN ?_ ?_);focus exact needA)|(with_reducible refine wG ?_)|(refine FCall.pure (hcv) ⟨Ln.sameB _ rfl,Ln.sameB _ rfl,True.intro⟩ rfl ?_)|(refine FCall.pure works_ok True.intro rfl ?_)|(with_reducible refine wP ?_)))
   all_goals (try conv=>whnf)
   all_goals ((refine ⟨⟨_,[],[],Cut.nil _,Ln.sameB _ rfl,?_,rfl⟩⟩);rfl)
  by_cases g2:xm.levels.length ≤ 20
  case neg =>
   (repeat' ((try conv=>whnf);first|(with_reducible first|refine FCond.t rfl ?_|refine FCond.f rfl ?_)|((with_reducible refine FCond.uT (fun hq=>?_));rw [hq];(with_reducible refine FCond.t rfl ?_);clear hq)|((with_reducible refine FCond.uF (fun hq=>?_));rw [hq];(with_reducible refine FCond.f rfl ?_);clear hq)|((with_reducible refine wJ (fun hq=>?_) (fun hq=>?_)) <;> (rw [hq];(with_reducible first|refine FCond.t rfl ?_|refine FCond.f rfl ?_);(try simp only [zA,zE,zD,zJ,zB,zI,wK,wL] at hq)))|(with_reducible first|refine wA ?_|refine wB ?_|refine wC ?_|refine wD ?_|refine wE ?_)|((with_reducible refine wN ?_ ?_);focus exact needA)|(with_reducible refine wG ?_)|(refine FCall.pure (hcv) ⟨Ln.sameB _ rfl,Ln.sameB _ rfl,True.intro⟩ rfl ?_)|(refine FCall.pure works_ok True.intro rfl ?_)|(with_reducible refine wP ?_)))
   all_goals (try conv=>whnf)
   all_goals ((refine ⟨⟨_,[],[],Cut.nil _,Ln.sameB _ rfl,?_,rfl⟩⟩);rfl)
  by_cases g3:xm.ties.length ≤ 30
  case neg =>
   (repeat' ((try conv=>whnf);first|(with_reducible first|refine FCond.t rfl ?_|refine FCond.f rfl ?_)|((with_reducible refine FCond.uT (fun hq=>?_));rw [hq];(with_reducible refine FCond.t rfl ?_);clear hq)|((with_reducible refine FCond.uF (fun hq=>?_));rw [hq];(with_reducible refine FCond.f rfl ?_);clear hq)|((with_reducible refine wJ (fun hq=>?_) (fun hq=>?_)) <;> (rw [hq];(with_reducible first|refine FCond.t rfl ?_|refine FCond.f rfl ?_);(try simp only [zA,zE,zD,zJ,zB,zI,wK,wL] at hq)))|(with_reducible first|refine wA ?_|refine wB ?_|refine wC ?_|refine wD ?_|refine wE ?_)|((with_reducible refine wN ?_ ?_);focus exact needA)|(with_reducible refine wG ?_)|(refine FCall.pure (hcv) ⟨Ln.sameB _ rfl,Ln.sameB _ rfl,True.intro⟩ rfl ?_)|(refine FCall.pure works_ok True.intro rfl ?_)|(with_reducible refine wP ?_)))
   all_goals (try conv=>whnf)
   all_goals ((refine ⟨⟨_,[],[],Cut.nil _,Ln.sameB _ rfl,?_,rfl⟩⟩);rfl)
  by_cases g4:0 ≤ xu
  case neg =>
   (repeat' ((try conv=>whnf);first|(with_reducible first|refine FCond.t rfl ?_|refine FCond.f rfl ?_)|((with_reducible refine FCond.uT (fun hq=>?_));rw [hq];(with_reducible refine FCond.t rfl ?_);clear hq)|((with_reducible refine FCond.uF (fun hq=>?_));rw [hq];(with_reducible refine FCond.f rfl ?_);clear hq)|((with_reducible refine wJ (fun hq=>?_) (fun hq=>?_)) <;> (rw [hq];(with_reducible first|refine FCond.t rfl ?_|refine FCond.f rfl ?_);(try simp only [zA,zE,zD,zJ,zB,zI,wK,wL] at hq)))|(with_reducible first|refine wA ?_|refine wB ?_|refine wC ?_|refine wD ?_|refine wE ?_)|((with_reducible refine wN ?_ ?_);focus exact needA)|(with_reducible refine wG ?_)|(refine FCall.pure (hcv) ⟨Ln.sameB _ rfl,Ln.sameB _ rfl,True.intro⟩ rfl ?_)|(refine FCall.pure works_ok True.intro rfl ?_)|(with_reducible refine wP ?_)))
   all_goals (try conv=>whnf)
   all_goals ((refine ⟨⟨_,[],[],Cut.nil _,Ln.sameB _ rfl,?_,rfl⟩⟩);rfl)
  have g5:5 < xu:=by omega
  (repeat' ((try conv=>whnf);first|(with_reducible first|refine FCond.t rfl ?_|refine FCond.f rfl ?_)|((with_reducible refine FCond.uT (fun hq=>?_));rw [hq];(with_reducible refine FCond.t rfl ?_);clear hq)|((with_reducible refine FCond.uF (fun hq=>?_));rw [hq];(with_reducible refine FCond.f rfl ?_);clear hq)|((with_reducible refine wJ (fun hq=>?_) (fun hq=>?_)) <;> (rw [hq];(with_reducible first|refine FCond.t rfl ?_|refine FCond.f rfl ?_);(try simp only [zA,zE,zD,zJ,zB,zI,wK,wL] at hq)))|(with_reducible first|refine wA ?_|refine wB ?_|refine wC ?_|refine wD ?_|refine wE ?_)|((with_reducible refine wN ?_ ?_);focus exact needA)|(with_reducible refine wG ?_)|(refine FCall.pure (hcv) ⟨Ln.sameB _ rfl,Ln.sameB _ rfl,True.intro⟩ rfl ?_)|(refine FCall.pure works_ok True.intro rfl ?_)|(with_reducible refine wP ?_)))
  all_goals (try conv=>whnf)
  all_goals ((refine ⟨⟨_,[],[],Cut.nil _,Ln.sameB _ rfl,?_,rfl⟩⟩);rfl)
 obtain ⟨g1,g2,g3,g4,g5⟩:=hg
 have cT:=pteam_ok f c j
 by_cases hb:(bestT c j).1 = 0
 ·rw [show teamE c j = (0,0,3) from by unfold teamE;rw [if_pos h0,if_pos hb]] at cT
  (repeat' ((try conv=>whnf);first|(with_reducible first|refine FCond.t rfl ?_|refine FCond.f rfl ?_)|((with_reducible refine FCond.uT (fun hq=>?_));rw [hq];(with_reducible refine FCond.t rfl ?_);clear hq)|((with_reducible refine FCond.uF (fun hq=>?_));rw [hq];(with_reducible refine FCond.f rfl ?_);clear hq)|((with_reducible refine wJ (fun hq=>?_) (fun hq=>?_)) <;> (rw [hq];(with_reducible first|refine FCond.t rfl ?_|refine FCond.f rfl ?_);(try simp only [zA,zE,zD,zJ,zB,zI,wK,wL] at hq)))|(with_reducible first|refine wA ?_|refine wB ?_|refine wC ?_|refine wD ?_|refine wE ?_)|((with_reducible refine wN ?_ ?_);focus exact needA)|(with_reducible refine wG ?_)|(refine FCall.pure (hcv) ⟨Ln.sameB _ rfl,Ln.sameB _ rfl,True.intro⟩ rfl ?_)|(refine FCall.pure (cT) ⟨Ln.sameB _ rfl,Ln.sameB _ rfl,True.intro⟩ rfl ?_)|(refine FCall.pure works_ok True.intro rfl ?_)|(with_reducible refine wP ?_)))
  all_goals (try conv=>whnf)
  all_goals ((refine ⟨⟨_,[],[],Cut.nil _,Ln.sameB _ rfl,?_,rfl⟩⟩);rfl)
 rw [show teamE c j = ((((bestT c j).1:Nat):Int),(bestT c j).2,(0:Int)) from by unfold teamE;rw [if_pos h0,if_neg hb]] at cT
 have hp0:0 < c.people.length:=by
  rcases best_two c j with ⟨b1,_⟩|⟨b1,b2,_⟩
  ·exact absurd b1 hb
  ·rcases Nat.eq_zero_or_pos c.people.length with h|h
   ·rw [h] at b2;omega
   ·exact h
 have hsm:SmallC c:=⟨by omega,by omega,fun i hi=>by have:=hnear.ps i hi;omega⟩
 apply cutG
 ·intro rest
  have cC:=copy_one f c hsm hp0
  (repeat' ((try conv=>whnf);first|(with_reducible first|refine FCond.t rfl ?_|refine FCond.f rfl ?_)|((with_reducible refine FCond.uT (fun hq=>?_));rw [hq];(with_reducible refine FCond.t rfl ?_);clear hq)|((with_reducible refine FCond.uF (fun hq=>?_));rw [hq];(with_reducible refine FCond.f rfl ?_);clear hq)|((with_reducible refine wJ (fun hq=>?_) (fun hq=>?_)) <;> (rw [hq];(with_reducible first|refine FCond.t rfl ?_|refine FCond.f rfl ?_);(try simp only [zA,zE,zD,zJ,zB,zI,wK,wL] at hq)))|(with_reducible first|refine wA ?_|refine wB ?_|refine wC ?_|refine wD ?_|refine wE ?_)|((with_reducible refine wN ?_ ?_);focus exact needA)|(with_reducible refine wG ?_)|(refine FCall.pure (hcv) ⟨Ln.sameB _ rfl,Ln.sameB _ rfl,True.intro⟩ rfl ?_)|(refine FCall.pure (cT) ⟨Ln.sameB _ rfl,Ln.sameB _ rfl,True.intro⟩ rfl ?_)|(with_reducible refine wP ?_)))
  all_goals (try conv=>whnf)
  ((refine FCall.give [] [] (cC) rfl rfl True.intro ⟨Ln.A,True.intro⟩ ?_);rintro _ _ ⟨rfl,rfl⟩;(refine ⟨by first|exact Nat.le_of_ble_eq_true rfl|omega,.inl rfl,?_⟩))
  (repeat' ((try conv=>whnf);first|(with_reducible first|refine wT ?_|refine wF ?_|(refine wI (fun hq=>?_) (fun hq=>?_) <;> try simp only [zA,zE,zD,zJ,zB,zI,wK,wL] at hq)|refine wA ?_|refine wB ?_|refine wC ?_|refine wD ?_|refine wE ?_)|((with_reducible refine wN ?_ ?_);focus exact needA)|(with_reducible refine wG ?_)|(with_reducible refine wP ?_)))
  all_goals (try conv=>whnf)
  refine FWk.of [(3,.ptr 0 0),(4,.ptr 1 0),(5,.ptr 2 0),(8,AI (bestT c j).2),(10,.ptr 3 0)] [.box 3 (cCrew f c),.box 6 (cJob j),.box 12 (cEs xf xm xp xt xfi xc xl xu),.box 3 (cCrew (flP c xf) (c.plus xm))] [0,1,2,4] (wO rfl rfl rfl (wV rfl (LnB.A) (wV rfl (LnB.A) (wV rfl (LnB.A) (wV rfl (LnB.boxN ⟨⟨⟨True.intro,Ln.A⟩,Ln.pubE (goneB rfl) rfl (Nat.le_refl _) (by show c.people.length + 1 = (c.people ++ [xm]).length;simp) (fun k hk o ho=>plus_cells (off6 rfl rfl rfl rfl rfl rfl) hk ho)⟩,Ln.A⟩) wX))))) ⟨Ln.A,Ln.A,Ln.A,Ln.A,Ln.A,True.intro⟩ ?_
  have cI:=isCrew_ok (flP c xf) (c.plus xm)
  cases hok:(c.plus xm).ok
  ·rw [hok] at cI
   (repeat' ((try conv=>whnf);first|(with_reducible first|refine FCond.t rfl ?_|refine FCond.f rfl ?_)|((with_reducible refine FCond.uT (fun hq=>?_));rw [hq];(with_reducible refine FCond.t rfl ?_);clear hq)|((with_reducible refine FCond.uF (fun hq=>?_));rw [hq];(with_reducible refine FCond.f rfl ?_);clear hq)|((with_reducible refine wJ (fun hq=>?_) (fun hq=>?_)) <;> (rw [hq];(with_reducible first|refine FCond.t rfl ?_|refine FCond.f rfl ?_);(try simp only [zA,zE,zD,zJ,zB,zI,wK,wL] at hq)))|(with_reducible first|refine wA ?_|refine wB ?_|refine wC ?_|refine wD ?_|refine wE ?_)|((with_reducible refine wN ?_ ?_);focus exact needA)|(with_reducible refine wG ?_)|(refine FCall.pure (cI) ⟨Ln.sameB _ rfl,True.intro⟩ rfl ?_)|(with_reducible refine wP ?_)))
   all_goals (try conv=>whnf)
   exact FWk.of [(3,.ptr 0 0),(4,.ptr 1 0),(5,.ptr 2 0),(8,AI (bestT c j).2)] [.box 3 (cCrew f c),.box 6 (cJob j),.box 12 (cEs xf xm xp xt xfi xc xl xu)] [0,1,2] Cut.A allA rest.h
  ·rw [hok] at cI
   obtain ⟨a2,n2,e2,hn2⟩:=teamE_plus h0 hb hok
   have cT2:=pteam_ok (flP c xf) (c.plus xm) j
   rw [e2] at cT2
   (repeat' ((try conv=>whnf);first|(with_reducible first|refine FCond.t rfl ?_|refine FCond.f rfl ?_)|((with_reducible refine FCond.uT (fun hq=>?_));rw [hq];(with_reducible refine FCond.t rfl ?_);clear hq)|((with_reducible refine FCond.uF (fun hq=>?_));rw [hq];(with_reducible refine FCond.f rfl ?_);clear hq)|((with_reducible refine wJ (fun hq=>?_) (fun hq=>?_)) <;> (rw [hq];(with_reducible first|refine FCond.t rfl ?_|refine FCond.f rfl ?_);(try simp only [zA,zE,zD,zJ,zB,zI,wK,wL] at hq)))|(with_reducible first|refine wA ?_|refine wB ?_|refine wC ?_|refine wD ?_|refine wE ?_)|((with_reducible refine wN ?_ ?_);focus exact needA)|(with_reducible refine wG ?_)|(refine FCall.pure (cI) ⟨Ln.sameB _ rfl,True.intro⟩ rfl ?_)|(refine FCall.pure (cT2) ⟨Ln.sameB _ rfl,Ln.sameB _ rfl,True.intro⟩ rfl ?_)|(with_reducible refine wP ?_)))
   all_goals (try conv=>whnf)
   exact FWk.of [(3,.ptr 0 0),(4,.ptr 1 0),(5,.ptr 2 0),(8,AI (bestT c j).2)] [.box 3 (cCrew f c),.box 6 (cJob j),.box 12 (cEs xf xm xp xt xfi xc xl xu)] [0,1,2] Cut.A allA rest.h
 by_cases hx:0 ≤ xp ∧ xp < c.people.length
 case neg =>
  by_cases hx0:0 ≤ xp
  ·have hx1:¬ xp < c.people.length:=fun h=>hx ⟨hx0,h⟩
   (repeat' ((try conv=>whnf);first|(with_reducible first|refine FCond.t rfl ?_|refine FCond.f rfl ?_)|((with_reducible refine FCond.uT (fun hq=>?_));rw [hq];(with_reducible refine FCond.t rfl ?_);clear hq)|((with_reducible refine FCond.uF (fun hq=>?_));rw [hq];(with_reducible refine FCond.f rfl ?_);clear hq)|((with_reducible refine wJ (fun hq=>?_) (fun hq=>?_)) <;> (rw [hq];(with_reducible first|refine FCond.t rfl ?_|refine FCond.f rfl ?_);(try simp only [zA,zE,zD,zJ,zB,zI,wK,wL] at hq)))|(with_reducible first|refine wA ?_|refine wB ?_|refine wC ?_|refine wD ?_|refine wE ?_)|((with_reducible refine wN ?_ ?_);focus exact needA)|(with_reducible refine wG ?_)|(refine FCall.pure works_ok True.intro rfl ?_)|(with_reducible refine wP ?_)))
   all_goals (try conv=>whnf)
   all_goals ((refine ⟨⟨_,[],[],Cut.nil _,Ln.sameB _ rfl,?_,rfl⟩⟩);rfl)
  ·(repeat' ((try conv=>whnf);first|(with_reducible first|refine FCond.t rfl ?_|refine FCond.f rfl ?_)|((with_reducible refine FCond.uT (fun hq=>?_));rw [hq];(with_reducible refine FCond.t rfl ?_);clear hq)|((with_reducible refine FCond.uF (fun hq=>?_));rw [hq];(with_reducible refine FCond.f rfl ?_);clear hq)|((with_reducible refine wJ (fun hq=>?_) (fun hq=>?_)) <;> (rw [hq];(with_reducible first|refine FCond.t rfl ?_|refine FCond.f rfl ?_);(try simp only [zA,zE,zD,zJ,zB,zI,wK,wL] at hq)))|(with_reducible first|refine wA ?_|refine wB ?_|refine wC ?_|refine wD ?_|refine wE ?_)|((with_reducible refine wN ?_ ?_);focus exact needA)|(with_reducible refine wG ?_)|(refine FCall.pure works_ok True.intro rfl ?_)|(with_reducible refine wP ?_)))
   all_goals (try conv=>whnf)
   all_goals ((refine ⟨⟨_,[],[],Cut.nil _,Ln.sameB _ rfl,?_,rfl⟩⟩);rfl)
 obtain ⟨q,rfl⟩:∃ q:Nat,xp = q:=⟨xp.toNat,by omega⟩
 have hq:q < c.people.length:=by omega
 have hpq:=ps_d (d4 q hq)
 obtain ⟨p1,p2,p3,p4,p5,-,-⟩:=hpq
 have hlv:∀ i,i < c.people.length → 0 < (c.people.getD i ps0).levels.length:=fun i hi=>by have:=(ps_d (d4 i hi)).1;omega
 obtain ⟨τ,hτ⟩:∃ τ,Hold (τ = tieG (c.people.getD q ps0).ties (pick xt (c.people.getD q ps0).ties.length)):=⟨_,⟨rfl⟩⟩
 apply cutG
 ·intro rest
  by_cases hT:(c.people.getD q ps0).ties.length = 0
  ·have cC:=copy_q0 f c.langs c.people c.laws hsm q hq hlv hT
   have hτ2:τ = (c.people.getD q ps0).ties:=by rw [hτ.h];unfold pick;rw [if_neg (by omega)];rfl
   (repeat' ((try conv=>whnf);first|(with_reducible first|refine FCond.t rfl ?_|refine FCond.f rfl ?_)|((with_reducible refine FCond.uT (fun hq=>?_));rw [hq];(with_reducible refine FCond.t rfl ?_);clear hq)|((with_reducible refine FCond.uF (fun hq=>?_));rw [hq];(with_reducible refine FCond.f rfl ?_);clear hq)|((with_reducible refine wJ (fun hq=>?_) (fun hq=>?_)) <;> (rw [hq];(with_reducible first|refine FCond.t rfl ?_|refine FCond.f rfl ?_);(try simp only [zA,zE,zD,zJ,zB,zI,wK,wL] at hq)))|(with_reducible first|refine wA ?_|refine wB ?_|refine wC ?_|refine wD ?_|refine wE ?_)|((with_reducible refine wN ?_ ?_);focus exact needA)|(with_reducible refine wG ?_)|(with_reducible refine wP ?_)))
   all_goals (try conv=>whnf)
   ((refine FCall.give [] [] (cC) rfl rfl True.intro ⟨Ln.A,True.intro⟩ ?_);rintro _ _ ⟨rfl,rfl⟩;(refine ⟨by first|exact Nat.le_of_ble_eq_true rfl|omega,.inl rfl,?_⟩))
   (repeat' ((try conv=>whnf);first|(with_reducible first|refine FCond.t rfl ?_|refine FCond.f rfl ?_)|((with_reducible refine FCond.uT (fun hq=>?_));rw [hq];(with_reducible refine FCond.t rfl ?_);clear hq)|((with_reducible refine FCond.uF (fun hq=>?_));rw [hq];(with_reducible refine FCond.f rfl ?_);clear hq)|((with_reducible refine wJ (fun hq=>?_) (fun hq=>?_)) <;> (rw [hq];(with_reducible first|refine FCond.t rfl ?_|refine FCond.f rfl ?_);(try simp only [zA,zE,zD,zJ,zB,zI,wK,wL] at hq)))|(with_reducible first|refine wA ?_|refine wB ?_|refine wC ?_|refine wD ?_|refine wE ?_)|((with_reducible refine wN ?_ ?_);focus exact needA)|(with_reducible refine wG ?_)|(with_reducible refine wP ?_)))
   all_goals (try conv=>whnf)
   refine FWk.of [(4,.ptr 0 0),(5,.ptr 1 0),(8,AI (bestT c j).2),(14,.ptr 2 0)] [.box 6 (cJob j),.box 12 (cEs xf xm q xt xfi xc xl xu),.box 3 (ofL [AI c.langs,.own 3 c.people.length,cpLaws c.laws]),.rwg c.people.length 6 (gC c.people q (cQ0 4 (c.people.getD q ps0))),.row (c.people.getD q ps0).levels.length 1 (fun k _=>AI ((c.people.getD q ps0).levels.getD k 0))] [1,2,5,3,4] (wO rfl rfl rfl (wV rfl (LnB.A) (wV rfl (LnB.A) (wV rfl (LnB.boxN ⟨⟨⟨True.intro,Ln.A⟩,Ln.ownE rfl rfl⟩,Ln.A⟩) (wV rfl (gC_ren ⟨Ln.ownE rfl rfl,Ln.A,Ln.A,Ln.A,Ln.A,Ln.A⟩) (wV rfl (LnB.A) wX)))))) ⟨Ln.A,Ln.A,Ln.A,Ln.A,True.intro⟩ ?_
   (repeat' ((try conv=>whnf);first|(with_reducible first|refine FCond.t rfl ?_|refine FCond.f rfl ?_)|((with_reducible refine FCond.uT (fun hq=>?_));rw [hq];(with_reducible refine FCond.t rfl ?_);clear hq)|((with_reducible refine FCond.uF (fun hq=>?_));rw [hq];(with_reducible refine FCond.f rfl ?_);clear hq)|((with_reducible refine wJ (fun hq=>?_) (fun hq=>?_)) <;> (rw [hq];(with_reducible first|refine FCond.t rfl ?_|refine FCond.f rfl ?_);(try simp only [zA,zE,zD,zJ,zB,zI,wK,wL] at hq)))|(with_reducible first|refine wA ?_|refine wB ?_|refine wC ?_|refine wD ?_|refine wE ?_)|((with_reducible refine wN ?_ ?_);focus exact needA)|(with_reducible refine wG ?_)|(rw [gC_at])|(with_reducible refine wP ?_)))
   all_goals (try conv=>whnf)
   refine FWk.of [(4,.ptr 0 0),(5,.ptr 1 0),(8,AI (bestT c j).2),(14,.ptr 2 0),(15,.ptr 5 0)] [.box 6 (cJob j),.box 12 (cEs xf xm q xt xfi xc xl xu),.box 3 (ofL [AI c.langs,.own 3 c.people.length,cpLaws c.laws]),.rwg c.people.length 6 (gC c.people q (fun _=>.bot)),.row (c.people.getD q ps0).levels.length 1 (fun k _=>AI ((c.people.getD q ps0).levels.getD k 0)),.box 6 (cQ0 4 (c.people.getD q ps0))] [0,1,2,3,4,5] (wO rfl rfl rfl (wV rfl (LnB.A) (wV rfl (LnB.A) (wV rfl (LnB.boxN ⟨⟨⟨True.intro,Ln.A⟩,Ln.ownE rfl rfl⟩,Ln.A⟩) (wV rfl (gC_ref ⟨Ln.bot _,Ln.bot _,Ln.bot _,Ln.bot _,Ln.bot _,Ln.bot _⟩) (wV rfl (LnB.A) (wV rfl (LnB.boxN ⟨⟨⟨⟨⟨⟨True.intro,Ln.ownE rfl rfl⟩,Ln.A⟩,Ln.A⟩,Ln.A⟩,Ln.A⟩,Ln.A⟩) wX))))))) ⟨Ln.A,Ln.A,Ln.A,Ln.A,Ln.A,True.intro⟩ ?_
   by_cases hx0:0 ≤ xt
   ·have hx1:¬ xt < (c.people.getD q ps0).ties.length:=by omega
    (repeat' ((try conv=>whnf);first|(with_reducible first|refine FCond.t rfl ?_|refine FCond.f rfl ?_)|((with_reducible refine FCond.uT (fun hq=>?_));rw [hq];(with_reducible refine FCond.t rfl ?_);clear hq)|((with_reducible refine FCond.uF (fun hq=>?_));rw [hq];(with_reducible refine FCond.f rfl ?_);clear hq)|((with_reducible refine wJ (fun hq=>?_) (fun hq=>?_)) <;> (rw [hq];(with_reducible first|refine FCond.t rfl ?_|refine FCond.f rfl ?_);(try simp only [zA,zE,zD,zJ,zB,zI,wK,wL] at hq)))|(with_reducible first|refine wA ?_|refine wB ?_|refine wC ?_|refine wD ?_|refine wE ?_)|((with_reducible refine wN ?_ ?_);focus exact needA)|(with_reducible refine wG ?_)|(with_reducible refine wP ?_)))
    all_goals (try conv=>whnf)
    exact FWk.of [(4,.ptr 0 0),(5,.ptr 1 0),(8,AI (bestT c j).2),(14,.ptr 2 0),(15,.ptr 5 0)] [.box 6 (cJob j),.box 12 (cEs xf xm q xt xfi xc xl xu),.box 3 (ofL [AI c.langs,.own 3 c.people.length,cpLaws c.laws]),.rwg c.people.length 6 (gC c.people q (fun _=>.bot)),.row (c.people.getD q ps0).levels.length 1 (fun k _=>AI ((c.people.getD q ps0).levels.getD k 0)),.box 6 (ofL [.own 4 (c.people.getD q ps0).levels.length,AI (c.people.getD q ps0).fields,AI (c.people.getD q ps0).clears,aInts false false τ,.bool (c.people.getD q ps0).deaf,AI (c.people.getD q ps0).fee])] [0,1,2,3,4,5] (wO rfl rfl rfl (wV rfl (LnB.A) (wV rfl (LnB.A) (wV rfl (LnB.A) (wV rfl (gC_ref ⟨Ln.bot _,Ln.bot _,Ln.bot _,Ln.bot _,Ln.bot _,Ln.bot _⟩) (wV rfl (LnB.A) (wV rfl (LnB.boxN ⟨⟨⟨⟨⟨⟨True.intro,Ln.ownE rfl rfl⟩,Ln.A⟩,Ln.A⟩,(by rw [hτ2];exact Ln.sl _ _ _ _ _ _ _ (fun h=>by cases h) (fun _ _ _ _=>rfl))⟩,Ln.A⟩,Ln.A⟩) wX))))))) ⟨Ln.ptr _ _ _ rfl,Ln.ptr _ _ _ rfl,Ln.A,Ln.ptr _ _ _ rfl,Ln.ptr _ _ _ rfl,True.intro⟩ rest.h
   ·(repeat' ((try conv=>whnf);first|(with_reducible first|refine FCond.t rfl ?_|refine FCond.f rfl ?_)|((with_reducible refine FCond.uT (fun hq=>?_));rw [hq];(with_reducible refine FCond.t rfl ?_);clear hq)|((with_reducible refine FCond.uF (fun hq=>?_));rw [hq];(with_reducible refine FCond.f rfl ?_);clear hq)|((with_reducible refine wJ (fun hq=>?_) (fun hq=>?_)) <;> (rw [hq];(with_reducible first|refine FCond.t rfl ?_|refine FCond.f rfl ?_);(try simp only [zA,zE,zD,zJ,zB,zI,wK,wL] at hq)))|(with_reducible first|refine wA ?_|refine wB ?_|refine wC ?_|refine wD ?_|refine wE ?_)|((with_reducible refine wN ?_ ?_);focus exact needA)|(with_reducible refine wG ?_)|(with_reducible refine wP ?_)))
    all_goals (try conv=>whnf)
    exact FWk.of [(4,.ptr 0 0),(5,.ptr 1 0),(8,AI (bestT c j).2),(14,.ptr 2 0),(15,.ptr 5 0)] [.box 6 (cJob j),.box 12 (cEs xf xm q xt xfi xc xl xu),.box 3 (ofL [AI c.langs,.own 3 c.people.length,cpLaws c.laws]),.rwg c.people.length 6 (gC c.people q (fun _=>.bot)),.row (c.people.getD q ps0).levels.length 1 (fun k _=>AI ((c.people.getD q ps0).levels.getD k 0)),.box 6 (ofL [.own 4 (c.people.getD q ps0).levels.length,AI (c.people.getD q ps0).fields,AI (c.people.getD q ps0).clears,aInts false false τ,.bool (c.people.getD q ps0).deaf,AI (c.people.getD q ps0).fee])] [0,1,2,3,4,5] (wO rfl rfl rfl (wV rfl (LnB.A) (wV rfl (LnB.A) (wV rfl (LnB.A) (wV rfl (gC_ref ⟨Ln.bot _,Ln.bot _,Ln.bot _,Ln.bot _,Ln.bot _,Ln.bot _⟩) (wV rfl (LnB.A) (wV rfl (LnB.boxN ⟨⟨⟨⟨⟨⟨True.intro,Ln.ownE rfl rfl⟩,Ln.A⟩,Ln.A⟩,(by rw [hτ2];exact Ln.sl _ _ _ _ _ _ _ (fun h=>by cases h) (fun _ _ _ _=>rfl))⟩,Ln.A⟩,Ln.A⟩) wX))))))) ⟨Ln.ptr _ _ _ rfl,Ln.ptr _ _ _ rfl,Ln.A,Ln.ptr _ _ _ rfl,Ln.ptr _ _ _ rfl,True.intro⟩ rest.h
  ·have cC:=copy_q1 f c.langs c.people c.laws hsm q hq hlv (by omega)
   (repeat' ((try conv=>whnf);first|(with_reducible first|refine FCond.t rfl ?_|refine FCond.f rfl ?_)|((with_reducible refine FCond.uT (fun hq=>?_));rw [hq];(with_reducible refine FCond.t rfl ?_);clear hq)|((with_reducible refine FCond.uF (fun hq=>?_));rw [hq];(with_reducible refine FCond.f rfl ?_);clear hq)|((with_reducible refine wJ (fun hq=>?_) (fun hq=>?_)) <;> (rw [hq];(with_reducible first|refine FCond.t rfl ?_|refine FCond.f rfl ?_);(try simp only [zA,zE,zD,zJ,zB,zI,wK,wL] at hq)))|(with_reducible first|refine wA ?_|refine wB ?_|refine wC ?_|refine wD ?_|refine wE ?_)|((with_reducible refine wN ?_ ?_);focus exact needA)|(with_reducible refine wG ?_)|(with_reducible refine wP ?_)))
   all_goals (try conv=>whnf)
   ((refine FCall.give [] [] (cC) rfl rfl True.intro ⟨Ln.A,True.intro⟩ ?_);rintro _ _ ⟨rfl,rfl⟩;(refine ⟨by first|exact Nat.le_of_ble_eq_true rfl|omega,.inl rfl,?_⟩))
   (repeat' ((try conv=>whnf);first|(with_reducible first|refine FCond.t rfl ?_|refine FCond.f rfl ?_)|((with_reducible refine FCond.uT (fun hq=>?_));rw [hq];(with_reducible refine FCond.t rfl ?_);clear hq)|((with_reducible refine FCond.uF (fun hq=>?_));rw [hq];(with_reducible refine FCond.f rfl ?_);clear hq)|((with_reducible refine wJ (fun hq=>?_) (fun hq=>?_)) <;> (rw [hq];(with_reducible first|refine FCond.t rfl ?_|refine FCond.f rfl ?_);(try simp only [zA,zE,zD,zJ,zB,zI,wK,wL] at hq)))|(with_reducible first|refine wA ?_|refine wB ?_|refine wC ?_|refine wD ?_|refine wE ?_)|((with_reducible refine wN ?_ ?_);focus exact needA)|(with_reducible refine wG ?_)|(with_reducible refine wP ?_)))
   all_goals (try conv=>whnf)
   refine FWk.of [(4,.ptr 0 0),(5,.ptr 1 0),(8,AI (bestT c j).2),(14,.ptr 2 0)] [.box 6 (cJob j),.box 12 (cEs xf xm q xt xfi xc xl xu),.box 3 (ofL [AI c.langs,.own 3 c.people.length,cpLaws c.laws]),.rwg c.people.length 6 (gC c.people q (cQ1 4 5 (c.people.getD q ps0))),.row (c.people.getD q ps0).levels.length 1 (fun k _=>AI ((c.people.getD q ps0).levels.getD k 0)),rowJ (c.people.getD q ps0).ties] [1,2,6,3,4,5] (wO rfl rfl rfl (wV rfl (LnB.A) (wV rfl (LnB.A) (wV rfl (LnB.boxN ⟨⟨⟨True.intro,Ln.A⟩,Ln.ownE rfl rfl⟩,Ln.A⟩) (wV rfl (gC_ren ⟨Ln.ownE rfl rfl,Ln.A,Ln.A,Ln.ownE rfl rfl,Ln.A,Ln.A⟩) (wV rfl (LnB.A) (wV rfl (LnB.A) wX))))))) ⟨Ln.A,Ln.A,Ln.A,Ln.A,True.intro⟩ ?_
   (repeat' ((try conv=>whnf);first|(with_reducible first|refine FCond.t rfl ?_|refine FCond.f rfl ?_)|((with_reducible refine FCond.uT (fun hq=>?_));rw [hq];(with_reducible refine FCond.t rfl ?_);clear hq)|((with_reducible refine FCond.uF (fun hq=>?_));rw [hq];(with_reducible refine FCond.f rfl ?_);clear hq)|((with_reducible refine wJ (fun hq=>?_) (fun hq=>?_)) <;> (rw [hq];(with_reducible first|refine FCond.t rfl ?_|refine FCond.f rfl ?_);(try simp only [zA,zE,zD,zJ,zB,zI,wK,wL] at hq)))|(with_reducible first|refine wA ?_|refine wB ?_|refine wC ?_|refine wD ?_|refine wE ?_)|((with_reducible refine wN ?_ ?_);focus exact needA)|(with_reducible refine wG ?_)|(rw [gC_at])|(with_reducible refine wP ?_)))
   all_goals (try conv=>whnf)
   refine FWk.of [(4,.ptr 0 0),(5,.ptr 1 0),(8,AI (bestT c j).2),(14,.ptr 2 0),(15,.ptr 5 0)] [.box 6 (cJob j),.box 12 (cEs xf xm q xt xfi xc xl xu),.box 3 (ofL [AI c.langs,.own 3 c.people.length,cpLaws c.laws]),.rwg c.people.length 6 (gC c.people q (fun _=>.bot)),.row (c.people.getD q ps0).levels.length 1 (fun k _=>AI ((c.people.getD q ps0).levels.getD k 0)),.box 6 (cQ1 4 6 (c.people.getD q ps0)),rowJ (c.people.getD q ps0).ties] [0,1,2,3,4,6,5] (wO rfl rfl rfl (wV rfl (LnB.A) (wV rfl (LnB.A) (wV rfl (LnB.boxN ⟨⟨⟨True.intro,Ln.A⟩,Ln.ownE rfl rfl⟩,Ln.A⟩) (wV rfl (gC_ref ⟨Ln.bot _,Ln.bot _,Ln.bot _,Ln.bot _,Ln.bot _,Ln.bot _⟩) (wV rfl (LnB.A) (wV rfl (LnB.boxN ⟨⟨⟨⟨⟨⟨True.intro,Ln.ownE rfl rfl⟩,Ln.A⟩,Ln.A⟩,Ln.ownE rfl rfl⟩,Ln.A⟩,Ln.A⟩) (wV rfl (LnB.A) wX)))))))) ⟨Ln.A,Ln.A,Ln.A,Ln.A,Ln.A,True.intro⟩ ?_
   by_cases hx2:0 ≤ xt ∧ xt < (c.people.getD q ps0).ties.length
   ·obtain ⟨i,hxi⟩:∃ i:Nat,xt = i:=⟨xt.toNat,by omega⟩
    have hi:i < (c.people.getD q ps0).ties.length:=by omega
    have hτ2:τ = delT (c.people.getD q ps0).ties i:=by rw [hτ.h];unfold pick;rw [if_pos hx2,hxi];rfl
    have hdl:=delT_length hi
    have hdg:=fun k=>delT_get (k:=k) hi
    (repeat' ((try conv=>whnf);first|(with_reducible first|refine FCond.t rfl ?_|refine FCond.f rfl ?_)|((with_reducible refine FCond.uT (fun hq=>?_));rw [hq];(with_reducible refine FCond.t rfl ?_);clear hq)|((with_reducible refine FCond.uF (fun hq=>?_));rw [hq];(with_reducible refine FCond.f rfl ?_);clear hq)|((with_reducible refine wJ (fun hq=>?_) (fun hq=>?_)) <;> (rw [hq];(with_reducible first|refine FCond.t rfl ?_|refine FCond.f rfl ?_);(try simp only [zA,zE,zD,zJ,zB,zI,wK,wL] at hq)))|(with_reducible first|refine wA ?_|refine wB ?_|refine wC ?_|refine wD ?_|refine wE ?_)|((with_reducible refine wN ?_ ?_);focus exact needA)|(rw [hxi];(with_reducible first|refine FTo.nat (by omega) ?_|refine FTo.int (by omega) ?_))|(refine FApp.share (Need.mk (by omega) (Need.mk ?_ ?_)))|(with_reducible refine wP ?_)))
    all_goals (try conv=>whnf)
    all_goals first
     | exact FWk.of [(4,.ptr 0 0),(5,.ptr 1 0),(8,AI (bestT c j).2),(14,.ptr 2 0),(15,.ptr 5 0)] [.box 6 (cJob j),.box 12 (cEs xf xm q xt xfi xc xl xu),.box 3 (ofL [AI c.langs,.own 3 c.people.length,cpLaws c.laws]),.rwg c.people.length 6 (gC c.people q (fun _=>.bot)),.row (c.people.getD q ps0).levels.length 1 (fun k _=>AI ((c.people.getD q ps0).levels.getD k 0)),.box 6 (ofL [.own 4 (c.people.getD q ps0).levels.length,AI (c.people.getD q ps0).fields,AI (c.people.getD q ps0).clears,aInts false false τ,.bool (c.people.getD q ps0).deaf,AI (c.people.getD q ps0).fee])] [0,1,2,3,4,5] (wO rfl rfl rfl (wV rfl (LnB.A) (wV rfl (LnB.A) (wV rfl (LnB.A) (wV rfl (gC_ref ⟨Ln.bot _,Ln.bot _,Ln.bot _,Ln.bot _,Ln.bot _,Ln.bot _⟩) (wV rfl (LnB.A) (wV rfl (LnB.boxN ⟨⟨⟨⟨⟨⟨True.intro,Ln.ownE rfl rfl⟩,Ln.A⟩,Ln.A⟩,(by rw [hτ2];exact Ln.pubE (goneB rfl) rfl (Nat.le_refl _) (by omega) (fun k hk o ho=>by rw [hdg];simp only [appc];rw [show xt.toNat = i from by omega,show (xt + 1).toNat = i + 1 from by omega];by_cases hkk:k < i <;> simp only [hkk,if_true,if_false]))⟩,Ln.A⟩,Ln.A⟩) wX))))))) ⟨Ln.ptr _ _ _ rfl,Ln.ptr _ _ _ rfl,Ln.A,Ln.ptr _ _ _ rfl,Ln.ptr _ _ _ rfl,True.intro⟩ rest.h
     | fail
   ·have hτ2:τ = (c.people.getD q ps0).ties:=by rw [hτ.h];unfold pick;rw [if_neg hx2];rfl
    by_cases hx0:0 ≤ xt
    ·have hx1:¬ xt < (c.people.getD q ps0).ties.length:=fun h=>hx2 ⟨hx0,h⟩
     (repeat' ((try conv=>whnf);first|(with_reducible first|refine FCond.t rfl ?_|refine FCond.f rfl ?_)|((with_reducible refine FCond.uT (fun hq=>?_));rw [hq];(with_reducible refine FCond.t rfl ?_);clear hq)|((with_reducible refine FCond.uF (fun hq=>?_));rw [hq];(with_reducible refine FCond.f rfl ?_);clear hq)|((with_reducible refine wJ (fun hq=>?_) (fun hq=>?_)) <;> (rw [hq];(with_reducible first|refine FCond.t rfl ?_|refine FCond.f rfl ?_);(try simp only [zA,zE,zD,zJ,zB,zI,wK,wL] at hq)))|(with_reducible first|refine wA ?_|refine wB ?_|refine wC ?_|refine wD ?_|refine wE ?_)|((with_reducible refine wN ?_ ?_);focus exact needA)|(with_reducible refine wG ?_)|(with_reducible refine wP ?_)))
     all_goals (try conv=>whnf)
     exact FWk.of [(4,.ptr 0 0),(5,.ptr 1 0),(8,AI (bestT c j).2),(14,.ptr 2 0),(15,.ptr 5 0)] [.box 6 (cJob j),.box 12 (cEs xf xm q xt xfi xc xl xu),.box 3 (ofL [AI c.langs,.own 3 c.people.length,cpLaws c.laws]),.rwg c.people.length 6 (gC c.people q (fun _=>.bot)),.row (c.people.getD q ps0).levels.length 1 (fun k _=>AI ((c.people.getD q ps0).levels.getD k 0)),.box 6 (ofL [.own 4 (c.people.getD q ps0).levels.length,AI (c.people.getD q ps0).fields,AI (c.people.getD q ps0).clears,aInts false false τ,.bool (c.people.getD q ps0).deaf,AI (c.people.getD q ps0).fee])] [0,1,2,3,4,5] (wO rfl rfl rfl (wV rfl (LnB.A) (wV rfl (LnB.A) (wV rfl (LnB.A) (wV rfl (gC_ref ⟨Ln.bot _,Ln.bot _,Ln.bot _,Ln.bot _,Ln.bot _,Ln.bot _⟩) (wV rfl (LnB.A) (wV rfl (LnB.boxN ⟨⟨⟨⟨⟨⟨True.intro,Ln.ownE rfl rfl⟩,Ln.A⟩,Ln.A⟩,(by rw [hτ2];exact Ln.pubE (goneB rfl) rfl (Nat.le_refl _) rfl (fun _ _ _ _=>rfl))⟩,Ln.A⟩,Ln.A⟩) wX))))))) ⟨Ln.ptr _ _ _ rfl,Ln.ptr _ _ _ rfl,Ln.A,Ln.ptr _ _ _ rfl,Ln.ptr _ _ _ rfl,True.intro⟩ rest.h
    ·(repeat' ((try conv=>whnf);first|(with_reducible first|refine FCond.t rfl ?_|refine FCond.f rfl ?_)|((with_reducible refine FCond.uT (fun hq=>?_));rw [hq];(with_reducible refine FCond.t rfl ?_);clear hq)|((with_reducible refine FCond.uF (fun hq=>?_));rw [hq];(with_reducible refine FCond.f rfl ?_);clear hq)|((with_reducible refine wJ (fun hq=>?_) (fun hq=>?_)) <;> (rw [hq];(with_reducible first|refine FCond.t rfl ?_|refine FCond.f rfl ?_);(try simp only [zA,zE,zD,zJ,zB,zI,wK,wL] at hq)))|(with_reducible first|refine wA ?_|refine wB ?_|refine wC ?_|refine wD ?_|refine wE ?_)|((with_reducible refine wN ?_ ?_);focus exact needA)|(with_reducible refine wG ?_)|(with_reducible refine wP ?_)))
     all_goals (try conv=>whnf)
     exact FWk.of [(4,.ptr 0 0),(5,.ptr 1 0),(8,AI (bestT c j).2),(14,.ptr 2 0),(15,.ptr 5 0)] [.box 6 (cJob j),.box 12 (cEs xf xm q xt xfi xc xl xu),.box 3 (ofL [AI c.langs,.own 3 c.people.length,cpLaws c.laws]),.rwg c.people.length 6 (gC c.people q (fun _=>.bot)),.row (c.people.getD q ps0).levels.length 1 (fun k _=>AI ((c.people.getD q ps0).levels.getD k 0)),.box 6 (ofL [.own 4 (c.people.getD q ps0).levels.length,AI (c.people.getD q ps0).fields,AI (c.people.getD q ps0).clears,aInts false false τ,.bool (c.people.getD q ps0).deaf,AI (c.people.getD q ps0).fee])] [0,1,2,3,4,5] (wO rfl rfl rfl (wV rfl (LnB.A) (wV rfl (LnB.A) (wV rfl (LnB.A) (wV rfl (gC_ref ⟨Ln.bot _,Ln.bot _,Ln.bot _,Ln.bot _,Ln.bot _,Ln.bot _⟩) (wV rfl (LnB.A) (wV rfl (LnB.boxN ⟨⟨⟨⟨⟨⟨True.intro,Ln.ownE rfl rfl⟩,Ln.A⟩,Ln.A⟩,(by rw [hτ2];exact Ln.pubE (goneB rfl) rfl (Nat.le_refl _) rfl (fun _ _ _ _=>rfl))⟩,Ln.A⟩,Ln.A⟩) wX))))))) ⟨Ln.ptr _ _ _ rfl,Ln.ptr _ _ _ rfl,Ln.A,Ln.ptr _ _ _ rfl,Ln.ptr _ _ _ rfl,True.intro⟩ rest.h
 have hfp:0 ≤ (c.people.getD q ps0).fields ∧ (c.people.getD q ps0).fields ≤ 255:=p3
 have hcp:0 ≤ (c.people.getD q ps0).clears ∧ (c.people.getD q ps0).clears ≤ 255:=p4
 obtain ⟨lam,hlam⟩:∃ lam,Hold (lam = levG (c.people.getD q ps0).levels (pick xl (c.people.getD q ps0).levels.length) xu):=⟨_,⟨rfl⟩⟩
 (repeat' ((try conv=>whnf);first|(with_reducible first|refine FCond.t rfl ?_|refine FCond.f rfl ?_)|((with_reducible refine FCond.uT (fun hq=>?_));rw [hq];(with_reducible refine FCond.t rfl ?_);clear hq)|((with_reducible refine FCond.uF (fun hq=>?_));rw [hq];(with_reducible refine FCond.f rfl ?_);clear hq)|((with_reducible refine wJ (fun hq=>?_) (fun hq=>?_)) <;> (rw [hq];(with_reducible first|refine FCond.t rfl ?_|refine FCond.f rfl ?_);(try simp only [zA,zE,zD,zJ,zB,zI,wK,wL] at hq)))|(with_reducible first|refine wA ?_|refine wB ?_|refine wC ?_|refine wD ?_|refine wE ?_)|((with_reducible refine wN ?_ ?_);focus exact needA)|(with_reducible refine wG ?_)|(with_reducible refine wP ?_)))
 all_goals (try conv=>whnf)
 refine FBit.and255 (fun y1 hy1=>?_)
 (repeat' ((try conv=>whnf);first|(with_reducible first|refine FCond.t rfl ?_|refine FCond.f rfl ?_)|((with_reducible refine FCond.uT (fun hq=>?_));rw [hq];(with_reducible refine FCond.t rfl ?_);clear hq)|((with_reducible refine FCond.uF (fun hq=>?_));rw [hq];(with_reducible refine FCond.f rfl ?_);clear hq)|((with_reducible refine wJ (fun hq=>?_) (fun hq=>?_)) <;> (rw [hq];(with_reducible first|refine FCond.t rfl ?_|refine FCond.f rfl ?_);(try simp only [zA,zE,zD,zJ,zB,zI,wK,wL] at hq)))|(with_reducible first|refine wA ?_|refine wB ?_|refine wC ?_|refine wD ?_|refine wE ?_)|((with_reducible refine wN ?_ ?_);focus exact needA)|(with_reducible refine wG ?_)|(refine FBit.orI (a:=(c.people.getD q ps0).fields.toNat) rfl (by omega) rfl (by omega) (by omega) ?_)|(with_reducible refine wP ?_)))
 all_goals (try conv=>whnf)
 refine FBit.and255 (fun y2 hy2=>?_)
 apply cutG
 ·intro rest
  by_cases hx2:0 ≤ xl ∧ xl < (c.people.getD q ps0).levels.length
  ·have ha:xl.toNat < (c.people.getD q ps0).levels.length:=by omega
   have hla:∀ k,lam.getD k 0 = if k = xl.toNat then min 5 ((c.people.getD q ps0).levels.getD xl.toNat 0 + xu) else (c.people.getD q ps0).levels.getD k 0:=fun k=>by
    rw [hlam.h];unfold pick;rw [if_pos hx2];exact levG_get ha k
   have hpa:=p2 xl.toNat ha
   (repeat' ((try conv=>whnf);first|(with_reducible first|refine FCond.t rfl ?_|refine FCond.f rfl ?_)|((with_reducible refine FCond.uT (fun hq=>?_));rw [hq];(with_reducible refine FCond.t rfl ?_);clear hq)|((with_reducible refine FCond.uF (fun hq=>?_));rw [hq];(with_reducible refine FCond.f rfl ?_);clear hq)|((with_reducible refine wJ (fun hq=>?_) (fun hq=>?_)) <;> (rw [hq];(with_reducible first|refine FCond.t rfl ?_|refine FCond.f rfl ?_);(try simp only [zA,zE,zD,zJ,zB,zI,wK,wL] at hq)))|(with_reducible first|refine wA ?_|refine wB ?_|refine wC ?_|refine wD ?_|refine wE ?_)|((with_reducible refine wN ?_ ?_);focus exact needA)|(with_reducible refine wG ?_)|(refine FBit.orI (a:=(c.people.getD q ps0).clears.toNat) rfl (by omega) rfl (by omega) (by omega) ?_)|(with_reducible refine wP ?_)))
   all_goals (try conv=>whnf)
   exact FWk.of [(4,.ptr 0 0),(5,.ptr 1 0),(8,AI (bestT c j).2),(14,.ptr 2 0),(15,.ptr 5 0)] [.box 6 (cJob j),.box 12 (cEs xf xm q xt xfi xc xl xu),.box 3 (ofL [AI c.langs,.own 3 c.people.length,cpLaws c.laws]),.rwg c.people.length 6 (gC c.people q (fun _=>.bot)),.row (c.people.getD q ps0).levels.length 1 (fun k _=>AI (lam.getD k 0)),.box 6 (ofL [.own 4 (c.people.getD q ps0).levels.length,AI (((c.people.getD q ps0).fields.toNat ||| y1:Nat):Int),AI (((c.people.getD q ps0).clears.toNat ||| y2:Nat):Int),aInts false false τ,.bool (c.people.getD q ps0).deaf,AI (c.people.getD q ps0).fee])] [0,1,2,3,4,5] (wO rfl rfl rfl (wV rfl (LnB.A) (wV rfl (LnB.A) (wV rfl (LnB.A) (wV rfl (gC_ref ⟨Ln.bot _,Ln.bot _,Ln.bot _,Ln.bot _,Ln.bot _,Ln.bot _⟩) (wV rfl (LnB.rowE (Nat.le_refl _) fun k hk o ho=>lev_cell hla ho) (wV rfl (LnB.boxN ⟨⟨⟨⟨⟨⟨True.intro,Ln.ownE rfl rfl⟩,Ln.A⟩,Ln.A⟩,Ln.A⟩,Ln.A⟩,Ln.A⟩) wX))))))) ⟨Ln.ptr _ _ _ rfl,Ln.ptr _ _ _ rfl,Ln.A,Ln.ptr _ _ _ rfl,Ln.ptr _ _ _ rfl,True.intro⟩ rest.h
  ·have hla:lam = (c.people.getD q ps0).levels:=by rw [hlam.h];unfold pick;rw [if_neg hx2];rfl
   by_cases hx0:0 ≤ xl
   ·have hx1:¬ xl < (c.people.getD q ps0).levels.length:=fun h=>hx2 ⟨hx0,h⟩
    (repeat' ((try conv=>whnf);first|(with_reducible first|refine FCond.t rfl ?_|refine FCond.f rfl ?_)|((with_reducible refine FCond.uT (fun hq=>?_));rw [hq];(with_reducible refine FCond.t rfl ?_);clear hq)|((with_reducible refine FCond.uF (fun hq=>?_));rw [hq];(with_reducible refine FCond.f rfl ?_);clear hq)|((with_reducible refine wJ (fun hq=>?_) (fun hq=>?_)) <;> (rw [hq];(with_reducible first|refine FCond.t rfl ?_|refine FCond.f rfl ?_);(try simp only [zA,zE,zD,zJ,zB,zI,wK,wL] at hq)))|(with_reducible first|refine wA ?_|refine wB ?_|refine wC ?_|refine wD ?_|refine wE ?_)|((with_reducible refine wN ?_ ?_);focus exact needA)|(with_reducible refine wG ?_)|(refine FBit.orI (a:=(c.people.getD q ps0).clears.toNat) rfl (by omega) rfl (by omega) (by omega) ?_)|(with_reducible refine wP ?_)))
    all_goals (try conv=>whnf)
    exact FWk.of [(4,.ptr 0 0),(5,.ptr 1 0),(8,AI (bestT c j).2),(14,.ptr 2 0),(15,.ptr 5 0)] [.box 6 (cJob j),.box 12 (cEs xf xm q xt xfi xc xl xu),.box 3 (ofL [AI c.langs,.own 3 c.people.length,cpLaws c.laws]),.rwg c.people.length 6 (gC c.people q (fun _=>.bot)),.row (c.people.getD q ps0).levels.length 1 (fun k _=>AI (lam.getD k 0)),.box 6 (ofL [.own 4 (c.people.getD q ps0).levels.length,AI (((c.people.getD q ps0).fields.toNat ||| y1:Nat):Int),AI (((c.people.getD q ps0).clears.toNat ||| y2:Nat):Int),aInts false false τ,.bool (c.people.getD q ps0).deaf,AI (c.people.getD q ps0).fee])] [0,1,2,3,4,5] (wO rfl rfl rfl (wV rfl (LnB.A) (wV rfl (LnB.A) (wV rfl (LnB.A) (wV rfl (gC_ref ⟨Ln.bot _,Ln.bot _,Ln.bot _,Ln.bot _,Ln.bot _,Ln.bot _⟩) (wV rfl ((by rw [hla];exact LnB.A)) (wV rfl (LnB.boxN ⟨⟨⟨⟨⟨⟨True.intro,Ln.ownE rfl rfl⟩,Ln.A⟩,Ln.A⟩,Ln.A⟩,Ln.A⟩,Ln.A⟩) wX))))))) ⟨Ln.ptr _ _ _ rfl,Ln.ptr _ _ _ rfl,Ln.A,Ln.ptr _ _ _ rfl,Ln.ptr _ _ _ rfl,True.intro⟩ rest.h
   ·(repeat' ((try conv=>whnf);first|(with_reducible first|refine FCond.t rfl ?_|refine FCond.f rfl ?_)|((with_reducible refine FCond.uT (fun hq=>?_));rw [hq];(with_reducible refine FCond.t rfl ?_);clear hq)|((with_reducible refine FCond.uF (fun hq=>?_));rw [hq];(with_reducible refine FCond.f rfl ?_);clear hq)|((with_reducible refine wJ (fun hq=>?_) (fun hq=>?_)) <;> (rw [hq];(with_reducible first|refine FCond.t rfl ?_|refine FCond.f rfl ?_);(try simp only [zA,zE,zD,zJ,zB,zI,wK,wL] at hq)))|(with_reducible first|refine wA ?_|refine wB ?_|refine wC ?_|refine wD ?_|refine wE ?_)|((with_reducible refine wN ?_ ?_);focus exact needA)|(with_reducible refine wG ?_)|(refine FBit.orI (a:=(c.people.getD q ps0).clears.toNat) rfl (by omega) rfl (by omega) (by omega) ?_)|(with_reducible refine wP ?_)))
    all_goals (try conv=>whnf)
    exact FWk.of [(4,.ptr 0 0),(5,.ptr 1 0),(8,AI (bestT c j).2),(14,.ptr 2 0),(15,.ptr 5 0)] [.box 6 (cJob j),.box 12 (cEs xf xm q xt xfi xc xl xu),.box 3 (ofL [AI c.langs,.own 3 c.people.length,cpLaws c.laws]),.rwg c.people.length 6 (gC c.people q (fun _=>.bot)),.row (c.people.getD q ps0).levels.length 1 (fun k _=>AI (lam.getD k 0)),.box 6 (ofL [.own 4 (c.people.getD q ps0).levels.length,AI (((c.people.getD q ps0).fields.toNat ||| y1:Nat):Int),AI (((c.people.getD q ps0).clears.toNat ||| y2:Nat):Int),aInts false false τ,.bool (c.people.getD q ps0).deaf,AI (c.people.getD q ps0).fee])] [0,1,2,3,4,5] (wO rfl rfl rfl (wV rfl (LnB.A) (wV rfl (LnB.A) (wV rfl (LnB.A) (wV rfl (gC_ref ⟨Ln.bot _,Ln.bot _,Ln.bot _,Ln.bot _,Ln.bot _,Ln.bot _⟩) (wV rfl ((by rw [hla];exact LnB.A)) (wV rfl (LnB.boxN ⟨⟨⟨⟨⟨⟨True.intro,Ln.ownE rfl rfl⟩,Ln.A⟩,Ln.A⟩,Ln.A⟩,Ln.A⟩,Ln.A⟩) wX))))))) ⟨Ln.ptr _ _ _ rfl,Ln.ptr _ _ _ rfl,Ln.A,Ln.ptr _ _ _ rfl,Ln.ptr _ _ _ rfl,True.intro⟩ rest.h
 (repeat' ((try conv=>whnf);first|(with_reducible first|refine FCond.t rfl ?_|refine FCond.f rfl ?_)|((with_reducible refine FCond.uT (fun hq=>?_));rw [hq];(with_reducible refine FCond.t rfl ?_);clear hq)|((with_reducible refine FCond.uF (fun hq=>?_));rw [hq];(with_reducible refine FCond.f rfl ?_);clear hq)|((with_reducible refine wJ (fun hq=>?_) (fun hq=>?_)) <;> (rw [hq];(with_reducible first|refine FCond.t rfl ?_|refine FCond.f rfl ?_);(try simp only [zA,zE,zD,zJ,zB,zI,wK,wL] at hq)))|(with_reducible first|refine wA ?_|refine wB ?_|refine wC ?_|refine wD ?_|refine wE ?_)|((with_reducible refine wN ?_ ?_);focus exact needA)|(with_reducible refine wG ?_)|(with_reducible refine wP ?_)))
 all_goals (try conv=>whnf)
 obtain ⟨g,hgE⟩:∃ g:Gain,Hold (g = ⟨pick xl (c.people.getD q ps0).levels.length,xu,pick xt (c.people.getD q ps0).ties.length,y1,y2⟩):=⟨_,⟨rfl⟩⟩
 refine FWk.of [(4,.ptr 0 0),(8,AI (bestT c j).2),(14,.ptr 1 0)] [.box 6 (cJob j),.box 3 (cCrew (flG c q) (c.gain q g))] [0,2] ?cu ⟨Ln.A,Ln.A,Ln.A,True.intro⟩ ?k
 case cu=>exact (wO rfl rfl rfl (wV rfl (LnB.A) (wV rfl (LnB.boxN ⟨⟨⟨True.intro,Ln.A⟩,Ln.pubG (goneB rfl) rfl (by show (c.people.set q _).length = _;exact List.length_set) (Nat.le_refl _) (fun k hk o ho=>gain_cells hq (by rw [gain_eq,hgE.h];exact ⟨by show Ln _ _ _ _ (aInts false false (levG _ _ _));rw [← hlam.h];exact Ln.pubE (goneB rfl) rfl (Nat.le_refl _) (by rw [hlam.h,levG_len]) (fun _ _ _ _=>rfl),Ln.A,Ln.A,by show Ln _ _ _ _ (aInts false false (tieG _ _));rw [← hτ.h];exact Ln.sameB _ rfl,Ln.A,Ln.A⟩) k ho) (fun k hk=>pers_pure _ _)⟩,Ln.A⟩) wX)))
 obtain ⟨a2,n2,e2,hn2⟩:=teamE_gain (g:=g) h0 hq hb (by rw [hgE.h];exact g4) (by rw [hgE.h];exact hy1) (by rw [hgE.h];exact hy2)
 have cT2:=pteam_ok (flG c q) (c.gain q g) j
 rw [e2] at cT2
 (repeat' ((try conv=>whnf);first|(with_reducible first|refine FCond.t rfl ?_|refine FCond.f rfl ?_)|((with_reducible refine FCond.uT (fun hq=>?_));rw [hq];(with_reducible refine FCond.t rfl ?_);clear hq)|((with_reducible refine FCond.uF (fun hq=>?_));rw [hq];(with_reducible refine FCond.f rfl ?_);clear hq)|((with_reducible refine wJ (fun hq=>?_) (fun hq=>?_)) <;> (rw [hq];(with_reducible first|refine FCond.t rfl ?_|refine FCond.f rfl ?_);(try simp only [zA,zE,zD,zJ,zB,zI,wK,wL] at hq)))|(with_reducible first|refine wA ?_|refine wB ?_|refine wC ?_|refine wD ?_|refine wE ?_)|((with_reducible refine wN ?_ ?_);focus exact needA)|(with_reducible refine wG ?_)|(refine FCall.pure (cT2) ⟨Ln.sameB _ rfl,Ln.sameB _ rfl,True.intro⟩ rfl ?_)|(refine FCall.pure works_ok True.intro rfl ?_)|(with_reducible refine wP ?_)))
 all_goals (try conv=>whnf)
 all_goals ((refine ⟨⟨_,[],[],Cut.nil _,Ln.sameB _ rfl,?_,rfl⟩⟩);rfl)
end Go.Proofs.Ytdipcdallenmkaa

namespace Go.Proofs.Ytdipcdallenmkaa
open Go.RowKit Go.ChangeShapes Go.WideShapes Go.Deep

structure EaseV where
 f:PFl
 m:Person
 p:Int
 t:Int
 fi:Int
 c:Int
 l:Int
 u:Int
section
variable {H:Type} {enc:TypeId × Value → H} {w:World} {base:Nat} {held:Bool}
theorem csz12 : Try.prog.cellsOf 32 = 12:=by kernel_rfl
theorem rt_ease {n:Nat} {cs:List Value} {y:DataW H × List MemPlace} (h:DataW.trod enc Try.prog w base (fun _=>true) held n 32 cs = some y):∃ x:EaseV,True ∧ CellsAre w cs 12 (cEs x.f x.m x.p x.t x.fi x.c x.l x.u):=by
 obtain ⟨hl,⟨_,_,h0⟩,⟨_,_,h1⟩,⟨_,_,h2⟩,⟨_,_,h3⟩,⟨_,_,h4⟩,⟨_,_,h5⟩,⟨_,_,h6⟩,_⟩:=rdr_fields Try.underlying32 h
 simp only [csz.1,csz.2.2.2.1] at h0 h1 h2 h3 h4 h5 h6
 obtain ⟨x0,_,c0⟩:=rt_person h0
 obtain ⟨a,_,c1⟩:=rt_int h1
 obtain ⟨b,_,c2⟩:=rt_int h2
 obtain ⟨c,_,c3⟩:=rt_int h3
 obtain ⟨d,_,c4⟩:=rt_int h4
 obtain ⟨e,_,c5⟩:=rt_int h5
 obtain ⟨f,_,c6⟩:=rt_int h6
 refine ⟨⟨x0.1,x0.2,a,b,c,d,e,f⟩,trivial,by rw [hl];exact csz12,fun o ho=>?_⟩
 rcases (show o = 0 ∨ o = 1 ∨ o = 2 ∨ o = 3 ∨ o = 4 ∨ o = 5 ∨ o = 6 ∨ o = 7 ∨ o = 8 ∨ o = 9 ∨ o = 10 ∨ o = 11 by omega) with rfl|rfl|rfl|rfl|rfl|rfl|rfl|rfl|rfl|rfl|rfl|rfl
 ·exact c0.sub (o:=0) (by omega)
 ·exact c0.sub (o:=1) (by omega)
 ·exact c0.sub (o:=2) (by omega)
 ·exact c0.sub (o:=3) (by omega)
 ·exact c0.sub (o:=4) (by omega)
 ·exact c0.sub (o:=5) (by omega)
 ·exact c1.sub (o:=0) (by omega)
 ·exact c2.sub (o:=0) (by omega)
 ·exact c3.sub (o:=0) (by omega)
 ·exact c4.sub (o:=0) (by omega)
 ·exact c5.sub (o:=0) (by omega)
 ·exact c6.sub (o:=0) (by omega)
end
end Go.Proofs.Ytdipcdallenmkaa
