/- Relay: the program's search for best answers. -/
import Derived.Test.YtjfldbkjfaopbaaBp25
set_option linter.unusedSimpArgs false
set_option linter.unusedVariables false
namespace Go.Proofs.Ytjfldbkjfaopbaa.Q
open Go.RowKit Go.Shelf

abbrev fBack (T n:Nat):AV:=.fn 50 1 (ofL [.ip 1 (ofL [aSpots false false T n]) 0])
set_option maxHeartbeats 8000000
set_option maxRecDepth 100000
theorem backward_ok (T n:Nat):ACall Try.prog 41 [aSpots false false T n] [] (fun r h=>r = fBack T n ∧ h = []):=by
 (refine fcall_of mixed Try.func41 rfl (by decide) (hs:={}) ?k (ac:=?ac) ?c (rs:=?rs) ?r ?l ?H;(case k=>kernel_rfl);(case c=>(conv=>(lhs;cbv)));(case r=>(conv=>(lhs;cbv)));(case l=>exact Nat.le_of_ble_eq_true rfl))
 (repeat' ((try conv=>whnf);first|(with_reducible first|refine wT ?_|refine wF ?_|(refine wI (fun hq=>?_) (fun hq=>?_) <;> try simp only [zA,zE,zD,zJ,zB,zI,wK,wL] at hq)|refine wA ?_|refine wB ?_|refine wC ?_|refine wD ?_|refine wE ?_)|((with_reducible refine wN ?_ ?_);focus exact needA)|(with_reducible refine wG ?_)|(with_reducible refine wP ?_)))
 (try conv=>whnf)
 exact ⟨⟨fBack T n,[],[],Cut.nil _,Ln.fnN ⟨True.intro,Ln.boxP (m:=1) (goneB rfl) rfl ⟨True.intro,Ln.sameB _ rfl⟩ rfl⟩,rfl,rfl⟩⟩
theorem best_walk (f:StF) (s:Std) (hs:StdOk s):ACall Try.prog 24 [aStd f s] [] (fun r h=>r = .tup 2 (ofL [.own 0 s.C,aWt (bestW s)]) ∧ h = [rowA s.C (fun c=>(bestL s).getD c na)]):=by
 have ht:=hs.t
 have t1:=hs.t1
 have t8:=hs.t8
 have c12:s.rg.length ≤ 12:=hs.c12
 have n1:=hs.n1
 have n4:=hs.n4
 have hnT:s.n * s.T ≤ 32:=Nat.le_trans (Nat.mul_le_mul n4 t8) (by decide)
 have hp:=Nat.pow_le_pow_right (show 0 < 2 by decide) c12
 have hpos:0 < 2 ^ s.rg.length:=Nat.two_pow_pos _
 have cS:=spots_ok f s (s.T - 1) s.T (by omega) (by omega) (by omega) (by omega)
 (refine fcall_of mixed Try.func24 rfl (by decide) (hs:={ ord:=[(45,[(0,[]),(1,[]),(2,[]),(3,[2]),(4,[])])] }) ?k (ac:=?ac) ?c (rs:=?rs) ?r ?l ?H;(case k=>kernel_rfl);(case c=>(conv=>(lhs;cbv)));(case r=>(conv=>(lhs;cbv)));(case l=>exact Nat.le_of_ble_eq_true rfl))
 (repeat' ((try conv=>whnf);first|(with_reducible first|refine wT ?_|refine wF ?_|(refine wI (fun hq=>?_) (fun hq=>?_) <;> try simp only [zA,zE,zD,zJ,zB,zI,wK,wL] at hq)|refine wA ?_|refine wB ?_|refine wC ?_|refine wD ?_|refine wE ?_)|((with_reducible refine wN ?_ ?_);focus exact needA)|(with_reducible first|refine FBit.hasT rfl (by assumption) ?_|refine FBit.hasF rfl (by assumption) ?_|refine FBit.shrN rfl (by omega) ?_|refine FBit.half rfl ?_|refine FBit.shl1 rfl (by omega) ?_|refine Fits.inU (by omega) ?_|refine FBit.shrNI rfl (by omega) ?_|refine FBit.shrIN rfl (by omega) (by omega) ?_|refine FBit.shrI rfl (by omega) (by omega) ?_|refine FBit.shl1I rfl (by omega) ?_)|(with_reducible refine FBit.has rfl (fun hq=>?_) (fun hq=>?_))|(with_reducible first|refine FBit.and1 rfl ?_|refine FBit.andN rfl (by omega) (by omega) ?_|refine FBit.orN rfl (by omega) (by omega) ?_|refine FBit.andNotN rfl (by omega) (by omega) ?_)|(with_reducible refine wG ?_)|(refine FOr.keep ?_)|(refine FCall.pure cS ⟨Ln.A,Ln.int (by omega),True.intro⟩ rfl ?_)|(with_reducible refine wP ?_)))
 all_goals (try conv=>whnf)
 refine FLoop.of (ACalls.mono _) (X:=Nat) (fun m=>[(1,.ptr 0 0),(2,nilS),(3,.ptr 1 0),(4,aSpots false false s.T (s.n * s.T)),(5,AI (2 ^ s.rg.length:Nat)),(6,.ptr 4 0),(7,AI m)])
  (fun m=>[.box 3 (cStd f s),.box 2 (ofL [AI 0,AI 0]),.row (2 ^ s.rg.length) 4 (fun k=>cStp (r0 m k)),.rwg 1 1 (fun _ _=>.own 2 (2 ^ s.rg.length)),.box 1 (ofL [.own 3 1])])
  (fun m=>1 ≤ m ∧ m ≤ 2 ^ s.rg.length) (fun m=>2 ^ s.rg.length - m) 1
  ⟨⟨Nat.le_refl _,hpos⟩,[0,1,2,3,4],wO rfl rfl rfl (wV rfl LnB.A (wV rfl LnB.A (wV rfl (LnB.rowE (by omega) fun k hk o ho=>by unfold r0;rw [decide_eq_false (by omega)];rfl) (wV rfl (LnB.rwg1 (Ln.ownE rfl (by omega))) (wV rfl LnB.A wX))))),allA⟩ ?_
 rintro m ⟨hm1,hm⟩
 by_cases hlt:m < 2 ^ s.rg.length
 ·(repeat' ((try conv=>whnf);first|(with_reducible first|refine wT ?_|refine wF ?_|(refine wI (fun hq=>?_) (fun hq=>?_) <;> try simp only [zA,zE,zD,zJ,zB,zI,wK,wL] at hq)|refine wA ?_|refine wB ?_|refine wC ?_|refine wD ?_|refine wE ?_)|((with_reducible refine wN ?_ ?_);focus exact needA)|(with_reducible first|refine FBit.hasT rfl (by assumption) ?_|refine FBit.hasF rfl (by assumption) ?_|refine FBit.shrN rfl (by omega) ?_|refine FBit.half rfl ?_|refine FBit.shl1 rfl (by omega) ?_|refine Fits.inU (by omega) ?_|refine FBit.shrNI rfl (by omega) ?_|refine FBit.shrIN rfl (by omega) (by omega) ?_|refine FBit.shrI rfl (by omega) (by omega) ?_|refine FBit.shl1I rfl (by omega) ?_)|(with_reducible refine FBit.has rfl (fun hq=>?_) (fun hq=>?_))|(with_reducible first|refine FBit.and1 rfl ?_|refine FBit.andN rfl (by omega) (by omega) ?_|refine FBit.orN rfl (by omega) (by omega) ?_|refine FBit.andNotN rfl (by omega) (by omega) ?_)|(with_reducible refine wG ?_)|(with_reducible refine wP ?_)))
  all_goals (try conv=>whnf)
  refine ⟨⟨m + 1,⟨by omega,hlt⟩,by omega,[0,1,2,3,4],?_,allA⟩⟩
  refine wO rfl rfl rfl (wV rfl LnB.A (wV rfl LnB.A (wV rfl (LnB.rowE (Nat.le_refl _) fun k hk o ho=>?_) (wV rfl (LnB.rwg1 (Ln.ownE rfl rfl)) (wV rfl LnB.A wX)))))
  simp only [updR,r0]
  by_cases hk2:k = m
  ·subst hk2
   rw [decide_eq_true (show 0 < k ∧ k < k + 1 by omega),decide_eq_false (show ¬ (0 < k ∧ k < k) by omega)]
   rcases (show o = 0 ∨ o = 1 ∨ o = 2 ∨ o = 3 by omega) with rfl|rfl|rfl|rfl <;> first|(rw [if_pos ⟨rfl,rfl⟩];rfl)|(rw [if_neg (by omega)];rfl)
  ·rw [if_neg (by omega)]
   have e:decide (0 < k ∧ k < m + 1) = decide (0 < k ∧ k < m):=by rw [decide_eq_decide];omega
   rw [e]
 obtain rfl:m = 2 ^ s.rg.length:=by omega
 (repeat' ((try conv=>whnf);first|(with_reducible first|refine wT ?_|refine wF ?_|(refine wI (fun hq=>?_) (fun hq=>?_) <;> try simp only [zA,zE,zD,zJ,zB,zI,wK,wL] at hq)|refine wA ?_|refine wB ?_|refine wC ?_|refine wD ?_|refine wE ?_)|((with_reducible refine wN ?_ ?_);focus exact needA)|(with_reducible first|refine FBit.hasT rfl (by assumption) ?_|refine FBit.hasF rfl (by assumption) ?_|refine FBit.shrN rfl (by omega) ?_|refine FBit.half rfl ?_|refine FBit.shl1 rfl (by omega) ?_|refine Fits.inU (by omega) ?_|refine FBit.shrNI rfl (by omega) ?_|refine FBit.shrIN rfl (by omega) (by omega) ?_|refine FBit.shrI rfl (by omega) (by omega) ?_|refine FBit.shl1I rfl (by omega) ?_)|(with_reducible refine FBit.has rfl (fun hq=>?_) (fun hq=>?_))|(with_reducible first|refine FBit.and1 rfl ?_|refine FBit.andN rfl (by omega) (by omega) ?_|refine FBit.orN rfl (by omega) (by omega) ?_|refine FBit.andNotN rfl (by omega) (by omega) ?_)|(with_reducible refine wG ?_)|(with_reducible refine wP ?_)))
 all_goals (try conv=>whnf)
 refine FLoop.of (ACalls.mono _) (X:=Nat) (fun k=>[(1,.ptr 0 0),(2,nilS),(3,.ptr 1 0),(4,aSpots false false s.T (s.n * s.T)),(6,.ptr 3 0),(54,aSpots false false s.T (s.n * s.T)),(55,AI (s.n * s.T:Nat)),(56,AI k)])
  (fun k=>[.box 3 (cStd f s),.box 2 (ofL [AI 0,AI 0]),.row (k + 1) 1 (fun j _=>aSteps false false (2 ^ s.rg.length) (row s j)),.box 1 (ofL [.own 2 (k + 1)])])
  (fun k=>k ≤ s.n * s.T) (fun k=>s.n * s.T - k) 0
  ⟨Nat.zero_le _,[0,1,3,4],wO rfl rfl rfl (wV rfl LnB.A (wV rfl LnB.A (wV rfl (LnB.rwgR1 (Ln.pubE (goneB rfl) rfl (Nat.le_refl _) rfl (fun k hk o ho=>by rw [r0_all hk])) trivial) (wV rfl LnB.A wX)))),allA⟩ ?_
 intro k hk
 by_cases hlt:k < s.n * s.T
 ·have hin:=sp_in hs hlt
  have hkk:(((k + 1:Nat):Int) - 1).toNat = k:=by omega
  (repeat' ((try conv=>whnf);first|(with_reducible first|refine wT ?_|refine wF ?_|(refine wI (fun hq=>?_) (fun hq=>?_) <;> try simp only [zA,zE,zD,zJ,zB,zI,wK,wL] at hq)|refine wA ?_|refine wB ?_|refine wC ?_|refine wD ?_|refine wE ?_)|((with_reducible refine wN ?_ ?_);focus exact needA)|(with_reducible first|refine FBit.hasT rfl (by assumption) ?_|refine FBit.hasF rfl (by assumption) ?_|refine FBit.shrN rfl (by omega) ?_|refine FBit.half rfl ?_|refine FBit.shl1 rfl (by omega) ?_|refine Fits.inU (by omega) ?_|refine FBit.shrNI rfl (by omega) ?_|refine FBit.shrIN rfl (by omega) (by omega) ?_|refine FBit.shrI rfl (by omega) (by omega) ?_|refine FBit.shl1I rfl (by omega) ?_)|(with_reducible refine FBit.has rfl (fun hq=>?_) (fun hq=>?_))|(with_reducible first|refine FBit.and1 rfl ?_|refine FBit.andN rfl (by omega) (by omega) ?_|refine FBit.orN rfl (by omega) (by omega) ?_|refine FBit.andNotN rfl (by omega) (by omega) ?_)|(with_reducible refine wG ?_)|(with_reducible refine wP ?_)))
  all_goals (try conv=>whnf)
  rw [hkk]
  ((refine FCall.give [] [] (cloneS_ok (2 ^ s.rg.length) (row s k) ⟨hpos,by omega⟩) rfl rfl True.intro ⟨Ln.A,True.intro⟩ ?_);rintro _ _ ⟨rfl,rfl⟩;(refine ⟨by first|exact Nat.le_of_ble_eq_true rfl|omega,.inl rfl,?_⟩))
  (repeat' ((try conv=>whnf);first|(with_reducible first|refine wT ?_|refine wF ?_|(refine wI (fun hq=>?_) (fun hq=>?_) <;> try simp only [zA,zE,zD,zJ,zB,zI,wK,wL] at hq)|refine wA ?_|refine wB ?_|refine wC ?_|refine wD ?_|refine wE ?_)|((with_reducible refine wN ?_ ?_);focus exact needA)|(with_reducible first|refine FBit.hasT rfl (by assumption) ?_|refine FBit.hasF rfl (by assumption) ?_|refine FBit.shrN rfl (by omega) ?_|refine FBit.half rfl ?_|refine FBit.shl1 rfl (by omega) ?_|refine Fits.inU (by omega) ?_|refine FBit.shrNI rfl (by omega) ?_|refine FBit.shrIN rfl (by omega) (by omega) ?_|refine FBit.shrI rfl (by omega) (by omega) ?_|refine FBit.shl1I rfl (by omega) ?_)|(with_reducible refine FBit.has rfl (fun hq=>?_) (fun hq=>?_))|(with_reducible first|refine FBit.and1 rfl ?_|refine FBit.andN rfl (by omega) (by omega) ?_|refine FBit.orN rfl (by omega) (by omega) ?_|refine FBit.andNotN rfl (by omega) (by omega) ?_)|(with_reducible refine wG ?_)|(with_reducible refine wP ?_)))
  all_goals (try conv=>whnf)
  refine FLoop.of (ACalls.mono _) (X:=Nat) (fun m=>[(1,.ptr 0 0),(2,nilS),(3,.ptr 1 0),(4,aSpots false false s.T (s.n * s.T)),(6,.ptr 3 0),(9,.ptr 4 0),(10,aSteps false false (2 ^ s.rg.length) (row s k)),(11,.own 5 (2 ^ s.rg.length)),(54,aSpots false false s.T (s.n * s.T)),(55,AI (s.n * s.T:Nat)),(56,AI k),(69,AI (2 ^ s.rg.length:Nat)),(70,AI m)])
   (fun m=>[.box 3 (cStd f s),.box 2 (ofL [AI 0,AI 0]),.row (k + 1) 1 (fun j _=>aSteps false false (2 ^ s.rg.length) (row s j)),.box 1 (ofL [.own 2 (k + 1)]),.box 2 (cSpot ((sp s.T k).1:Int) ((sp s.T k).2:Int)),.row (2 ^ s.rg.length) 4 (fun j=>cStp (r4 (row s k) m j))])
   (fun m=>m ≤ 2 ^ s.rg.length) (fun m=>2 ^ s.rg.length - m) 0
   ⟨Nat.zero_le _,[0,1,2,3,4,5],wO rfl rfl rfl (wV rfl LnB.A (wV rfl LnB.A (wV rfl LnB.A (wV rfl LnB.A (wV rfl LnB.A (wV rfl (LnB.rowE (Nat.le_refl _) fun k hk o ho=>by rw [r4_zero]) wX)))))),allA⟩ ?_
  intro m hm
  by_cases hlt4:m < 2 ^ s.rg.length
  ·(repeat' ((try conv=>whnf);first|(with_reducible first|refine wT ?_|refine wF ?_|(refine wI (fun hq=>?_) (fun hq=>?_) <;> try simp only [zA,zE,zD,zJ,zB,zI,wK,wL] at hq)|refine wA ?_|refine wB ?_|refine wC ?_|refine wD ?_|refine wE ?_)|((with_reducible refine wN ?_ ?_);focus exact needA)|(with_reducible first|refine FBit.hasT rfl (by assumption) ?_|refine FBit.hasF rfl (by assumption) ?_|refine FBit.shrN rfl (by omega) ?_|refine FBit.half rfl ?_|refine FBit.shl1 rfl (by omega) ?_|refine Fits.inU (by omega) ?_|refine FBit.shrNI rfl (by omega) ?_|refine FBit.shrIN rfl (by omega) (by omega) ?_|refine FBit.shrI rfl (by omega) (by omega) ?_|refine FBit.shl1I rfl (by omega) ?_)|(with_reducible refine FBit.has rfl (fun hq=>?_) (fun hq=>?_))|(with_reducible first|refine FBit.and1 rfl ?_|refine FBit.andN rfl (by omega) (by omega) ?_|refine FBit.orN rfl (by omega) (by omega) ?_|refine FBit.andNotN rfl (by omega) (by omega) ?_)|(with_reducible refine wG ?_)|(with_reducible refine wP ?_)))
   all_goals (try conv=>whnf)
   refine ⟨⟨m + 1,hlt4,by omega,[0,1,2,3,4,5],?_,allA⟩⟩
   refine wO rfl rfl rfl (wV rfl LnB.A (wV rfl LnB.A (wV rfl LnB.A (wV rfl LnB.A (wV rfl LnB.A (wV rfl (LnB.rowE (Nat.le_refl _) fun j hj o ho=>?_) wX))))))
   simp only [updR,r4]
   by_cases hk2:j = m
   ·subst hk2
    rw [if_pos (Nat.lt_succ_self j),if_neg (Nat.lt_irrefl j)]
    rcases (show o = 0 ∨ o = 1 ∨ o = 2 ∨ o = 3 by omega) with rfl|rfl|rfl|rfl <;> first|(rw [if_pos ⟨rfl,rfl⟩];rfl)|(rw [if_neg (by omega)];rfl)
   ·by_cases h:j < m
    ·rw [if_pos (show j < m + 1 by omega),if_neg (fun h=>hk2 h.1),if_pos h]
    ·rw [if_neg (show ¬ j < m + 1 by omega),if_neg (fun h=>hk2 h.1),if_neg h]
  obtain rfl:m = 2 ^ s.rg.length:=by omega
  (repeat' ((try conv=>whnf);first|(with_reducible first|refine wT ?_|refine wF ?_|(refine wI (fun hq=>?_) (fun hq=>?_) <;> try simp only [zA,zE,zD,zJ,zB,zI,wK,wL] at hq)|refine wA ?_|refine wB ?_|refine wC ?_|refine wD ?_|refine wE ?_)|((with_reducible refine wN ?_ ?_);focus exact needA)|(with_reducible first|refine FBit.hasT rfl (by assumption) ?_|refine FBit.hasF rfl (by assumption) ?_|refine FBit.shrN rfl (by omega) ?_|refine FBit.half rfl ?_|refine FBit.shl1 rfl (by omega) ?_|refine Fits.inU (by omega) ?_|refine FBit.shrNI rfl (by omega) ?_|refine FBit.shrIN rfl (by omega) (by omega) ?_|refine FBit.shrI rfl (by omega) (by omega) ?_|refine FBit.shl1I rfl (by omega) ?_)|(with_reducible refine FBit.has rfl (fun hq=>?_) (fun hq=>?_))|(with_reducible first|refine FBit.and1 rfl ?_|refine FBit.andN rfl (by omega) (by omega) ?_|refine FBit.orN rfl (by omega) (by omega) ?_|refine FBit.andNotN rfl (by omega) (by omega) ?_)|(with_reducible refine wG ?_)|(with_reducible refine wP ?_)))
  all_goals (try conv=>whnf)
  refine FLoop.of (ACalls.mono _) (X:=Nat) (fun c=>[(1,.ptr 0 0),(2,nilS),(3,.ptr 1 0),(4,aSpots false false s.T (s.n * s.T)),(6,.ptr 3 0),(9,.ptr 4 0),(10,aSteps false false (2 ^ s.rg.length) (row s k)),(11,.own 5 (2 ^ s.rg.length)),(54,aSpots false false s.T (s.n * s.T)),(55,AI (s.n * s.T:Nat)),(56,AI k),(80,aRngs f.zr f.er s.rg),(81,AI s.rg.length),(82,AI c)])
   (fun c=>[.box 3 (cStd f s),.box 2 (ofL [AI 0,AI 0]),.row (k + 1) 1 (fun j _=>aSteps false false (2 ^ s.rg.length) (row s j)),.box 1 (ofL [.own 2 (k + 1)]),.box 2 (cSpot ((sp s.T k).1:Int) ((sp s.T k).2:Int)),.row (2 ^ s.rg.length) 4 (fun j=>cStp (stepRow s (sp s.T k) (row s k) c j))])
   (fun c=>c ≤ s.rg.length) (fun c=>s.rg.length - c) 0
   ⟨Nat.zero_le _,[0,1,2,3,4,5],wO rfl rfl rfl (wV rfl LnB.A (wV rfl LnB.A (wV rfl LnB.A (wV rfl LnB.A (wV rfl LnB.A (wV rfl (LnB.rowE (Nat.le_refl _) fun j hj o ho=>by rw [r4_all (s:=s) (p:=sp s.T k) hj]) wX)))))),allA⟩ ?_
  intro c hc
  by_cases hltc:c < s.rg.length
  ·have hcan:=can_ok f s hs (sp s.T k).1 c (sp s.T k).2 hin.1 hltc
   cases hq7:canA s (sp s.T k).1 ((sp s.T k).2:Int) c
   ·rw [hq7] at hcan
    (repeat' ((try conv=>whnf);first|(with_reducible first|refine wT ?_|refine wF ?_|(refine wI (fun hq=>?_) (fun hq=>?_) <;> try simp only [zA,zE,zD,zJ,zB,zI,wK,wL] at hq)|refine wA ?_|refine wB ?_|refine wC ?_|refine wD ?_|refine wE ?_)|((with_reducible refine wN ?_ ?_);focus exact needA)|(with_reducible first|refine FBit.hasT rfl (by assumption) ?_|refine FBit.hasF rfl (by assumption) ?_|refine FBit.shrN rfl (by omega) ?_|refine FBit.half rfl ?_|refine FBit.shl1 rfl (by omega) ?_|refine Fits.inU (by omega) ?_|refine FBit.shrNI rfl (by omega) ?_|refine FBit.shrIN rfl (by omega) (by omega) ?_|refine FBit.shrI rfl (by omega) (by omega) ?_|refine FBit.shl1I rfl (by omega) ?_)|(with_reducible refine FBit.has rfl (fun hq=>?_) (fun hq=>?_))|(with_reducible first|refine FBit.and1 rfl ?_|refine FBit.andN rfl (by omega) (by omega) ?_|refine FBit.orN rfl (by omega) (by omega) ?_|refine FBit.andNotN rfl (by omega) (by omega) ?_)|(with_reducible refine wG ?_)|(refine FCall.pure (hcan) ⟨Ln.sameB _ rfl,Ln.sameB _ rfl,Ln.sameB _ rfl,True.intro⟩ rfl ?_)|(with_reducible refine wP ?_)))
    all_goals (try conv=>whnf)
    refine ⟨⟨c + 1,hltc,by omega,[0,1,2,3,4,5],?_,allA⟩⟩
    refine wO rfl rfl rfl (wV rfl LnB.A (wV rfl LnB.A (wV rfl LnB.A (wV rfl LnB.A (wV rfl LnB.A (wV rfl (LnB.rowE (Nat.le_refl _) fun j hj o ho=>?_) wX))))))
    simp only [stepRow]
    rw [if_neg (by rw [hq7];simp)]
   ·rw [hq7] at hcan
    (repeat' ((try conv=>whnf);first|(with_reducible first|refine wT ?_|refine wF ?_|(refine wI (fun hq=>?_) (fun hq=>?_) <;> try simp only [zA,zE,zD,zJ,zB,zI,wK,wL] at hq)|refine wA ?_|refine wB ?_|refine wC ?_|refine wD ?_|refine wE ?_)|((with_reducible refine wN ?_ ?_);focus exact needA)|(with_reducible first|refine FBit.hasT rfl (by assumption) ?_|refine FBit.hasF rfl (by assumption) ?_|refine FBit.shrN rfl (by omega) ?_|refine FBit.half rfl ?_|refine FBit.shl1 rfl (by omega) ?_|refine Fits.inU (by omega) ?_|refine FBit.shrNI rfl (by omega) ?_|refine FBit.shrIN rfl (by omega) (by omega) ?_|refine FBit.shrI rfl (by omega) (by omega) ?_|refine FBit.shl1I rfl (by omega) ?_)|(with_reducible refine FBit.has rfl (fun hq=>?_) (fun hq=>?_))|(with_reducible first|refine FBit.and1 rfl ?_|refine FBit.andN rfl (by omega) (by omega) ?_|refine FBit.orN rfl (by omega) (by omega) ?_|refine FBit.andNotN rfl (by omega) (by omega) ?_)|(with_reducible refine wG ?_)|(refine FCall.pure (hcan) ⟨Ln.sameB _ rfl,Ln.sameB _ rfl,Ln.sameB _ rfl,True.intro⟩ rfl ?_)|(with_reducible refine wP ?_)))
    all_goals (try conv=>whnf)
    refine FLoop.of (ACalls.mono _) (X:=Nat) (fun m=>[(1,.ptr 0 0),(2,nilS),(3,.ptr 1 0),(4,aSpots false false s.T (s.n * s.T)),(6,.ptr 3 0),(9,.ptr 4 0),(10,aSteps false false (2 ^ s.rg.length) (row s k)),(11,.own 5 (2 ^ s.rg.length)),(13,AI c),(14,.ptr 6 0),(54,aSpots false false s.T (s.n * s.T)),(55,AI (s.n * s.T:Nat)),(56,AI k),(80,aRngs f.zr f.er s.rg),(81,AI s.rg.length),(82,AI c),(92,aSteps false false (2 ^ s.rg.length) (row s k)),(93,AI (2 ^ s.rg.length:Nat)),(94,AI m)])
     (fun m=>[.box 3 (cStd f s),.box 2 (ofL [AI 0,AI 0]),.row (k + 1) 1 (fun j _=>aSteps false false (2 ^ s.rg.length) (row s j)),.box 1 (ofL [.own 2 (k + 1)]),.box 2 (cSpot ((sp s.T k).1:Int) ((sp s.T k).2:Int)),.row (2 ^ s.rg.length) 4 (fun j=>cStp (mid s (sp s.T k) (row s k) c m j)),.box 3 (cRng (s.rg.getD c rg0))])
     (fun m=>m ≤ 2 ^ s.rg.length) (fun m=>2 ^ s.rg.length - m) 0
     ⟨Nat.zero_le _,[0,1,2,3,4,5,6],wO rfl rfl rfl (wV rfl LnB.A (wV rfl LnB.A (wV rfl LnB.A (wV rfl LnB.A (wV rfl LnB.A (wV rfl (LnB.rowE (Nat.le_refl _) fun j hj o ho=>by rw [mid_zero]) (wV rfl LnB.A wX))))))),allA⟩ ?_
    intro m hm
    by_cases hlt8:m < 2 ^ s.rg.length
    ·have hbd:=row_bd hs k hk m
     have hbu:=hbd.u
     have hbo:=hbd.o
     have hrc:=hs.rg c hltc
     have hspt:((sp s.T k).2:Int) < s.times:=by omega
     cases hnev:(row s k m).never
     ·cases hbit:m.testBit c
      ·have htgt:m ||| 2 ^ c < 2 ^ s.rg.length:=Nat.or_lt_two_pow hlt8 (Nat.pow_lt_pow_right (by decide) hltc)
       have h2c:2 ^ c < 2 ^ s.rg.length:=Nat.pow_lt_pow_right (by decide) hltc
       have cM:=more_ok (row s k m).w (s.R c) (sp s.T k).2 (by omega) (by omega) (by omega)
       (repeat' ((try conv=>whnf);first|(with_reducible first|refine wT ?_|refine wF ?_|(refine wI (fun hq=>?_) (fun hq=>?_) <;> try simp only [zA,zE,zD,zJ,zB,zI,wK,wL] at hq)|refine wA ?_|refine wB ?_|refine wC ?_|refine wD ?_|refine wE ?_)|((with_reducible refine wN ?_ ?_);focus exact needA)|(with_reducible first|refine FBit.hasT rfl (by assumption) ?_|refine FBit.hasF rfl (by assumption) ?_|refine FBit.shrN rfl (by omega) ?_|refine FBit.half rfl ?_|refine FBit.shl1 rfl (by omega) ?_|refine Fits.inU (by omega) ?_|refine FBit.shrNI rfl (by omega) ?_|refine FBit.shrIN rfl (by omega) (by omega) ?_|refine FBit.shrI rfl (by omega) (by omega) ?_|refine FBit.shl1I rfl (by omega) ?_)|(with_reducible refine FBit.has rfl (fun hq=>?_) (fun hq=>?_))|(with_reducible first|refine FBit.and1 rfl ?_|refine FBit.andN rfl (by omega) (by omega) ?_|refine FBit.orN rfl (by omega) (by omega) ?_|refine FBit.andNotN rfl (by omega) (by omega) ?_)|(with_reducible refine wG ?_)|(refine FCall.pure (cM) ⟨Ln.sameB _ rfl,Ln.sameB _ rfl,Ln.sameB _ rfl,True.intro⟩ rfl ?_)|(refine FCall.pure ((less_ok ((row s k m).w.more (s.R c) (sp s.T k).2) (mid s (sp s.T k) (row s k) c m (m ||| 2 ^ c)).w)) ⟨Ln.sameB _ rfl,Ln.sameB _ rfl,True.intro⟩ rfl ?_)|(with_reducible refine wP ?_)))
       all_goals (try conv=>whnf)
       ·refine ⟨⟨m + 1,hlt8,by omega,[0,1,2,3,4,5,6],?_,allA⟩⟩
        exact wO rfl rfl rfl (wV rfl LnB.A (wV rfl LnB.A (wV rfl LnB.A (wV rfl LnB.A (wV rfl LnB.A (wV rfl (LnB.rowE (Nat.le_refl _) fun j hj o ho=>by rw [mid_store hbit hnev hq7 (.inl (by assumption))];simp only [updRm];by_cases e:j = m ||| 2 ^ c <;> simp only [e,if_true,if_false];rfl) (wV rfl LnB.A wX)))))))
       ·refine ⟨⟨m + 1,hlt8,by omega,[0,1,2,3,4,5,6],?_,allA⟩⟩
        exact wO rfl rfl rfl (wV rfl LnB.A (wV rfl LnB.A (wV rfl LnB.A (wV rfl LnB.A (wV rfl LnB.A (wV rfl (LnB.rowE (Nat.le_refl _) fun j hj o ho=>by rw [mid_store hbit hnev hq7 (.inr (by assumption))];simp only [updRm];by_cases e:j = m ||| 2 ^ c <;> simp only [e,if_true,if_false];rfl) (wV rfl LnB.A wX)))))))
       ·refine ⟨⟨m + 1,hlt8,by omega,[0,1,2,3,4,5,6],?_,allA⟩⟩
        exact wO rfl rfl rfl (wV rfl LnB.A (wV rfl LnB.A (wV rfl LnB.A (wV rfl LnB.A (wV rfl LnB.A (wV rfl (LnB.rowE (Nat.le_refl _) fun j hj o ho=>by rw [mid_keep hbit hnev hq7 (by assumption) (by assumption)]) (wV rfl LnB.A wX)))))))
      ·(repeat' ((try conv=>whnf);first|(with_reducible first|refine wT ?_|refine wF ?_|(refine wI (fun hq=>?_) (fun hq=>?_) <;> try simp only [zA,zE,zD,zJ,zB,zI,wK,wL] at hq)|refine wA ?_|refine wB ?_|refine wC ?_|refine wD ?_|refine wE ?_)|((with_reducible refine wN ?_ ?_);focus exact needA)|(with_reducible first|refine FBit.hasT rfl (by assumption) ?_|refine FBit.hasF rfl (by assumption) ?_|refine FBit.shrN rfl (by omega) ?_|refine FBit.half rfl ?_|refine FBit.shl1 rfl (by omega) ?_|refine Fits.inU (by omega) ?_|refine FBit.shrNI rfl (by omega) ?_|refine FBit.shrIN rfl (by omega) (by omega) ?_|refine FBit.shrI rfl (by omega) (by omega) ?_|refine FBit.shl1I rfl (by omega) ?_)|(with_reducible refine FBit.has rfl (fun hq=>?_) (fun hq=>?_))|(with_reducible first|refine FBit.and1 rfl ?_|refine FBit.andN rfl (by omega) (by omega) ?_|refine FBit.orN rfl (by omega) (by omega) ?_|refine FBit.andNotN rfl (by omega) (by omega) ?_)|(with_reducible refine wG ?_)|(with_reducible refine wP ?_)))
       all_goals (try conv=>whnf)
       refine ⟨⟨m + 1,hlt8,by omega,[0,1,2,3,4,5,6],?_,allA⟩⟩
       exact wO rfl rfl rfl (wV rfl LnB.A (wV rfl LnB.A (wV rfl LnB.A (wV rfl LnB.A (wV rfl LnB.A (wV rfl (LnB.rowE (Nat.le_refl _) fun j hj o ho=>by rw [mid_skip (.inr hbit)]) (wV rfl LnB.A wX)))))))
     ·(repeat' ((try conv=>whnf);first|(with_reducible first|refine wT ?_|refine wF ?_|(refine wI (fun hq=>?_) (fun hq=>?_) <;> try simp only [zA,zE,zD,zJ,zB,zI,wK,wL] at hq)|refine wA ?_|refine wB ?_|refine wC ?_|refine wD ?_|refine wE ?_)|((with_reducible refine wN ?_ ?_);focus exact needA)|(with_reducible first|refine FBit.hasT rfl (by assumption) ?_|refine FBit.hasF rfl (by assumption) ?_|refine FBit.shrN rfl (by omega) ?_|refine FBit.half rfl ?_|refine FBit.shl1 rfl (by omega) ?_|refine Fits.inU (by omega) ?_|refine FBit.shrNI rfl (by omega) ?_|refine FBit.shrIN rfl (by omega) (by omega) ?_|refine FBit.shrI rfl (by omega) (by omega) ?_|refine FBit.shl1I rfl (by omega) ?_)|(with_reducible refine FBit.has rfl (fun hq=>?_) (fun hq=>?_))|(with_reducible first|refine FBit.and1 rfl ?_|refine FBit.andN rfl (by omega) (by omega) ?_|refine FBit.orN rfl (by omega) (by omega) ?_|refine FBit.andNotN rfl (by omega) (by omega) ?_)|(with_reducible refine wG ?_)|(with_reducible refine wP ?_)))
      all_goals (try conv=>whnf)
      refine ⟨⟨m + 1,hlt8,by omega,[0,1,2,3,4,5,6],?_,allA⟩⟩
      exact wO rfl rfl rfl (wV rfl LnB.A (wV rfl LnB.A (wV rfl LnB.A (wV rfl LnB.A (wV rfl LnB.A (wV rfl (LnB.rowE (Nat.le_refl _) fun j hj o ho=>by rw [mid_skip (.inl hnev)]) (wV rfl LnB.A wX)))))))
    ·obtain rfl:m = 2 ^ s.rg.length:=by omega
     (repeat' ((try conv=>whnf);first|(with_reducible first|refine wT ?_|refine wF ?_|(refine wI (fun hq=>?_) (fun hq=>?_) <;> try simp only [zA,zE,zD,zJ,zB,zI,wK,wL] at hq)|refine wA ?_|refine wB ?_|refine wC ?_|refine wD ?_|refine wE ?_)|((with_reducible refine wN ?_ ?_);focus exact needA)|(with_reducible first|refine FBit.hasT rfl (by assumption) ?_|refine FBit.hasF rfl (by assumption) ?_|refine FBit.shrN rfl (by omega) ?_|refine FBit.half rfl ?_|refine FBit.shl1 rfl (by omega) ?_|refine Fits.inU (by omega) ?_|refine FBit.shrNI rfl (by omega) ?_|refine FBit.shrIN rfl (by omega) (by omega) ?_|refine FBit.shrI rfl (by omega) (by omega) ?_|refine FBit.shl1I rfl (by omega) ?_)|(with_reducible refine FBit.has rfl (fun hq=>?_) (fun hq=>?_))|(with_reducible first|refine FBit.and1 rfl ?_|refine FBit.andN rfl (by omega) (by omega) ?_|refine FBit.orN rfl (by omega) (by omega) ?_|refine FBit.andNotN rfl (by omega) (by omega) ?_)|(with_reducible refine wG ?_)|(with_reducible refine wP ?_)))
     all_goals (try conv=>whnf)
     refine ⟨⟨c + 1,hltc,by omega,[0,1,2,3,4,5],?_,allA⟩⟩
     exact wO rfl rfl rfl (wV rfl LnB.A (wV rfl LnB.A (wV rfl LnB.A (wV rfl LnB.A (wV rfl LnB.A (wV rfl (LnB.rowE (Nat.le_refl _) fun j hj o ho=>by rw [mid_all s _ _ c _ j hj]) wX))))))
  ·obtain rfl:c = s.rg.length:=by omega
   (repeat' ((try conv=>whnf);first|(with_reducible first|refine wT ?_|refine wF ?_|(refine wI (fun hq=>?_) (fun hq=>?_) <;> try simp only [zA,zE,zD,zJ,zB,zI,wK,wL] at hq)|refine wA ?_|refine wB ?_|refine wC ?_|refine wD ?_|refine wE ?_)|((with_reducible refine wN ?_ ?_);focus exact needA)|(with_reducible first|refine FBit.hasT rfl (by assumption) ?_|refine FBit.hasF rfl (by assumption) ?_|refine FBit.shrN rfl (by omega) ?_|refine FBit.half rfl ?_|refine FBit.shl1 rfl (by omega) ?_|refine Fits.inU (by omega) ?_|refine FBit.shrNI rfl (by omega) ?_|refine FBit.shrIN rfl (by omega) (by omega) ?_|refine FBit.shrI rfl (by omega) (by omega) ?_|refine FBit.shl1I rfl (by omega) ?_)|(with_reducible refine FBit.has rfl (fun hq=>?_) (fun hq=>?_))|(with_reducible first|refine FBit.and1 rfl ?_|refine FBit.andN rfl (by omega) (by omega) ?_|refine FBit.orN rfl (by omega) (by omega) ?_|refine FBit.andNotN rfl (by omega) (by omega) ?_)|(with_reducible refine wG ?_)|(with_reducible refine wP ?_)))
   all_goals (try conv=>whnf)
   refine ⟨⟨k + 1,hlt,by omega,[0,1,6,3],?_,allA⟩⟩
   exact wO rfl rfl rfl (wV rfl LnB.A (wV rfl LnB.A (wV rfl (LnB.app (fun _ _ _ _=>rfl) (fun o ho=>by obtain rfl:o = 0:=(by omega);rfl)) (wV rfl LnB.A wX))))
 obtain rfl:k = s.n * s.T:=by omega
 have hkk:(((s.n * s.T + 1:Nat):Int) - 1).toNat = s.n * s.T:=by omega
 (repeat' ((try conv=>whnf);first|(with_reducible first|refine wT ?_|refine wF ?_|(refine wI (fun hq=>?_) (fun hq=>?_) <;> try simp only [zA,zE,zD,zJ,zB,zI,wK,wL] at hq)|refine wA ?_|refine wB ?_|refine wC ?_|refine wD ?_|refine wE ?_)|((with_reducible refine wN ?_ ?_);focus exact needA)|(with_reducible first|refine FBit.hasT rfl (by assumption) ?_|refine FBit.hasF rfl (by assumption) ?_|refine FBit.shrN rfl (by omega) ?_|refine FBit.half rfl ?_|refine FBit.shl1 rfl (by omega) ?_|refine Fits.inU (by omega) ?_|refine FBit.shrNI rfl (by omega) ?_|refine FBit.shrIN rfl (by omega) (by omega) ?_|refine FBit.shrI rfl (by omega) (by omega) ?_|refine FBit.shl1I rfl (by omega) ?_)|(with_reducible refine FBit.has rfl (fun hq=>?_) (fun hq=>?_))|(with_reducible first|refine FBit.and1 rfl ?_|refine FBit.andN rfl (by omega) (by omega) ?_|refine FBit.orN rfl (by omega) (by omega) ?_|refine FBit.andNotN rfl (by omega) (by omega) ?_)|(with_reducible refine wG ?_)|(with_reducible refine wP ?_)))
 all_goals (try conv=>whnf)
 refine FLoop.of (ACalls.mono _) (X:=Nat) (fun m=>[(1,.ptr 0 0),(2,nilS),(3,.ptr 1 0),(4,aSpots false false s.T (s.n * s.T)),(6,.ptr 3 0),(19,.ptr 4 0),(20,.ptr 5 0),(150,aSteps false false (2 ^ s.rg.length) (row s (s.n * s.T))),(151,AI (2 ^ s.rg.length:Nat)),(152,AI m)])
  (fun m=>[.box 3 (cStd f s),.box 2 (ofL [AI 0,AI 0]),.row (s.n * s.T + 1) 1 (fun j _=>aSteps false false (2 ^ s.rg.length) (row s j)),.box 1 (ofL [.own 2 (s.n * s.T + 1)]),.box 1 (ofL [AI (bst s m).1]),.box 2 (ofL [AI (bst s m).2.u,AI (bst s m).2.o])])
  (fun m=>m ≤ 2 ^ s.rg.length) (fun m=>2 ^ s.rg.length - m) 0
  ⟨Nat.zero_le _,[0,1,2,3,4,5],Cut.A,⟨Ln.A,Ln.A,Ln.A,Ln.A,Ln.A,Ln.A,Ln.A,by rw [hkk];exact Ln.A,Ln.A,Ln.A,True.intro⟩⟩ ?_
 intro m hm
 by_cases hlt10:m < 2 ^ s.rg.length
 ·have hbd:=row_bd hs (s.n * s.T) (Nat.le_refl _) m
  have hbu:=hbd.u
  have hbo:=hbd.o
  (repeat' ((try conv=>whnf);first|(with_reducible first|refine wT ?_|refine wF ?_|(refine wI (fun hq=>?_) (fun hq=>?_) <;> try simp only [zA,zE,zD,zJ,zB,zI,wK,wL] at hq)|refine wA ?_|refine wB ?_|refine wC ?_|refine wD ?_|refine wE ?_)|((with_reducible refine wN ?_ ?_);focus exact needA)|(with_reducible first|refine FBit.hasT rfl (by assumption) ?_|refine FBit.hasF rfl (by assumption) ?_|refine FBit.shrN rfl (by omega) ?_|refine FBit.half rfl ?_|refine FBit.shl1 rfl (by omega) ?_|refine Fits.inU (by omega) ?_|refine FBit.shrNI rfl (by omega) ?_|refine FBit.shrIN rfl (by omega) (by omega) ?_|refine FBit.shrI rfl (by omega) (by omega) ?_|refine FBit.shl1I rfl (by omega) ?_)|(with_reducible refine FBit.has rfl (fun hq=>?_) (fun hq=>?_))|(with_reducible first|refine FBit.and1 rfl ?_|refine FBit.andN rfl (by omega) (by omega) ?_|refine FBit.orN rfl (by omega) (by omega) ?_|refine FBit.andNotN rfl (by omega) (by omega) ?_)|(with_reducible refine wG ?_)|(with_reducible refine wP ?_)))
  all_goals (try conv=>whnf)
  refine FLoop.of (ACalls.mono _) (X:=Nat) (fun c=>[(1,.ptr 0 0),(2,nilS),(3,.ptr 1 0),(4,aSpots false false s.T (s.n * s.T)),(6,.ptr 3 0),(19,.ptr 4 0),(20,.ptr 5 0),(21,AI m),(22,.ptr 6 0),(150,aSteps false false (2 ^ s.rg.length) (row s (s.n * s.T))),(151,AI (2 ^ s.rg.length:Nat)),(152,AI m),(159,aRngs f.zr f.er s.rg),(160,AI s.rg.length),(161,AI c)])
   (fun c=>[.box 3 (cStd f s),.box 2 (ofL [AI 0,AI 0]),.row (s.n * s.T + 1) 1 (fun j _=>aSteps false false (2 ^ s.rg.length) (row s j)),.box 1 (ofL [.own 2 (s.n * s.T + 1)]),.box 1 (ofL [AI (bst s m).1]),.box 2 (ofL [AI (bst s m).2.u,AI (bst s m).2.o]),.box 4 (ofL [AI ((row s (s.n * s.T) m).w.add (leftK s m c)).u,AI ((row s (s.n * s.T) m).w.add (leftK s m c)).o,AI (row s (s.n * s.T) m).call,.bool (row s (s.n * s.T) m).never])])
   (fun c=>c ≤ s.rg.length) (fun c=>s.rg.length - c) 0
   ⟨Nat.zero_le _,[0,1,2,3,4,5,6],wO rfl rfl rfl (wV rfl LnB.A (wV rfl LnB.A (wV rfl LnB.A (wV rfl LnB.A (wV rfl LnB.A (wV rfl LnB.A (wV rfl (LnB.boxN ⟨⟨⟨⟨True.intro,Ln.int (by rw [show leftK s m 0 = w0 from rfl,add_w0])⟩,Ln.int (by rw [show leftK s m 0 = w0 from rfl,add_w0])⟩,Ln.A⟩,Ln.A⟩) wX))))))),allA⟩ ?_
  intro c hc
  by_cases hltc:c < s.rg.length
  ·have hlb:=leftK_bd hs m c hc
   have hlu:=hlb.u
   have hlo:=hlb.o
   have hrc:=hs.rg c hltc
   cases hbit:m.testBit c
   ·have cM:=more_ok ((row s (s.n * s.T) m).w.add (leftK s m c)) (s.R c) s.times (by simp only [add_u,add_o];omega) (by omega) (by omega)
    rw [left_step hbit] at cM
    (repeat' ((try conv=>whnf);first|(with_reducible first|refine wT ?_|refine wF ?_|(refine wI (fun hq=>?_) (fun hq=>?_) <;> try simp only [zA,zE,zD,zJ,zB,zI,wK,wL] at hq)|refine wA ?_|refine wB ?_|refine wC ?_|refine wD ?_|refine wE ?_)|((with_reducible refine wN ?_ ?_);focus exact needA)|(with_reducible first|refine FBit.hasT rfl (by assumption) ?_|refine FBit.hasF rfl (by assumption) ?_|refine FBit.shrN rfl (by omega) ?_|refine FBit.half rfl ?_|refine FBit.shl1 rfl (by omega) ?_|refine Fits.inU (by omega) ?_|refine FBit.shrNI rfl (by omega) ?_|refine FBit.shrIN rfl (by omega) (by omega) ?_|refine FBit.shrI rfl (by omega) (by omega) ?_|refine FBit.shl1I rfl (by omega) ?_)|(with_reducible refine FBit.has rfl (fun hq=>?_) (fun hq=>?_))|(with_reducible first|refine FBit.and1 rfl ?_|refine FBit.andN rfl (by omega) (by omega) ?_|refine FBit.orN rfl (by omega) (by omega) ?_|refine FBit.andNotN rfl (by omega) (by omega) ?_)|(with_reducible refine wG ?_)|(refine FCall.pure (cM) ⟨Ln.sameB _ rfl,Ln.sameB _ rfl,Ln.sameB _ rfl,True.intro⟩ rfl ?_)|(with_reducible refine wP ?_)))
    all_goals (try conv=>whnf)
    (exact ⟨⟨(c + 1),hltc,by show _ < _;omega,[0,1,2,3,4,5,6],Cut.A,allA⟩⟩)
   ·(repeat' ((try conv=>whnf);first|(with_reducible first|refine wT ?_|refine wF ?_|(refine wI (fun hq=>?_) (fun hq=>?_) <;> try simp only [zA,zE,zD,zJ,zB,zI,wK,wL] at hq)|refine wA ?_|refine wB ?_|refine wC ?_|refine wD ?_|refine wE ?_)|((with_reducible refine wN ?_ ?_);focus exact needA)|(with_reducible first|refine FBit.hasT rfl (by assumption) ?_|refine FBit.hasF rfl (by assumption) ?_|refine FBit.shrN rfl (by omega) ?_|refine FBit.half rfl ?_|refine FBit.shl1 rfl (by omega) ?_|refine Fits.inU (by omega) ?_|refine FBit.shrNI rfl (by omega) ?_|refine FBit.shrIN rfl (by omega) (by omega) ?_|refine FBit.shrI rfl (by omega) (by omega) ?_|refine FBit.shl1I rfl (by omega) ?_)|(with_reducible refine FBit.has rfl (fun hq=>?_) (fun hq=>?_))|(with_reducible first|refine FBit.and1 rfl ?_|refine FBit.andN rfl (by omega) (by omega) ?_|refine FBit.orN rfl (by omega) (by omega) ?_|refine FBit.andNotN rfl (by omega) (by omega) ?_)|(with_reducible refine wG ?_)|(with_reducible refine wP ?_)))
    all_goals (try conv=>whnf)
    refine ⟨⟨c + 1,hltc,by omega,[0,1,2,3,4,5,6],wO rfl rfl rfl (wV rfl LnB.A (wV rfl LnB.A (wV rfl LnB.A (wV rfl LnB.A (wV rfl LnB.A (wV rfl LnB.A (wV rfl (LnB.boxN ⟨⟨⟨⟨True.intro,Ln.int (by rw [left_skip hbit])⟩,Ln.int (by rw [left_skip hbit])⟩,Ln.A⟩,Ln.A⟩) wX))))))),allA⟩⟩
  ·obtain rfl:c = s.rg.length:=by omega
   have hlb:=leftK_bd hs m s.rg.length (Nat.le_refl _)
   cases hnev:(row s (s.n * s.T) m).never
   ·by_cases hat:(bst s m).1 < 0
    ·have hst:=bst_yes hnev (.inl hat)
     (repeat' ((try conv=>whnf);first|(with_reducible first|refine wT ?_|refine wF ?_|(refine wI (fun hq=>?_) (fun hq=>?_) <;> try simp only [zA,zE,zD,zJ,zB,zI,wK,wL] at hq)|refine wA ?_|refine wB ?_|refine wC ?_|refine wD ?_|refine wE ?_)|((with_reducible refine wN ?_ ?_);focus exact needA)|(with_reducible first|refine FBit.hasT rfl (by assumption) ?_|refine FBit.hasF rfl (by assumption) ?_|refine FBit.shrN rfl (by omega) ?_|refine FBit.half rfl ?_|refine FBit.shl1 rfl (by omega) ?_|refine Fits.inU (by omega) ?_|refine FBit.shrNI rfl (by omega) ?_|refine FBit.shrIN rfl (by omega) (by omega) ?_|refine FBit.shrI rfl (by omega) (by omega) ?_|refine FBit.shl1I rfl (by omega) ?_)|(with_reducible refine FBit.has rfl (fun hq=>?_) (fun hq=>?_))|(with_reducible first|refine FBit.and1 rfl ?_|refine FBit.andN rfl (by omega) (by omega) ?_|refine FBit.orN rfl (by omega) (by omega) ?_|refine FBit.andNotN rfl (by omega) (by omega) ?_)|(with_reducible refine wG ?_)|(with_reducible refine wP ?_)))
     all_goals (try conv=>whnf)
     refine ⟨⟨m + 1,hlt10,by omega,[0,1,2,3,4,5],?_,allA⟩⟩
     exact wO rfl rfl rfl (wV rfl LnB.A (wV rfl LnB.A (wV rfl LnB.A (wV rfl LnB.A (wV rfl (LnB.boxN ⟨True.intro,Ln.int (by rw [hst])⟩) (wV rfl (LnB.boxN ⟨⟨True.intro,Ln.int (by rw [hst];rfl)⟩,Ln.int (by rw [hst];rfl)⟩) wX))))))
    ·have cL:=less_ok (fin' s m) (bst s m).2
     cases hle:(fin' s m).lt (bst s m).2
     ·have hst:=bst_no (.inr ⟨hat,hle⟩)
      rw [hle] at cL
      (repeat' ((try conv=>whnf);first|(with_reducible first|refine wT ?_|refine wF ?_|(refine wI (fun hq=>?_) (fun hq=>?_) <;> try simp only [zA,zE,zD,zJ,zB,zI,wK,wL] at hq)|refine wA ?_|refine wB ?_|refine wC ?_|refine wD ?_|refine wE ?_)|((with_reducible refine wN ?_ ?_);focus exact needA)|(with_reducible first|refine FBit.hasT rfl (by assumption) ?_|refine FBit.hasF rfl (by assumption) ?_|refine FBit.shrN rfl (by omega) ?_|refine FBit.half rfl ?_|refine FBit.shl1 rfl (by omega) ?_|refine Fits.inU (by omega) ?_|refine FBit.shrNI rfl (by omega) ?_|refine FBit.shrIN rfl (by omega) (by omega) ?_|refine FBit.shrI rfl (by omega) (by omega) ?_|refine FBit.shl1I rfl (by omega) ?_)|(with_reducible refine FBit.has rfl (fun hq=>?_) (fun hq=>?_))|(with_reducible first|refine FBit.and1 rfl ?_|refine FBit.andN rfl (by omega) (by omega) ?_|refine FBit.orN rfl (by omega) (by omega) ?_|refine FBit.andNotN rfl (by omega) (by omega) ?_)|(with_reducible refine wG ?_)|(refine FCall.pure (cL) ⟨Ln.sameB _ rfl,Ln.sameB _ rfl,True.intro⟩ rfl ?_)|(with_reducible refine wP ?_)))
      all_goals (try conv=>whnf)
      refine ⟨⟨m + 1,hlt10,by omega,[0,1,2,3,4,5],?_,allA⟩⟩
      exact wO rfl rfl rfl (wV rfl LnB.A (wV rfl LnB.A (wV rfl LnB.A (wV rfl LnB.A (wV rfl (LnB.boxN ⟨True.intro,Ln.int (by rw [hst])⟩) (wV rfl (LnB.boxN ⟨⟨True.intro,Ln.int (by rw [hst])⟩,Ln.int (by rw [hst])⟩) wX))))))
     ·have hst:=bst_yes hnev (.inr hle)
      rw [hle] at cL
      (repeat' ((try conv=>whnf);first|(with_reducible first|refine wT ?_|refine wF ?_|(refine wI (fun hq=>?_) (fun hq=>?_) <;> try simp only [zA,zE,zD,zJ,zB,zI,wK,wL] at hq)|refine wA ?_|refine wB ?_|refine wC ?_|refine wD ?_|refine wE ?_)|((with_reducible refine wN ?_ ?_);focus exact needA)|(with_reducible first|refine FBit.hasT rfl (by assumption) ?_|refine FBit.hasF rfl (by assumption) ?_|refine FBit.shrN rfl (by omega) ?_|refine FBit.half rfl ?_|refine FBit.shl1 rfl (by omega) ?_|refine Fits.inU (by omega) ?_|refine FBit.shrNI rfl (by omega) ?_|refine FBit.shrIN rfl (by omega) (by omega) ?_|refine FBit.shrI rfl (by omega) (by omega) ?_|refine FBit.shl1I rfl (by omega) ?_)|(with_reducible refine FBit.has rfl (fun hq=>?_) (fun hq=>?_))|(with_reducible first|refine FBit.and1 rfl ?_|refine FBit.andN rfl (by omega) (by omega) ?_|refine FBit.orN rfl (by omega) (by omega) ?_|refine FBit.andNotN rfl (by omega) (by omega) ?_)|(with_reducible refine wG ?_)|(refine FCall.pure (cL) ⟨Ln.sameB _ rfl,Ln.sameB _ rfl,True.intro⟩ rfl ?_)|(with_reducible refine wP ?_)))
      all_goals (try conv=>whnf)
      refine ⟨⟨m + 1,hlt10,by omega,[0,1,2,3,4,5],?_,allA⟩⟩
      exact wO rfl rfl rfl (wV rfl LnB.A (wV rfl LnB.A (wV rfl LnB.A (wV rfl LnB.A (wV rfl (LnB.boxN ⟨True.intro,Ln.int (by rw [hst])⟩) (wV rfl (LnB.boxN ⟨⟨True.intro,Ln.int (by rw [hst];rfl)⟩,Ln.int (by rw [hst];rfl)⟩) wX))))))
   ·have hst:=bst_no (.inl hnev)
    (repeat' ((try conv=>whnf);first|(with_reducible first|refine wT ?_|refine wF ?_|(refine wI (fun hq=>?_) (fun hq=>?_) <;> try simp only [zA,zE,zD,zJ,zB,zI,wK,wL] at hq)|refine wA ?_|refine wB ?_|refine wC ?_|refine wD ?_|refine wE ?_)|((with_reducible refine wN ?_ ?_);focus exact needA)|(with_reducible first|refine FBit.hasT rfl (by assumption) ?_|refine FBit.hasF rfl (by assumption) ?_|refine FBit.shrN rfl (by omega) ?_|refine FBit.half rfl ?_|refine FBit.shl1 rfl (by omega) ?_|refine Fits.inU (by omega) ?_|refine FBit.shrNI rfl (by omega) ?_|refine FBit.shrIN rfl (by omega) (by omega) ?_|refine FBit.shrI rfl (by omega) (by omega) ?_|refine FBit.shl1I rfl (by omega) ?_)|(with_reducible refine FBit.has rfl (fun hq=>?_) (fun hq=>?_))|(with_reducible first|refine FBit.and1 rfl ?_|refine FBit.andN rfl (by omega) (by omega) ?_|refine FBit.orN rfl (by omega) (by omega) ?_|refine FBit.andNotN rfl (by omega) (by omega) ?_)|(with_reducible refine wG ?_)|(with_reducible refine wP ?_)))
    all_goals (try conv=>whnf)
    refine ⟨⟨m + 1,hlt10,by omega,[0,1,2,3,4,5],?_,allA⟩⟩
    exact wO rfl rfl rfl (wV rfl LnB.A (wV rfl LnB.A (wV rfl LnB.A (wV rfl LnB.A (wV rfl (LnB.boxN ⟨True.intro,Ln.int (by rw [hst])⟩) (wV rfl (LnB.boxN ⟨⟨True.intro,Ln.int (by rw [hst])⟩,Ln.int (by rw [hst])⟩) wX))))))
 obtain rfl:m = 2 ^ s.rg.length:=by omega
 have hB:=bestAt_eq s
 have hB1:(bst s (2 ^ s.rg.length)).1 = (bestAt s:Int):=hB.1
 have cR:=repeat_ok (bslC (fun _=>ofL [AI 0,AI 0]) [(0,.agg 2 (ofL [AI (-1),AI (-1)]))]) s.rg.length (fun o ho=>by
  rcases (show o = 0 ∨ o = 1 by omega) with rfl|rfl <;> rfl) (by omega)
 (repeat' ((try conv=>whnf);first|(with_reducible first|refine wT ?_|refine wF ?_|(refine wI (fun hq=>?_) (fun hq=>?_) <;> try simp only [zA,zE,zD,zJ,zB,zI,wK,wL] at hq)|refine wA ?_|refine wB ?_|refine wC ?_|refine wD ?_|refine wE ?_)|((with_reducible refine wN ?_ ?_);focus exact needA)|(with_reducible first|refine FBit.hasT rfl (by assumption) ?_|refine FBit.hasF rfl (by assumption) ?_|refine FBit.shrN rfl (by omega) ?_|refine FBit.half rfl ?_|refine FBit.shl1 rfl (by omega) ?_|refine Fits.inU (by omega) ?_|refine FBit.shrNI rfl (by omega) ?_|refine FBit.shrIN rfl (by omega) (by omega) ?_|refine FBit.shrI rfl (by omega) (by omega) ?_|refine FBit.shl1I rfl (by omega) ?_)|(with_reducible refine FBit.has rfl (fun hq=>?_) (fun hq=>?_))|(with_reducible first|refine FBit.and1 rfl ?_|refine FBit.andN rfl (by omega) (by omega) ?_|refine FBit.orN rfl (by omega) (by omega) ?_|refine FBit.andNotN rfl (by omega) (by omega) ?_)|(with_reducible refine wG ?_)|(with_reducible refine wP ?_)))
 all_goals (try conv=>whnf)
 ((refine FCall.give [] [] (cR) rfl rfl True.intro ⟨Ln.A,Ln.A,True.intro⟩ ?_);rintro _ _ ⟨rfl,rfl⟩;(refine ⟨by first|exact Nat.le_of_ble_eq_true rfl|omega,.inl rfl,?_⟩))
 (repeat' ((try conv=>whnf);first|(with_reducible first|refine wT ?_|refine wF ?_|(refine wI (fun hq=>?_) (fun hq=>?_) <;> try simp only [zA,zE,zD,zJ,zB,zI,wK,wL] at hq)|refine wA ?_|refine wB ?_|refine wC ?_|refine wD ?_|refine wE ?_)|((with_reducible refine wN ?_ ?_);focus exact needA)|(with_reducible first|refine FBit.hasT rfl (by assumption) ?_|refine FBit.hasF rfl (by assumption) ?_|refine FBit.shrN rfl (by omega) ?_|refine FBit.half rfl ?_|refine FBit.shl1 rfl (by omega) ?_|refine Fits.inU (by omega) ?_|refine FBit.shrNI rfl (by omega) ?_|refine FBit.shrIN rfl (by omega) (by omega) ?_|refine FBit.shrI rfl (by omega) (by omega) ?_|refine FBit.shl1I rfl (by omega) ?_)|(with_reducible refine FBit.has rfl (fun hq=>?_) (fun hq=>?_))|(with_reducible first|refine FBit.and1 rfl ?_|refine FBit.andN rfl (by omega) (by omega) ?_|refine FBit.orN rfl (by omega) (by omega) ?_|refine FBit.andNotN rfl (by omega) (by omega) ?_)|(with_reducible refine wG ?_)|(refine FCall.pure ((backward_ok s.T (s.n * s.T))) ⟨Ln.sameB _ rfl,True.intro⟩ rfl ?_)|(with_reducible refine wP ?_)))
 all_goals (try conv=>whnf)
 refine FRange.of (ACalls.mono _) (X:=Nat) (s.n * s.T) (fun k=>[AI ((s.n * s.T - 1 - k:Nat):Int),aSpot ((sp s.T (s.n * s.T - 1 - k)).1:Int) ((sp s.T (s.n * s.T - 1 - k)).2:Int)])
  (fun k=>[(2,nilS),(3,.ptr 1 0),(6,.ptr 3 0),(19,.ptr 4 0),(20,.ptr 5 0),(25,.ptr 6 0),(205,fBack s.T (s.n * s.T))])
  (fun k=>[.dead,.box 2 (ofL [AI 0,AI 0]),.row (s.n * s.T + 1) 1 (fun j _=>aSteps false false (2 ^ s.rg.length) (row s j)),.box 1 (ofL [.own 2 (s.n * s.T + 1)]),.box 1 (ofL [AI ((dn s k).1:Nat)]),.box 2 (ofL [AI (bestW s).u,AI (bestW s).o]),.box 1 (ofL [.own 7 s.rg.length]),.row s.rg.length 2 (fun c=>cAn (enc ((dn s k).2 c)))])
  (fun k x=>x = k) 0 ⟨rfl,[0,1,2,3,4,5,7,6],wO rfl rfl rfl (CutL.gone (Nat.lt_of_lt_of_le (Nat.lt_succ_self _) (Nat.le_of_ble_eq_true rfl)) (wV rfl LnB.A (wV rfl LnB.A (wV rfl LnB.A (wV rfl (LnB.boxN ⟨True.intro,Ln.int hB1⟩) (wV rfl LnB.A (wV rfl LnB.A (wV rfl LnB.A wX)))))))),allA⟩ rfl rfl (backward_g _ _ _ (by omega)) (fun _ _=>rfl) ?round ?done
 case round =>
  rintro k x hk rfl
  have hidx:(((s.n * s.T - 1 - x:Nat):Int) + 1).toNat = s.n * s.T - 1 - x + 1:=by omega
  have hlt:=dn_lt s x
  have hltc:(dn s x).1 < 2 ^ s.rg.length:=hlt
  have hcall:=row_call s (s.n * s.T - 1 - x) (dn s x).1
  rw [← hidx] at hcall
  rcases hcall with hcall|⟨c,hc,hcall,_⟩
  ·have hd:dn s (x + 1) = dn s x:=by
    simp only [dn];rw [if_neg (by rw [← hidx,hcall];decide)]
   (repeat' ((try conv=>whnf);first|(with_reducible first|refine wT ?_|refine wF ?_|(refine wI (fun hq=>?_) (fun hq=>?_) <;> try simp only [zA,zE,zD,zJ,zB,zI,wK,wL] at hq)|refine wA ?_|refine wB ?_|refine wC ?_|refine wD ?_|refine wE ?_)|((with_reducible refine wN ?_ ?_);focus exact needA)|(with_reducible first|refine FBit.hasT rfl (by assumption) ?_|refine FBit.hasF rfl (by assumption) ?_|refine FBit.shrN rfl (by omega) ?_|refine FBit.half rfl ?_|refine FBit.shl1 rfl (by omega) ?_|refine Fits.inU (by omega) ?_|refine FBit.shrNI rfl (by omega) ?_|refine FBit.shrIN rfl (by omega) (by omega) ?_|refine FBit.shrI rfl (by omega) (by omega) ?_|refine FBit.shl1I rfl (by omega) ?_)|(with_reducible refine FBit.has rfl (fun hq=>?_) (fun hq=>?_))|(with_reducible first|refine FBit.and1 rfl ?_|refine FBit.andN rfl (by omega) (by omega) ?_|refine FBit.orN rfl (by omega) (by omega) ?_|refine FBit.andNotN rfl (by omega) (by omega) ?_)|(with_reducible refine wG ?_)|(with_reducible refine wP ?_)))
   all_goals (try conv=>whnf)
   refine ⟨⟨x + 1,rfl,[0,1,2,3,4,5,6,7],wO rfl rfl rfl (CutL.gone (Nat.lt_of_lt_of_le (Nat.lt_succ_self _) (Nat.le_of_ble_eq_true rfl)) (wV rfl LnB.A (wV rfl LnB.A (wV rfl LnB.A (wV rfl (LnB.boxN ⟨True.intro,Ln.int (by rw [hd])⟩) (wV rfl LnB.A (wV rfl LnB.A (wV rfl (LnB.rowE (Nat.le_refl _) fun j hj o ho=>by rw [hd]) wX)))))))),allA⟩⟩
  ·have hc':c < s.rg.length:=hc
   have h2c:2 ^ (row s (((s.n * s.T - 1 - x:Nat):Int) + 1).toNat (dn s x).1).call.toNat ≤ 2 ^ s.rg.length:=Nat.pow_le_pow_right (by decide) (by omega)
   have hd:dn s (x + 1) = (sdiff (dn s x).1 (2 ^ (row s (((s.n * s.T - 1 - x:Nat):Int) + 1).toNat (dn s x).1).call.toNat),(dn s x).2.put (row s (((s.n * s.T - 1 - x:Nat):Int) + 1).toNat (dn s x).1).call.toNat (some (sp s.T (s.n * s.T - 1 - x)))):=by
    simp only [dn];rw [← hidx,if_pos (by omega)];rfl
   (repeat' ((try conv=>whnf);first|(with_reducible first|refine wT ?_|refine wF ?_|(refine wI (fun hq=>?_) (fun hq=>?_) <;> try simp only [zA,zE,zD,zJ,zB,zI,wK,wL] at hq)|refine wA ?_|refine wB ?_|refine wC ?_|refine wD ?_|refine wE ?_)|((with_reducible refine wN ?_ ?_);focus exact needA)|(with_reducible first|refine FBit.hasT rfl (by assumption) ?_|refine FBit.hasF rfl (by assumption) ?_|refine FBit.shrN rfl (by omega) ?_|refine FBit.half rfl ?_|refine FBit.shl1 rfl (by omega) ?_|refine Fits.inU (by omega) ?_|refine FBit.shrNI rfl (by omega) ?_|refine FBit.shrIN rfl (by omega) (by omega) ?_|refine FBit.shrI rfl (by omega) (by omega) ?_|refine FBit.shl1I rfl (by omega) ?_)|(with_reducible refine FBit.has rfl (fun hq=>?_) (fun hq=>?_))|(with_reducible first|refine FBit.and1 rfl ?_|refine FBit.andN rfl (by omega) (by omega) ?_|refine FBit.orN rfl (by omega) (by omega) ?_|refine FBit.andNotN rfl (by omega) (by omega) ?_)|(with_reducible refine wG ?_)|(with_reducible refine wP ?_)))
   all_goals (try conv=>whnf)
   refine ⟨⟨x + 1,rfl,[0,1,2,3,4,5,6,7],wO rfl rfl rfl (CutL.gone (Nat.lt_of_lt_of_le (Nat.lt_succ_self _) (Nat.le_of_ble_eq_true rfl)) (wV rfl LnB.A (wV rfl LnB.A (wV rfl LnB.A (wV rfl (LnB.boxN ⟨True.intro,Ln.int (by rw [hd])⟩) (wV rfl LnB.A (wV rfl LnB.A (wV rfl (LnB.rowE (Nat.le_refl _) fun j hj o ho=>?_) wX)))))))),allA⟩⟩
   rw [hd]
   simp only [updRm,Asg.put]
   by_cases e:j = (row s (((s.n * s.T - 1 - x:Nat):Int) + 1).toNat (dn s x).1).call.toNat
   ·rw [if_pos e,if_pos e];rfl
   ·rw [if_neg e,if_neg e]
 case done =>
  rintro x rfl
  (repeat' ((try conv=>whnf);first|(with_reducible first|refine wT ?_|refine wF ?_|(refine wI (fun hq=>?_) (fun hq=>?_) <;> try simp only [zA,zE,zD,zJ,zB,zI,wK,wL] at hq)|refine wA ?_|refine wB ?_|refine wC ?_|refine wD ?_|refine wE ?_)|((with_reducible refine wN ?_ ?_);focus exact needA)|(with_reducible first|refine FBit.hasT rfl (by assumption) ?_|refine FBit.hasF rfl (by assumption) ?_|refine FBit.shrN rfl (by omega) ?_|refine FBit.half rfl ?_|refine FBit.shl1 rfl (by omega) ?_|refine Fits.inU (by omega) ?_|refine FBit.shrNI rfl (by omega) ?_|refine FBit.shrIN rfl (by omega) (by omega) ?_|refine FBit.shrI rfl (by omega) (by omega) ?_|refine FBit.shl1I rfl (by omega) ?_)|(with_reducible refine FBit.has rfl (fun hq=>?_) (fun hq=>?_))|(with_reducible first|refine FBit.and1 rfl ?_|refine FBit.andN rfl (by omega) (by omega) ?_|refine FBit.orN rfl (by omega) (by omega) ?_|refine FBit.andNotN rfl (by omega) (by omega) ?_)|(with_reducible refine wG ?_)|(with_reducible refine wP ?_)))
  all_goals (try conv=>whnf)
  refine ⟨⟨.tup 2 (ofL [.own 0 s.C,aWt (bestW s)]),[rowA s.C (fun c=>(bestL s).getD c na)],[7],?_,Ln.tupN ⟨⟨True.intro,Ln.ownE rfl rfl⟩,Ln.A⟩,rfl,rfl⟩⟩
  exact wO rfl rfl rfl (wV rfl (LnB.rowE (Nat.le_refl _) fun j hj o ho=>by rw [dn_all];show cAn ((encL s (bestA s)).getD j na) o = _;rw [encL_get hj]) wX)
/-- The same, to be read only. -/
theorem pbest_ok (f:StF) (s:Std) (hs:StdOk s):ACall Try.prog 24 [aStd f s] [] (fun r h=>r = .tup 2 (ofL [aAns false false (bestL s),aWt (bestW s)]) ∧ h = []) :=
 ACall.wk (ACall.mono' _ (by rintro _ _ ⟨rfl,rfl⟩;exact ⟨_,[],[],Cut.nil _,Ln.tupN ⟨⟨True.intro,Ln.pubE (goneB rfl) rfl (Nat.le_refl _) (encL_len s _).symm (fun _ _ _ _=>rfl)⟩,Ln.A⟩,rfl,rfl⟩) (best_walk f s hs))
/-- What Plan of the program returns. -/
abbrev planE (s:Std):AV:=if s.ok then .tup 4 (ofL [aAns false false (bestL s),AI (bestW s).u,AI (bestW s).o,AI 0]) else .tup 4 (ofL [nilS,AI 0,AI 0,AI 60])
theorem plan_yes (f:StF) (s:Std) (hn:NearS s) (h:s.ok = true):ACall Try.prog 12 [aStd f s] [] (fun r h=>r = .tup 4 (ofL [aAns false false (bestL s),AI (bestW s).u,AI (bestW s).o,AI 0]) ∧ h = []):=by
 have cC:=check_ok f s hn
 rw [check_ok' h] at cC
 (refine fcall_of mixed Try.func12 rfl (by decide) (hs:={}) ?k (ac:=?ac) ?c (rs:=?rs) ?r ?l ?H;(case k=>kernel_rfl);(case c=>(conv=>(lhs;cbv)));(case r=>(conv=>(lhs;cbv)));(case l=>exact Nat.le_of_ble_eq_true rfl))
 (repeat' ((try conv=>whnf);first|(with_reducible first|refine wT ?_|refine wF ?_|(refine wI (fun hq=>?_) (fun hq=>?_) <;> try simp only [zA,zE,zD,zJ,zB,zI,wK,wL] at hq)|refine wA ?_|refine wB ?_|refine wC ?_|refine wD ?_|refine wE ?_)|((with_reducible refine wN ?_ ?_);focus exact needA)|(with_reducible refine wG ?_)|(refine FCall.pure (cC) ⟨Ln.sameB _ rfl,True.intro⟩ rfl ?_)|(refine FCall.pure ((pbest_ok f s (std_d h))) ⟨Ln.sameB _ rfl,True.intro⟩ rfl ?_)|(with_reducible refine wP ?_)))
 all_goals (try conv=>whnf)
 (refine ⟨⟨_,[],[],Cut.nil _,Ln.sameB _ rfl,?_,rfl⟩⟩)
 rfl
theorem plan_no (f:StF) (s:Std) (hn:NearS s) (h:s.ok = false):ACall Try.prog 12 [aStd f s] [] (fun r h=>r = .tup 4 (ofL [nilS,AI 0,AI 0,AI 60]) ∧ h = []):=by
 have cC:=check_ok f s hn
 rw [check_60 h] at cC
 (refine fcall_of mixed Try.func12 rfl (by decide) (hs:={}) ?k (ac:=?ac) ?c (rs:=?rs) ?r ?l ?H;(case k=>kernel_rfl);(case c=>(conv=>(lhs;cbv)));(case r=>(conv=>(lhs;cbv)));(case l=>exact Nat.le_of_ble_eq_true rfl))
 (repeat' ((try conv=>whnf);first|(with_reducible first|refine wT ?_|refine wF ?_|(refine wI (fun hq=>?_) (fun hq=>?_) <;> try simp only [zA,zE,zD,zJ,zB,zI,wK,wL] at hq)|refine wA ?_|refine wB ?_|refine wC ?_|refine wD ?_|refine wE ?_)|((with_reducible refine wN ?_ ?_);focus exact needA)|(with_reducible refine wG ?_)|(refine FCall.pure (cC) ⟨Ln.sameB _ rfl,True.intro⟩ rfl ?_)|(with_reducible refine wP ?_)))
 all_goals (try conv=>whnf)
 (refine ⟨⟨_,[],[],Cut.nil _,Ln.sameB _ rfl,?_,rfl⟩⟩)
 rfl
end Go.Proofs.Ytjfldbkjfaopbaa.Q
