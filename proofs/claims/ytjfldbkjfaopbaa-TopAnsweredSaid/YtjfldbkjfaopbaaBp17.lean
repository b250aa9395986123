/- Cover: the reference's Check, CanBe, IsWatch, CheckWatch. -/
import Derived.Test.YtjfldbkjfaopbaaBp16
set_option linter.unusedSimpArgs false
set_option linter.unusedVariables false
namespace Go.Proofs.Ytjfldbkjfaopbaa
open Go.RowKit

def headOk (p:Pool):Bool:=inB p.folk.length 1 8 && inB p.needs.length 1 6 && inB p.nT 1 5 && inB p.ill 0 3 && inB p.most 0 6
theorem ok_parts (p:Pool):p.ok = (headOk p && p.needs.all (rowOk p.nT) && p.folk.all (Folk.ok p.nT p.needs.length)):=rfl
theorem head_d {p:Pool}:headOk p = true ↔ (1 ≤ (p.folk.length:Int) ∧ (p.folk.length:Int) ≤ 8) ∧ (1 ≤ (p.needs.length:Int) ∧ (p.needs.length:Int) ≤ 6) ∧ (1 ≤ (p.nT:Int) ∧ (p.nT:Int) ≤ 5) ∧ (0 ≤ p.ill ∧ p.ill ≤ 3) ∧ (0 ≤ p.most ∧ p.most ≤ 6):=by
 unfold headOk
 simp only [inB,Bool.and_eq_true,decide_eq_true_eq,and_assoc]
theorem check_head {p:Pool} (h:headOk p = false):checkP p = 100:=check_100 (by rw [ok_parts,h];rfl)
theorem check_rows {p:Pool} (h:p.needs.all (rowOk p.nT) = false):checkP p = 100:=check_100 (by rw [ok_parts,h,Bool.and_false];rfl)
theorem check_folk {p:Pool} (h:p.folk.all (Folk.ok p.nT p.needs.length) = false):checkP p = 100:=check_100 (by rw [ok_parts,h,Bool.and_false])
/-- Not far too large. -/
structure NearP (p:Pool):Prop where
 f:p.folk.length ≤ 1000
 n:p.needs.length ≤ 1000
 r:∀ s,s < p.needs.length → (p.row s).length ≤ 1000
set_option maxHeartbeats 4000000
set_option maxRecDepth 100000
theorem refCheck_ok (f:PoF) (p:Pool) (hn:NearP p):ACall Try.prog 14 [aPool f p] [] (fun r h=>r = AI (checkP p) ∧ h = []):=by
 have n1:=hn.f
 have n2:=hn.n
 (refine fcall_of mixed Try.func14 rfl (by decide) (hs:={ ord:=[(6,[(0,[]),(1,[]),(2,[]),(3,[]),(4,[]),(5,[]),(6,[]),(7,[1,4]),(8,[])]),(17,[(0,[]),(1,[]),(2,[]),(3,[1]),(4,[]),(5,[]),(6,[]),(7,[]),(8,[]),(9,[]),(10,[]),(11,[]),(12,[]),(13,[]),(14,[]),(15,[]),(16,[]),(17,[]),(18,[]),(19,[]),(20,[]),(21,[]),(22,[]),(23,[]),(24,[]),(25,[]),(26,[])])] }) ?k (ac:=?ac) ?c (rs:=?rs) ?r ?l ?H;(case k=>kernel_rfl);(case c=>(conv=>(lhs;cbv)));(case r=>(conv=>(lhs;cbv)));(case l=>exact Nat.le_of_ble_eq_true rfl))
 (repeat' ((try conv=>whnf);first|(with_reducible first|refine wT ?_|refine wF ?_|(refine wI (fun hq=>?_) (fun hq=>?_) <;> try simp only [zA,zE,zD,zJ,zB,zI,wK,wL] at hq)|refine wA ?_|refine wB ?_|refine wC ?_|refine wD ?_|refine wE ?_)|((with_reducible refine wN ?_ ?_);focus exact needA)|(with_reducible refine wG ?_)|(refine FCall.pure ((within_ok _ _ _)) ⟨Ln.sameB _ rfl,Ln.sameB _ rfl,Ln.sameB _ rfl,True.intro⟩ rfl ?_)|(refine FCall.pure ((tongues_ok f p (by omega))) ⟨Ln.sameB _ rfl,True.intro⟩ rfl ?_)|(with_reducible refine wP ?_)))
 all_goals (try conv=>whnf)
 all_goals (try ((refine ⟨⟨_,[],[],Cut.nil _,Ln.sameB _ rfl,?_,rfl⟩⟩);rw [check_head (Bool.eq_false_iff.2 fun h=>by have:=head_d.1 h;omega)];done))
 have hh:headOk p = true:=head_d.2 (by omega)
 have hp:=pow8 (n:=p.nT) (by omega)
 have hp2:=pow8 (n:=p.needs.length) (by omega)
 refine FLoop.of (ACalls.mono _) (X:=Nat) (fun s=>[(1,.ptr 0 0),(3,AI s)]) (fun _=>[.box 4 (cPool f p)]) (fun s=>s ≤ p.needs.length ∧ p.needs.all (rowOk p.nT) = (p.needs.drop s).all (rowOk p.nT)) (fun s=>p.needs.length - s) 0 ⟨⟨Nat.zero_le _,rfl⟩,[0],Cut.A,allA⟩ ?_
 rintro s ⟨hs,hL⟩
 by_cases hlt:s < p.needs.length
 ·have n3:=hn.r s hlt
  unfold Pool.row at n3
  (repeat' ((try conv=>whnf);first|(with_reducible first|refine wT ?_|refine wF ?_|(refine wI (fun hq=>?_) (fun hq=>?_) <;> try simp only [zA,zE,zD,zJ,zB,zI,wK,wL] at hq)|refine wA ?_|refine wB ?_|refine wC ?_|refine wD ?_|refine wE ?_)|((with_reducible refine wN ?_ ?_);focus exact needA)|(with_reducible refine wG ?_)|(refine FCall.pure ((tongues_ok f p (by omega))) ⟨Ln.sameB _ rfl,True.intro⟩ rfl ?_)|(with_reducible refine wP ?_)))
  all_goals (try conv=>whnf)
  ·(refine ⟨⟨_,[],[],Cut.nil _,Ln.sameB _ rfl,?_,rfl⟩⟩)
   rw [check_rows (all_no [] hlt hL (by unfold rowOk;rw [decide_eq_false (by omega)];rfl))]
  ·have hlen:(p.needs.getD s []).length = p.nT:=by omega
   refine FLoop.of (ACalls.mono _) (X:=Nat) (fun t=>[(1,.ptr 0 0),(3,AI s),(4,AI t)]) (fun _=>[.box 4 (cPool f p)]) (fun t=>t ≤ (p.needs.getD s []).length ∧ (p.needs.getD s []).all (fun x=>inB x 0 8) = ((p.needs.getD s []).drop t).all (fun x=>inB x 0 8)) (fun t=>(p.needs.getD s []).length - t) 0 ⟨⟨Nat.zero_le _,rfl⟩,[0],Cut.A,allA⟩ ?_
   rintro t ⟨ht,hL2⟩
   by_cases hlt2:t < (p.needs.getD s []).length
   ·(repeat' ((try conv=>whnf);first|(with_reducible first|refine wT ?_|refine wF ?_|(refine wI (fun hq=>?_) (fun hq=>?_) <;> try simp only [zA,zE,zD,zJ,zB,zI,wK,wL] at hq)|refine wA ?_|refine wB ?_|refine wC ?_|refine wD ?_|refine wE ?_)|((with_reducible refine wN ?_ ?_);focus exact needA)|(with_reducible refine wG ?_)|(refine FCall.pure ((within_ok _ _ _)) ⟨Ln.sameB _ rfl,Ln.sameB _ rfl,Ln.sameB _ rfl,True.intro⟩ rfl ?_)|(with_reducible refine wP ?_)))
    all_goals (try conv=>whnf)
    ·(refine ⟨⟨_,[],[],Cut.nil _,Ln.sameB _ rfl,?_,rfl⟩⟩)
     rw [check_rows (all_no [] hlt hL (by unfold rowOk;rw [all_no (0:Int) hlt2 hL2 (decide_eq_false (by omega)),Bool.and_false]))]
    ·(exact ⟨⟨(t + 1),⟨hlt2,all_step (0:Int) hlt2 hL2 (decide_eq_true (by omega))⟩,by show _ < _;omega,[0],Cut.A,allA⟩⟩)
   ·(repeat' ((try conv=>whnf);first|(with_reducible first|refine wT ?_|refine wF ?_|(refine wI (fun hq=>?_) (fun hq=>?_) <;> try simp only [zA,zE,zD,zJ,zB,zI,wK,wL] at hq)|refine wA ?_|refine wB ?_|refine wC ?_|refine wD ?_|refine wE ?_)|((with_reducible refine wN ?_ ?_);focus exact needA)|(with_reducible refine wG ?_)|(with_reducible refine wP ?_)))
    all_goals (try conv=>whnf)
    (exact ⟨⟨(s + 1),⟨hlt,all_step [] hlt hL (by unfold rowOk;rw [decide_eq_true hlen,all_end (by omega) hL2];rfl)⟩,by show _ < _;omega,[0],Cut.A,allA⟩⟩)
 ·have hR:=all_end (by omega) hL
  (repeat' ((try conv=>whnf);first|(with_reducible first|refine wT ?_|refine wF ?_|(refine wI (fun hq=>?_) (fun hq=>?_) <;> try simp only [zA,zE,zD,zJ,zB,zI,wK,wL] at hq)|refine wA ?_|refine wB ?_|refine wC ?_|refine wD ?_|refine wE ?_)|((with_reducible refine wN ?_ ?_);focus exact needA)|(with_reducible refine wG ?_)|(with_reducible refine wP ?_)))
  all_goals (try conv=>whnf)
  refine FLoop.of (ACalls.mono _) (X:=Nat) (fun i=>[(1,.ptr 0 0),(5,AI i)]) (fun _=>[.box 4 (cPool f p)]) (fun i=>i ≤ p.folk.length ∧ p.folk.all (Folk.ok p.nT p.needs.length) = (p.folk.drop i).all (Folk.ok p.nT p.needs.length)) (fun i=>p.folk.length - i) 0 ⟨⟨Nat.zero_le _,rfl⟩,[0],Cut.A,allA⟩ ?_
  rintro i ⟨hi,hF⟩
  by_cases hlt2:i < p.folk.length
  ·(repeat' ((try conv=>whnf);first|(with_reducible first|refine wT ?_|refine wF ?_|(refine wI (fun hq=>?_) (fun hq=>?_) <;> try simp only [zA,zE,zD,zJ,zB,zI,wK,wL] at hq)|refine wA ?_|refine wB ?_|refine wC ?_|refine wD ?_|refine wE ?_)|((with_reducible refine wN ?_ ?_);focus exact needA)|(with_reducible first|refine FBit.hasT rfl (by assumption) ?_|refine FBit.hasF rfl (by assumption) ?_|refine FBit.shrN rfl (by omega) ?_|refine FBit.half rfl ?_|refine FBit.shl1 rfl (by omega) ?_|refine Fits.inU (by omega) ?_|refine FBit.shrNI rfl (by omega) ?_|refine FBit.shrIN rfl (by omega) (by omega) ?_|refine FBit.shrI rfl (by omega) (by omega) ?_|refine FBit.shl1I rfl (by omega) ?_)|(with_reducible refine FBit.has rfl (fun hq=>?_) (fun hq=>?_))|(with_reducible first|refine FBit.and1 rfl ?_|refine FBit.andN rfl (by omega) (by omega) ?_|refine FBit.orN rfl (by omega) (by omega) ?_|refine FBit.andNotN rfl (by omega) (by omega) ?_)|(with_reducible refine wG ?_)|(refine FCall.pure ((within_ok _ _ _)) ⟨Ln.sameB _ rfl,Ln.sameB _ rfl,Ln.sameB _ rfl,True.intro⟩ rfl ?_)|(refine FCall.pure ((tongues_ok f p (by omega))) ⟨Ln.sameB _ rfl,True.intro⟩ rfl ?_)|(with_reducible refine wP ?_)))
   all_goals (try conv=>whnf)
   all_goals (try ((refine ⟨⟨_,[],[],Cut.nil _,Ln.sameB _ rfl,?_,rfl⟩⟩);rw [check_folk (all_no fo0 hlt2 hF (Bool.eq_false_iff.2 fun h=>by unfold Folk.ok at h;simp only [inB,Bool.and_eq_true,decide_eq_true_eq] at h;omega))];done))
   (exact ⟨⟨(i + 1),⟨hlt2,all_step fo0 hlt2 hF (by unfold Folk.ok;simp only [inB,Bool.and_eq_true,decide_eq_true_eq];omega)⟩,by show _ < _;omega,[0],Cut.A,allA⟩⟩)
  ·have hA:=all_end (by omega) hF
   (repeat' ((try conv=>whnf);first|(with_reducible first|refine wT ?_|refine wF ?_|(refine wI (fun hq=>?_) (fun hq=>?_) <;> try simp only [zA,zE,zD,zJ,zB,zI,wK,wL] at hq)|refine wA ?_|refine wB ?_|refine wC ?_|refine wD ?_|refine wE ?_)|((with_reducible refine wN ?_ ?_);focus exact needA)|(with_reducible refine wG ?_)|(with_reducible refine wP ?_)))
   all_goals (try conv=>whnf)
   (refine ⟨⟨_,[],[],Cut.nil _,Ln.sameB _ rfl,?_,rfl⟩⟩)
   rw [check_0.2 (by rw [ok_parts,hh,hR,hA];rfl)]
theorem canBe_ok (f:PoF) (p:Pool) (s:Nat) (g:Int) (hs:s < 60) (hg:0 ≤ g) (h:PoolOk p):ACall Try.prog 26 [aPool f p,AI s,AI g] [] (fun r h=>r = .bool (canBe p s g) ∧ h = []):=by
 obtain ⟨m,rfl⟩:∃ m:Nat,g = m:=⟨g.toNat,by omega⟩
 have n8:=h.n8
 have hp:=pow8 n8
 (refine fcall_of mixed Try.func26 rfl (by decide) (hs:={}) ?k (ac:=?ac) ?c (rs:=?rs) ?r ?l ?H;(case k=>kernel_rfl);(case c=>(conv=>(lhs;cbv)));(case r=>(conv=>(lhs;cbv)));(case l=>exact Nat.le_of_ble_eq_true rfl))
 (repeat' ((try conv=>whnf);first|(with_reducible first|refine wT ?_|refine wF ?_|(refine wI (fun hq=>?_) (fun hq=>?_) <;> try simp only [zA,zE,zD,zJ,zB,zI,wK,wL] at hq)|refine wA ?_|refine wB ?_|refine wC ?_|refine wD ?_|refine wE ?_)|((with_reducible refine wN ?_ ?_);focus exact needA)|(with_reducible refine wG ?_)|(with_reducible refine wP ?_)))
 all_goals (try conv=>whnf)
 refine FLoop.of (ACalls.mono _) (X:=Nat) (fun i=>[(1,AI s),(2,AI m),(3,.ptr 0 0),(7,AI i)]) (fun _=>[.box 4 (cPool f p)]) (fun i=>i ≤ p.folk.length ∧ ∀ k,k < i → (!(m.testBit k) || (p.sl k).testBit s) = true) (fun i=>p.folk.length - i) 0 ⟨⟨Nat.zero_le _,fun k hk=>absurd hk (Nat.not_lt_zero k)⟩,[0],Cut.A,allA⟩ ?_
 rintro i ⟨hi,hL⟩
 by_cases hlt:i < p.folk.length
 ·have hf:=(h.folk i hlt).2.1
  (repeat' ((try conv=>whnf);first|(with_reducible first|refine wT ?_|refine wF ?_|(refine wI (fun hq=>?_) (fun hq=>?_) <;> try simp only [zA,zE,zD,zJ,zB,zI,wK,wL] at hq)|refine wA ?_|refine wB ?_|refine wC ?_|refine wD ?_|refine wE ?_)|((with_reducible refine wN ?_ ?_);focus exact needA)|(with_reducible refine wG ?_)|(refine FCall.pure ((has_ok m i (by omega))) ⟨Ln.sameB _ rfl,Ln.sameB _ rfl,True.intro⟩ rfl ?_)|(refine FCall.pure ((has_i (p.folk.getD i fo0).slots s (by omega) (by omega))) ⟨Ln.sameB _ rfl,Ln.sameB _ rfl,True.intro⟩ rfl ?_)|(with_reducible refine wP ?_)))
  all_goals (try conv=>whnf)
  ·(refine ⟨⟨_,[],[],Cut.nil _,Ln.sameB _ rfl,?_,rfl⟩⟩)
   refine bool_eq ?_
   unfold canBe canT
   rw [Int.toNat_natCast,rall_no hlt (by rw [show m.testBit i = true by assumption,show (p.sl i).testBit s = false from hq];rfl),Bool.and_false]
  ·(exact ⟨⟨(i + 1),⟨hlt,below_step hL (by rw [show (p.sl i).testBit s = true from hq,Bool.or_true])⟩,by show _ < _;omega,[0],Cut.A,allA⟩⟩)
  ·(exact ⟨⟨(i + 1),⟨hlt,below_step hL (by rw [hq];rfl)⟩,by show _ < _;omega,[0],Cut.A,allA⟩⟩)
 ·obtain rfl:i = p.folk.length:=by omega
  (repeat' ((try conv=>whnf);first|(with_reducible first|refine wT ?_|refine wF ?_|(refine wI (fun hq=>?_) (fun hq=>?_) <;> try simp only [zA,zE,zD,zJ,zB,zI,wK,wL] at hq)|refine wA ?_|refine wB ?_|refine wC ?_|refine wD ?_|refine wE ?_)|((with_reducible refine wN ?_ ?_);focus exact needA)|(with_reducible first|refine FBit.hasT rfl (by assumption) ?_|refine FBit.hasF rfl (by assumption) ?_|refine FBit.shrN rfl (by omega) ?_|refine FBit.half rfl ?_|refine FBit.shl1 rfl (by omega) ?_|refine Fits.inU (by omega) ?_|refine FBit.shrNI rfl (by omega) ?_|refine FBit.shrIN rfl (by omega) (by omega) ?_|refine FBit.shrI rfl (by omega) (by omega) ?_|refine FBit.shl1I rfl (by omega) ?_)|(with_reducible refine FBit.has rfl (fun hq=>?_) (fun hq=>?_))|(with_reducible first|refine FBit.and1 rfl ?_|refine FBit.andN rfl (by omega) (by omega) ?_|refine FBit.orN rfl (by omega) (by omega) ?_|refine FBit.andNotN rfl (by omega) (by omega) ?_)|(with_reducible refine wG ?_)|(refine FCall.pure ((within_ok _ _ _)) ⟨Ln.sameB _ rfl,Ln.sameB _ rfl,Ln.sameB _ rfl,True.intro⟩ rfl ?_)|(with_reducible refine wP ?_)))
  all_goals (try conv=>whnf)
  (refine ⟨⟨_,[],[],Cut.nil _,Ln.sameB _ rfl,?_,rfl⟩⟩)
  refine bool_eq ?_
  unfold canBe canT
  rw [Int.toNat_natCast,rall_yes hL,Bool.and_true]
theorem canBe_neg (f:PoF) (p:Pool) (s:Nat) (g:Int) (hs:s < 60) (hg:g < 0) (h:PoolOk p):ACall Try.prog 26 [aPool f p,AI s,AI g] [] (fun r h=>r = .bool false ∧ h = []):=by
 have n8:=h.n8
 have hp:=pow8 n8
 (refine fcall_of mixed Try.func26 rfl (by decide) (hs:={}) ?k (ac:=?ac) ?c (rs:=?rs) ?r ?l ?H;(case k=>kernel_rfl);(case c=>(conv=>(lhs;cbv)));(case r=>(conv=>(lhs;cbv)));(case l=>exact Nat.le_of_ble_eq_true rfl))
 (repeat' ((try conv=>whnf);first|(with_reducible first|refine wT ?_|refine wF ?_|(refine wI (fun hq=>?_) (fun hq=>?_) <;> try simp only [zA,zE,zD,zJ,zB,zI,wK,wL] at hq)|refine wA ?_|refine wB ?_|refine wC ?_|refine wD ?_|refine wE ?_)|((with_reducible refine wN ?_ ?_);focus exact needA)|(with_reducible refine wG ?_)|(with_reducible refine wP ?_)))
 all_goals (try conv=>whnf)
 refine FLoop.of (ACalls.mono _) (X:=Nat) (fun i=>[(1,AI s),(2,AI g),(3,.ptr 0 0),(7,AI i)]) (fun _=>[.box 4 (cPool f p)]) (fun i=>i ≤ p.folk.length) (fun i=>p.folk.length - i) 0 ⟨Nat.zero_le _,[0],Cut.A,allA⟩ ?_
 intro i hi
 by_cases hlt:i < p.folk.length
 ·have hf:=(h.folk i hlt).2.1
  (repeat' ((try conv=>whnf);first|(with_reducible first|refine wT ?_|refine wF ?_|(refine wI (fun hq=>?_) (fun hq=>?_) <;> try simp only [zA,zE,zD,zJ,zB,zI,wK,wL] at hq)|refine wA ?_|refine wB ?_|refine wC ?_|refine wD ?_|refine wE ?_)|((with_reducible refine wN ?_ ?_);focus exact needA)|(with_reducible refine wG ?_)|(refine FCall.pure ((has_z g i (by omega))) ⟨Ln.sameB _ rfl,Ln.sameB _ rfl,True.intro⟩ rfl ?_)|(refine FCall.pure ((has_i (p.folk.getD i fo0).slots s (by omega) (by omega))) ⟨Ln.sameB _ rfl,Ln.sameB _ rfl,True.intro⟩ rfl ?_)|(with_reducible refine wP ?_)))
  all_goals (try conv=>whnf)
  ·(refine ⟨⟨_,[],[],Cut.nil _,Ln.sameB _ rfl,?_,rfl⟩⟩)
   rfl
  ·(exact ⟨⟨(i + 1),hlt,by show _ < _;omega,[0],Cut.A,allA⟩⟩)
  ·(exact ⟨⟨(i + 1),hlt,by show _ < _;omega,[0],Cut.A,allA⟩⟩)
 ·obtain rfl:i = p.folk.length:=by omega
  (repeat' ((try conv=>whnf);first|(with_reducible first|refine wT ?_|refine wF ?_|(refine wI (fun hq=>?_) (fun hq=>?_) <;> try simp only [zA,zE,zD,zJ,zB,zI,wK,wL] at hq)|refine wA ?_|refine wB ?_|refine wC ?_|refine wD ?_|refine wE ?_)|((with_reducible refine wN ?_ ?_);focus exact needA)|(with_reducible first|refine FBit.hasT rfl (by assumption) ?_|refine FBit.hasF rfl (by assumption) ?_|refine FBit.shrN rfl (by omega) ?_|refine FBit.half rfl ?_|refine FBit.shl1 rfl (by omega) ?_|refine Fits.inU (by omega) ?_|refine FBit.shrNI rfl (by omega) ?_|refine FBit.shrIN rfl (by omega) (by omega) ?_|refine FBit.shrI rfl (by omega) (by omega) ?_|refine FBit.shl1I rfl (by omega) ?_)|(with_reducible refine FBit.has rfl (fun hq=>?_) (fun hq=>?_))|(with_reducible first|refine FBit.and1 rfl ?_|refine FBit.andN rfl (by omega) (by omega) ?_|refine FBit.orN rfl (by omega) (by omega) ?_|refine FBit.andNotN rfl (by omega) (by omega) ?_)|(with_reducible refine wG ?_)|(refine FCall.pure ((within_ok _ _ _)) ⟨Ln.sameB _ rfl,Ln.sameB _ rfl,Ln.sameB _ rfl,True.intro⟩ rfl ?_)|(with_reducible refine wP ?_)))
  all_goals (try conv=>whnf)
  (refine ⟨⟨_,[],[],Cut.nil _,Ln.sameB _ rfl,?_,rfl⟩⟩)
  exact bool_eq (decide_eq_false (by omega))
theorem canBe_any (f:PoF) (p:Pool) (s:Nat) (g:Int) (hs:s < 60) (h:PoolOk p):ACall Try.prog 26 [aPool f p,AI s,AI g] [] (fun r h=>r = .bool (canBe p s g) ∧ h = []):=by
 by_cases hg:0 ≤ g
 ·exact canBe_ok f p s g hs hg h
 ·have:=canBe_neg f p s g hs (by omega) h
  have e:canBe p s g = false:=by unfold canBe;rw [show inB g 0 ((2 ^ p.folk.length:Nat) - 1) = false from decide_eq_false (by omega)];rfl
  rwa [← e] at this
theorem onTo_le (w:List Int) (i:Nat):∀ k,onTo w i k ≤ k
 | 0=>Nat.le_refl _
 | k + 1=>by have:=onTo_le w i k;simp only [onTo];split <;> omega
theorem isWatch_ok (f:PoF) (p:Pool) (z e:Bool) (w:List Int) (hw:w.length ≤ 1000) (h:PoolOk p):ACall Try.prog 15 [aPool f p,aInts z e w] [] (fun r h=>r = .bool (isWatch p w) ∧ h = []):=by
 have n8:=h.n8
 have s6:=h.s6
 (refine fcall_of mixed Try.func15 rfl (by decide) (hs:={}) ?k (ac:=?ac) ?c (rs:=?rs) ?r ?l ?H;(case k=>kernel_rfl);(case c=>(conv=>(lhs;cbv)));(case r=>(conv=>(lhs;cbv)));(case l=>exact Nat.le_of_ble_eq_true rfl))
 (repeat' ((try conv=>whnf);first|(with_reducible first|refine wT ?_|refine wF ?_|(refine wI (fun hq=>?_) (fun hq=>?_) <;> try simp only [zA,zE,zD,zJ,zB,zI,wK,wL] at hq)|refine wA ?_|refine wB ?_|refine wC ?_|refine wD ?_|refine wE ?_)|((with_reducible refine wN ?_ ?_);focus exact needA)|(with_reducible refine wG ?_)|(with_reducible refine wP ?_)))
 all_goals (try conv=>whnf)
 ·(refine ⟨⟨_,[],[],Cut.nil _,Ln.sameB _ rfl,?_,rfl⟩⟩)
  unfold isWatch
  rw [decide_eq_false (p:=w.length = p.needs.length) (by omega)];rfl
 ·have hl:w.length = p.needs.length:=by omega
  refine FLoop.of (ACalls.mono _) (X:=Nat) (fun s=>[(1,aInts z e w),(2,.ptr 0 0),(5,AI s)]) (fun _=>[.box 4 (cPool f p)]) (fun s=>s ≤ w.length ∧ ∀ k,k < s → canBe p k (w.getD k 0) = true) (fun s=>w.length - s) 0 ⟨⟨Nat.zero_le _,fun k hk=>absurd hk (Nat.not_lt_zero k)⟩,[0],Cut.A,allA⟩ ?_
  rintro s ⟨hs,hL⟩
  by_cases hlt:s < w.length
  ·(repeat' ((try conv=>whnf);first|(with_reducible first|refine wT ?_|refine wF ?_|(refine wI (fun hq=>?_) (fun hq=>?_) <;> try simp only [zA,zE,zD,zJ,zB,zI,wK,wL] at hq)|refine wA ?_|refine wB ?_|refine wC ?_|refine wD ?_|refine wE ?_)|((with_reducible refine wN ?_ ?_);focus exact needA)|(with_reducible refine wG ?_)|(refine FCall.pure ((canBe_any f p s (w.getD s 0) (by omega) h)) ⟨Ln.sameB _ rfl,Ln.sameB _ rfl,Ln.sameB _ rfl,True.intro⟩ rfl ?_)|(with_reducible refine wP ?_)))
   all_goals (try conv=>whnf)
   ·(refine ⟨⟨_,[],[],Cut.nil _,Ln.sameB _ rfl,?_,rfl⟩⟩)
    refine bool_eq ?_
    unfold isWatch
    rw [rall_no hlt hq,Bool.and_false,Bool.false_and]
   ·(exact ⟨⟨(s + 1),⟨hlt,below_step hL hq⟩,by show _ < _;omega,[0],Cut.A,allA⟩⟩)
  ·obtain rfl:s = w.length:=by omega
   have hpos:∀ k,k < w.length → 0 ≤ w.getD k 0:=fun k hk=>by
    have:=hL k hk
    unfold canBe at this
    simp only [inB,Bool.and_eq_true,decide_eq_true_eq] at this
    omega
   (repeat' ((try conv=>whnf);first|(with_reducible first|refine wT ?_|refine wF ?_|(refine wI (fun hq=>?_) (fun hq=>?_) <;> try simp only [zA,zE,zD,zJ,zB,zI,wK,wL] at hq)|refine wA ?_|refine wB ?_|refine wC ?_|refine wD ?_|refine wE ?_)|((with_reducible refine wN ?_ ?_);focus exact needA)|(with_reducible refine wG ?_)|(with_reducible refine wP ?_)))
   all_goals (try conv=>whnf)
   refine FLoop.of (ACalls.mono _) (X:=Nat) (fun i=>[(1,aInts z e w),(2,.ptr 0 0),(6,AI i)]) (fun _=>[.box 4 (cPool f p)]) (fun i=>i ≤ p.folk.length ∧ ∀ k,k < i → decide ((onTo w k w.length:Int) ≤ p.most) = true) (fun i=>p.folk.length - i) 0 ⟨⟨Nat.zero_le _,fun k hk=>absurd hk (Nat.not_lt_zero k)⟩,[0],Cut.A,allA⟩ ?_
   rintro i ⟨hi,hM⟩
   by_cases hlt2:i < p.folk.length
   ·(repeat' ((try conv=>whnf);first|(with_reducible first|refine wT ?_|refine wF ?_|(refine wI (fun hq=>?_) (fun hq=>?_) <;> try simp only [zA,zE,zD,zJ,zB,zI,wK,wL] at hq)|refine wA ?_|refine wB ?_|refine wC ?_|refine wD ?_|refine wE ?_)|((with_reducible refine wN ?_ ?_);focus exact needA)|(with_reducible refine wG ?_)|(with_reducible refine wP ?_)))
    all_goals (try conv=>whnf)
    refine FLoop.of (ACalls.mono _) (X:=Nat) (fun s=>[(1,aInts z e w),(2,.ptr 0 0),(6,AI i),(7,AI (onTo w i s:Nat)),(8,AI s)]) (fun _=>[.box 4 (cPool f p)]) (fun s=>s ≤ w.length) (fun s=>w.length - s) 0 ⟨Nat.zero_le _,[0],Cut.A,allA⟩ ?_
    intro s hs2
    have hle:=onTo_le w i s
    by_cases hlt3:s < w.length
    ·have h0:=hpos s hlt3
     have hst:onTo w i (s + 1) = onTo w i s + if (w.getD s 0).toNat.testBit i then 1 else 0:=rfl
     (repeat' ((try conv=>whnf);first|(with_reducible first|refine wT ?_|refine wF ?_|(refine wI (fun hq=>?_) (fun hq=>?_) <;> try simp only [zA,zE,zD,zJ,zB,zI,wK,wL] at hq)|refine wA ?_|refine wB ?_|refine wC ?_|refine wD ?_|refine wE ?_)|((with_reducible refine wN ?_ ?_);focus exact needA)|(with_reducible first|refine FBit.hasT rfl (by assumption) ?_|refine FBit.hasF rfl (by assumption) ?_|refine FBit.shrN rfl (by omega) ?_|refine FBit.half rfl ?_|refine FBit.shl1 rfl (by omega) ?_|refine Fits.inU (by omega) ?_|refine FBit.shrNI rfl (by omega) ?_|refine FBit.shrIN rfl (by omega) (by omega) ?_|refine FBit.shrI rfl (by omega) (by omega) ?_|refine FBit.shl1I rfl (by omega) ?_)|(with_reducible refine FBit.has rfl (fun hq=>?_) (fun hq=>?_))|(with_reducible first|refine FBit.and1 rfl ?_|refine FBit.andN rfl (by omega) (by omega) ?_|refine FBit.orN rfl (by omega) (by omega) ?_|refine FBit.andNotN rfl (by omega) (by omega) ?_)|(with_reducible refine wG ?_)|(with_reducible refine wP ?_)))
     all_goals (try conv=>whnf)
     ·rw [hq,if_pos rfl] at hst
      (exact ⟨⟨(s + 1),hlt3,by show _ < _;omega,[0],Cut.A,allA⟩⟩)
     ·rw [hq,if_neg (by decide)] at hst
      (exact ⟨⟨(s + 1),hlt3,by show _ < _;omega,[0],Cut.A,allA⟩⟩)
    ·obtain rfl:s = w.length:=by omega
     (repeat' ((try conv=>whnf);first|(with_reducible first|refine wT ?_|refine wF ?_|(refine wI (fun hq=>?_) (fun hq=>?_) <;> try simp only [zA,zE,zD,zJ,zB,zI,wK,wL] at hq)|refine wA ?_|refine wB ?_|refine wC ?_|refine wD ?_|refine wE ?_)|((with_reducible refine wN ?_ ?_);focus exact needA)|(with_reducible refine wG ?_)|(with_reducible refine wP ?_)))
     all_goals (try conv=>whnf)
     ·(refine ⟨⟨_,[],[],Cut.nil _,Ln.sameB _ rfl,?_,rfl⟩⟩)
      refine bool_eq ?_
      unfold isWatch
      rw [rall_no (p:=fun i=>decide ((onTo w i w.length:Int) ≤ p.most)) hlt2 (decide_eq_false (by omega)),Bool.and_false]
     ·(exact ⟨⟨(i + 1),⟨hlt2,below_step hM (decide_eq_true (by omega))⟩,by show _ < _;omega,[0],Cut.A,allA⟩⟩)
   ·obtain rfl:i = p.folk.length:=by omega
    (repeat' ((try conv=>whnf);first|(with_reducible first|refine wT ?_|refine wF ?_|(refine wI (fun hq=>?_) (fun hq=>?_) <;> try simp only [zA,zE,zD,zJ,zB,zI,wK,wL] at hq)|refine wA ?_|refine wB ?_|refine wC ?_|refine wD ?_|refine wE ?_)|((with_reducible refine wN ?_ ?_);focus exact needA)|(with_reducible refine wG ?_)|(with_reducible refine wP ?_)))
    all_goals (try conv=>whnf)
    (refine ⟨⟨_,[],[],Cut.nil _,Ln.sameB _ rfl,?_,rfl⟩⟩)
    refine bool_eq ?_
    unfold isWatch
    rw [decide_eq_true hl,rall_yes hL,rall_yes hM];rfl
theorem checkWatch_ok (f:PoF) (p:Pool) (z e:Bool) (w:List Int) (hn:NearP p) (hw:w.length ≤ 1000):ACall Try.prog 5 [aPool f p,aInts z e w] [] (fun r h=>r = AI (checkW p w) ∧ h = []):=by
 have cC:=refCheck_ok f p hn
 (refine fcall_of mixed Try.func5 rfl (by decide) (hs:={}) ?k (ac:=?ac) ?c (rs:=?rs) ?r ?l ?H;(case k=>kernel_rfl);(case c=>(conv=>(lhs;cbv)));(case r=>(conv=>(lhs;cbv)));(case l=>exact Nat.le_of_ble_eq_true rfl))
 cases hk:p.ok
 ·rw [check_100 hk] at cC
  (repeat' ((try conv=>whnf);first|(with_reducible first|refine wT ?_|refine wF ?_|(refine wI (fun hq=>?_) (fun hq=>?_) <;> try simp only [zA,zE,zD,zJ,zB,zI,wK,wL] at hq)|refine wA ?_|refine wB ?_|refine wC ?_|refine wD ?_|refine wE ?_)|((with_reducible refine wN ?_ ?_);focus exact needA)|(with_reducible refine wG ?_)|(refine FCall.pure (cC) ⟨Ln.sameB _ rfl,True.intro⟩ rfl ?_)|(with_reducible refine wP ?_)))
  all_goals (try conv=>whnf)
  (refine ⟨⟨_,[],[],Cut.nil _,Ln.sameB _ rfl,?_,rfl⟩⟩)
  unfold checkW;rw [hk];rfl
 ·rw [check_0.2 hk] at cC
  (repeat' ((try conv=>whnf);first|(with_reducible first|refine wT ?_|refine wF ?_|(refine wI (fun hq=>?_) (fun hq=>?_) <;> try simp only [zA,zE,zD,zJ,zB,zI,wK,wL] at hq)|refine wA ?_|refine wB ?_|refine wC ?_|refine wD ?_|refine wE ?_)|((with_reducible refine wN ?_ ?_);focus exact needA)|(with_reducible refine wG ?_)|(refine FCall.pure (cC) ⟨Ln.sameB _ rfl,True.intro⟩ rfl ?_)|(refine FCall.pure ((isWatch_ok f p z e w hw (pool_d hk))) ⟨Ln.sameB _ rfl,Ln.sameB _ rfl,True.intro⟩ rfl ?_)|(with_reducible refine wP ?_)))
  all_goals (try conv=>whnf)
  all_goals
   (refine ⟨⟨_,[],[],Cut.nil _,Ln.sameB _ rfl,?_,rfl⟩⟩)
   unfold checkW;rw [hk,hq];rfl
end Go.Proofs.Ytjfldbkjfaopbaa
