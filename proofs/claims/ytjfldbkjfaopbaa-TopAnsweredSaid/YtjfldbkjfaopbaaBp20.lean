/- Cover: the program's watched, Safe, Ready. / Cover: the program's Safe, Ready; the iterator parts. / Cover: the iterator parts. / Cover: the program's slot, cost, Slot. / Cover: the program's Slot, Missed. / Cover: the program's Missed, Weakest. -/
import Derived.Test.YtjfldbkjfaopbaaBp19
import Derived.RangeFuncNested
import Derived.RangeFuncBound
import Derived.RangeFuncCalls
import Derived.RangeFuncLeaves
import Derived.Shelf.Abstract
import Derived.Shelf.RegionOpen
import Derived.WalkKit
import Derived.OwnWalkIn
import Derived.TacticsInMore
import Derived.LoopNIn
import Derived.LoopIn
set_option linter.unusedSimpArgs false
set_option linter.unusedVariables false
namespace Go.Proofs.Ytjfldbkjfaopbaa
open Go.RowKit

def maxTo (l:List Int):Nat → Int
 | 0=>l.getD 0 0
 | k + 1=>max (maxTo l k) (l.getD (k + 1) 0)
theorem maxTo_le {l:List Int} {x:Int}:∀ k,maxTo l k ≤ x ↔ ∀ i,i ≤ k → l.getD i 0 ≤ x
 | 0=>by simp only [maxTo];exact ⟨fun h i hi=>by obtain rfl:i = 0:=(by omega);exact h,fun h=>h 0 (Nat.le_refl _)⟩
 | k + 1=>by
  rw [maxTo,Int.max_le,maxTo_le k]
  constructor
  ·rintro ⟨h1,h2⟩ i hi
   rcases Nat.eq_or_lt_of_le hi with e|e
   ·subst e;exact h2
   ·exact h1 i (by omega)
  ·intro h
   exact ⟨fun i hi=>h i (by omega),h (k + 1) (Nat.le_refl _)⟩
/-- In how many of the slots before one each of the first people is, and of the others one slot less. -/
def onAt (w:List Int) (s i k:Nat):Int:=if k < i then (onTo w k (s + 1):Int) else (onTo w k s:Int)
theorem canBe_iff {p:Pool} {s m:Nat}:canBe p s (m:Int) = true ↔ sdiff m (canSet p s p.folk.length) = 0:=by
 unfold canBe
 rw [Int.toNat_natCast,Bool.and_eq_true]
 simp only [inB,decide_eq_true_eq]
 constructor
 ·rintro ⟨h1,h2⟩;exact (canT_iff (by omega)).1 h2
 ·intro h
  have hl:m < 2 ^ p.folk.length:=lt_of_bits fun i hi=>bit_lt (canSet_lt p s _) (sdiff_z.1 h i hi)
  exact ⟨by omega,(canT_iff hl).2 h⟩
theorem watch_no {p:Pool} {w:List Int} {s:Nat} (h:p.ok = true) (hs:s < w.length) (hb:canBe p s (w.getD s 0) = false):checkW p w = 101:=by
 have:isWatch p w = false:=by unfold isWatch;rw [rall_no hs hb,Bool.and_false,Bool.false_and]
 unfold checkW;rw [h,this];rfl
theorem watch_len {p:Pool} {w:List Int} (h:p.ok = true) (hl:w.length ≠ p.needs.length):checkW p w = 101:=by
 have:isWatch p w = false:=by unfold isWatch;rw [decide_eq_false hl];rfl
 unfold checkW;rw [h,this];rfl
theorem checkW_n {p:Pool} {w:List Int} (h:checkP p ≠ 0):checkW p w = checkP p:=by
 unfold checkW checkP at *
 cases hk:p.ok
 ·rfl
 ·rw [hk] at h;exact absurd rfl h
set_option maxHeartbeats 4000000
set_option maxRecDepth 100000
theorem max_ok (l:List Int) (d n:Nat) (hl:l.length = n + 1) (hn:n ≤ 1000):ACall Try.prog 31 [aInts false false l] [] (fun r h=>r = AI (maxTo l n) ∧ h = []):=by
 (refine fcall_of mixed Try.func31 rfl (by decide) (hs:={}) ?k (ac:=?ac) ?c (rs:=?rs) ?r ?l ?H;(case k=>kernel_rfl);(case c=>(conv=>(lhs;cbv)));(case r=>(conv=>(lhs;cbv)));(case l=>exact Nat.le_of_ble_eq_true rfl))
 (repeat' ((try conv=>whnf);first|(with_reducible first|refine wT ?_|refine wF ?_|(refine wI (fun hq=>?_) (fun hq=>?_) <;> try simp only [zA,zE,zD,zJ,zB,zI,wK,wL] at hq)|refine wA ?_|refine wB ?_|refine wC ?_|refine wD ?_|refine wE ?_)|((with_reducible refine wN ?_ ?_);focus exact needA)|(with_reducible refine wG ?_)|(with_reducible refine wP ?_)))
 all_goals (try conv=>whnf)
 refine FLoop.of (ACalls.mono _) (X:=Nat) (fun i=>[(0,aInts false false l),(3,AI (maxTo l i)),(4,AI (i + 1:Nat))]) (fun _=>[]) (fun i=>i ≤ n) (fun i=>n - i) 0 ⟨Nat.zero_le _,[],Cut.A,allA⟩ ?_
 intro i hi
 by_cases hlt:i < n
 ·(repeat' ((try conv=>whnf);first|(with_reducible first|refine wT ?_|refine wF ?_|(refine wI (fun hq=>?_) (fun hq=>?_) <;> try simp only [zA,zE,zD,zJ,zB,zI,wK,wL] at hq)|refine wA ?_|refine wB ?_|refine wC ?_|refine wD ?_|refine wE ?_)|((with_reducible refine wN ?_ ?_);focus exact needA)|(with_reducible refine wG ?_)|(with_reducible refine wP ?_)))
  all_goals (try conv=>whnf)
  have hst:maxTo l (i + 1) = max (maxTo l i) (l.getD (i + 1) 0):=rfl
  (exact ⟨⟨(i + 1),hlt,by show _ < _;omega,[],Cut.A,allA⟩⟩)
 ·obtain rfl:i = n:=by omega
  (repeat' ((try conv=>whnf);first|(with_reducible first|refine wT ?_|refine wF ?_|(refine wI (fun hq=>?_) (fun hq=>?_) <;> try simp only [zA,zE,zD,zJ,zB,zI,wK,wL] at hq)|refine wA ?_|refine wB ?_|refine wC ?_|refine wD ?_|refine wE ?_)|((with_reducible refine wN ?_ ?_);focus exact needA)|(with_reducible refine wG ?_)|(with_reducible refine wP ?_)))
  all_goals (try conv=>whnf)
  (refine ⟨⟨_,[],[],Cut.nil _,Ln.sameB _ rfl,?_,rfl⟩⟩)
  rfl
theorem watched_n (f:PoF) (p:Pool) (z e:Bool) (w:List Int) (hn:NearP p) (h0:checkP p ≠ 0):ACall Try.prog 20 [aPool f p,aInts z e w] [] (fun r h=>r = .tup 2 (ofL [.nilp,AI (checkW p w)]) ∧ h = []):=by
 have cO:=open_n f p hn h0
 (refine fcall_of mixed Try.func20 rfl (by decide) (hs:={ pub:=[18],ord:=[(18,[(0,[]),(2,[]),(3,[]),(1,[3]),(4,[])])] }) ?k (ac:=?ac) ?c (rs:=?rs) ?r ?l ?H;(case k=>kernel_rfl);(case c=>(conv=>(lhs;cbv)));(case r=>(conv=>(lhs;cbv)));(case l=>exact Nat.le_of_ble_eq_true rfl))
 (repeat' ((try conv=>whnf);first|(with_reducible first|refine wT ?_|refine wF ?_|(refine wI (fun hq=>?_) (fun hq=>?_) <;> try simp only [zA,zE,zD,zJ,zB,zI,wK,wL] at hq)|refine wA ?_|refine wB ?_|refine wC ?_|refine wD ?_|refine wE ?_)|((with_reducible refine wN ?_ ?_);focus exact needA)|(with_reducible refine wG ?_)|(refine FCall.pure (cO) ⟨Ln.sameB _ rfl,True.intro⟩ rfl ?_)|(with_reducible refine wP ?_)))
 all_goals (try conv=>whnf)
 (refine ⟨⟨_,[],[],Cut.nil _,Ln.sameB _ rfl,?_,rfl⟩⟩)
 rw [checkW_n h0];rfl
theorem watched_y (f:PoF) (p:Pool) (z e:Bool) (w:List Int) (hn:NearP p) (hw:∀ s,s < w.length → in64 (w.getD s 0)) (hk:p.ok = true):ACall Try.prog 20 [aPool f p,aInts z e w] [] (fun r h=>r = .tup 2 (ofL [if checkW p w = 0 then iOpen f p else .nilp,AI (checkW p w)]) ∧ h = []):=by
 have cO:=open_y f p hn (check_0.2 hk)
 have h:=pool_d hk
 have n8:=h.n8
 have s6:=h.s6
 have n1:=h.n1
 (refine fcall_of mixed Try.func20 rfl (by decide) (hs:={ pub:=[18],ord:=[(18,[(0,[]),(2,[]),(3,[]),(1,[3]),(4,[])])] }) ?k (ac:=?ac) ?c (rs:=?rs) ?r ?l ?H;(case k=>kernel_rfl);(case c=>(conv=>(lhs;cbv)));(case r=>(conv=>(lhs;cbv)));(case l=>exact Nat.le_of_ble_eq_true rfl))
 (repeat' ((try conv=>whnf);first|(with_reducible first|refine wT ?_|refine wF ?_|(refine wI (fun hq=>?_) (fun hq=>?_) <;> try simp only [zA,zE,zD,zJ,zB,zI,wK,wL] at hq)|refine wA ?_|refine wB ?_|refine wC ?_|refine wD ?_|refine wE ?_)|((with_reducible refine wN ?_ ?_);focus exact needA)|(with_reducible refine wG ?_)|(refine FCall.pure (cO) ⟨Ln.sameB _ rfl,True.intro⟩ rfl ?_)|(with_reducible refine wP ?_)))
 all_goals (try conv=>whnf)
 ·(refine ⟨⟨_,[],[],Cut.nil _,Ln.sameB _ rfl,?_,rfl⟩⟩)
  rw [watch_len hk (by omega)];rfl
 ·have hl:w.length = p.needs.length:=by omega
  obtain ⟨n,hN⟩:∃ n,p.folk.length = n + 1:=⟨p.folk.length - 1,by omega⟩
  refine FLoop.of (ACalls.mono _) (X:=Nat) (fun s=>[(2,.ptr 0 0),(6,iOpen f p),(8,.own 1 p.folk.length),(30,aInts z e w),(31,AI w.length),(32,AI s)]) (fun s=>[.box 4 (cPool f p),rowZ p.folk.length (fun k=>(onTo w k s:Nat))]) (fun s=>s ≤ w.length ∧ ∀ k,k < s → canBe p k (w.getD k 0) = true) (fun s=>w.length - s) 0 ⟨⟨Nat.zero_le _,fun k hk=>absurd hk (Nat.not_lt_zero k)⟩,[0,1],wO rfl rfl rfl (wV rfl LnB.A (wV rfl (LnB.rowE (by omega) (fun k hk o ho=>by obtain rfl:o = 0:=(by omega);rfl)) wX)),allA⟩ ?_
  rintro s ⟨hs,hL⟩
  by_cases hlt:s < w.length
  ·have hi:=hw s hlt
   unfold in64 at hi
   by_cases h0:0 ≤ w.getD s 0
   ·obtain ⟨m,hm⟩:∃ m:Nat,w.getD s 0 = m:=⟨(w.getD s 0).toNat,by omega⟩
    have hcs:=canSet_lt p s p.folk.length
    have hp8:=pow8 n8
    (repeat' ((try conv=>whnf);first|(with_reducible first|refine wT ?_|refine wF ?_|(refine wI (fun hq=>?_) (fun hq=>?_) <;> try simp only [zA,zE,zD,zJ,zB,zI,wK,wL] at hq)|refine wA ?_|refine wB ?_|refine wC ?_|refine wD ?_|refine wE ?_)|((with_reducible refine wN ?_ ?_);focus exact needA)|(with_reducible first|refine FBit.hasT rfl (by assumption) ?_|refine FBit.hasF rfl (by assumption) ?_|refine FBit.shrN rfl (by omega) ?_|refine FBit.half rfl ?_|refine FBit.shl1 rfl (by omega) ?_|refine Fits.inU (by omega) ?_|refine FBit.shrNI rfl (by omega) ?_|refine FBit.shrIN rfl (by omega) (by omega) ?_|refine FBit.shrI rfl (by omega) (by omega) ?_|refine FBit.shl1I rfl (by omega) ?_)|(with_reducible refine FBit.has rfl (fun hq=>?_) (fun hq=>?_))|(with_reducible first|refine FBit.and1 rfl ?_|refine FBit.andN rfl (by omega) (by omega) ?_|refine FBit.orN rfl (by omega) (by omega) ?_|refine FBit.andNotN rfl (by omega) (by omega) ?_)|(with_reducible refine wG ?_)|(refine FCall.pure ((can_ok f p s (by omega) h)) ⟨Ln.sameB _ rfl,Ln.sameB _ rfl,True.intro⟩ rfl ?_)|(refine FBit.andNotI rfl hm rfl (by omega) (by omega) ?_)|(with_reducible refine wP ?_)))
    all_goals (try conv=>whnf)
    ·have hb:canBe p s (w.getD s 0) = false:=Bool.eq_false_iff.2 fun hh=>by
      rw [hm] at hh
      have:=canBe_iff.1 hh
      omega
     (refine ⟨⟨_,[],[],Cut.nil _,Ln.sameB _ rfl,?_,rfl⟩⟩)
     rw [watch_no hk hlt hb];rfl
    ·have hb:canBe p s (w.getD s 0) = true:=by rw [hm];exact canBe_iff.2 (by omega)
     refine FLoop.of (ACalls.mono _) (X:=Nat) (fun i=>[(2,.ptr 0 0),(6,iOpen f p),(8,.own 1 p.folk.length),(10,AI m),(30,aInts z e w),(31,AI w.length),(32,AI s),(49,AI p.folk.length),(50,AI i)]) (fun i=>[.box 4 (cPool f p),rowZ p.folk.length (onAt w s i)]) (fun i=>i ≤ p.folk.length) (fun i=>p.folk.length - i) 0 ⟨Nat.zero_le _,[0,1],wO rfl rfl rfl (wV rfl LnB.A (wV rfl (LnB.rowE (Nat.le_refl _) (fun k hk o ho=>int_eq (if_neg (Nat.not_lt_zero k)))) wX)),allA⟩ ?_
     intro i hi2
     by_cases hlt2:i < p.folk.length
     ·have hle:=onTo_le w i s
      have hst:onTo w i (s + 1) = onTo w i s + if m.testBit i then 1 else 0:=by rw [onTo,hm,Int.toNat_natCast]
      have hat:onAt w s i i = (onTo w i s:Nat):=if_neg (Nat.lt_irrefl i)
      have hrowN:∀ x,x = (onTo w i (s + 1):Int) → ∀ k,k < p.folk.length → ∀ o,o < 1 → AI (onAt w s (i + 1) k) = updRm (fun k x=>AI (onAt w s i k)) i (fun _=>AI x) k o:=fun x hx k hk o ho=>by
       subst hx
       simp only [updRm,onAt]
       by_cases e:k = i
       ·subst e;rw [if_pos (by omega),if_pos rfl]
       ·rw [if_neg e]
        by_cases e2:k < i
        ·rw [if_pos (by omega),if_pos e2]
        ·rw [if_neg (by omega),if_neg e2]
      (repeat' ((try conv=>whnf);first|(with_reducible first|refine wT ?_|refine wF ?_|(refine wI (fun hq=>?_) (fun hq=>?_) <;> try simp only [zA,zE,zD,zJ,zB,zI,wK,wL] at hq)|refine wA ?_|refine wB ?_|refine wC ?_|refine wD ?_|refine wE ?_)|((with_reducible refine wN ?_ ?_);focus exact needA)|(with_reducible first|refine FBit.hasT rfl (by assumption) ?_|refine FBit.hasF rfl (by assumption) ?_|refine FBit.shrN rfl (by omega) ?_|refine FBit.half rfl ?_|refine FBit.shl1 rfl (by omega) ?_|refine Fits.inU (by omega) ?_|refine FBit.shrNI rfl (by omega) ?_|refine FBit.shrIN rfl (by omega) (by omega) ?_|refine FBit.shrI rfl (by omega) (by omega) ?_|refine FBit.shl1I rfl (by omega) ?_)|(with_reducible refine FBit.has rfl (fun hq=>?_) (fun hq=>?_))|(with_reducible first|refine FBit.and1 rfl ?_|refine FBit.andN rfl (by omega) (by omega) ?_|refine FBit.orN rfl (by omega) (by omega) ?_|refine FBit.andNotN rfl (by omega) (by omega) ?_)|(with_reducible refine wG ?_)|(with_reducible refine wP ?_)))
      all_goals (try conv=>whnf)
      ·rw [hq,if_pos rfl] at hst
       (exact ⟨⟨(i + 1),hlt2,by show _ < _;omega,[0,1],(by (refine wO rfl rfl rfl ?_;repeat (first|exact wX|(refine wV rfl (by first|exact LnB.rowS|exact LnB.rowE (Nat.le_refl _) (hrowN _ (by omega))|exact LnB.A) ?_)|(refine CutL.gone (Nat.lt_of_lt_of_le (Nat.lt_succ_self _) (Nat.le_of_ble_eq_true rfl)) ?_)))),allA⟩⟩)
      ·rw [hq,if_neg (by decide)] at hst
       (exact ⟨⟨(i + 1),hlt2,by show _ < _;omega,[0,1],(by (refine wO rfl rfl rfl ?_;repeat (first|exact wX|(refine wV rfl (by first|exact LnB.rowS|exact LnB.rowE (Nat.le_refl _) (hrowN _ (by omega))|exact LnB.A) ?_)|(refine CutL.gone (Nat.lt_of_lt_of_le (Nat.lt_succ_self _) (Nat.le_of_ble_eq_true rfl)) ?_)))),allA⟩⟩)
     ·obtain rfl:i = p.folk.length:=by omega
      (repeat' ((try conv=>whnf);first|(with_reducible first|refine wT ?_|refine wF ?_|(refine wI (fun hq=>?_) (fun hq=>?_) <;> try simp only [zA,zE,zD,zJ,zB,zI,wK,wL] at hq)|refine wA ?_|refine wB ?_|refine wC ?_|refine wD ?_|refine wE ?_)|((with_reducible refine wN ?_ ?_);focus exact needA)|(with_reducible refine wG ?_)|(with_reducible refine wP ?_)))
      all_goals (try conv=>whnf)
      (exact ⟨⟨(s + 1),⟨hlt,below_step hL hb⟩,by show _ < _;omega,[0,1],(by (refine wO rfl rfl rfl ?_;repeat (first|exact wX|(refine wV rfl (by first|exact LnB.rowS|exact LnB.rowE (Nat.le_refl _) (fun k hk o ho=>int_eq (if_pos hk).symm)|exact LnB.A) ?_)|(refine CutL.gone (Nat.lt_of_lt_of_le (Nat.lt_succ_self _) (Nat.le_of_ble_eq_true rfl)) ?_)))),allA⟩⟩)
   ·have hb:canBe p s (w.getD s 0) = false:=by unfold canBe;rw [show inB (w.getD s 0) 0 ((2 ^ p.folk.length:Nat) - 1) = false from decide_eq_false (by omega)];rfl
    (repeat' ((try conv=>whnf);first|(with_reducible first|refine wT ?_|refine wF ?_|(refine wI (fun hq=>?_) (fun hq=>?_) <;> try simp only [zA,zE,zD,zJ,zB,zI,wK,wL] at hq)|refine wA ?_|refine wB ?_|refine wC ?_|refine wD ?_|refine wE ?_)|((with_reducible refine wN ?_ ?_);focus exact needA)|(with_reducible refine wG ?_)|(with_reducible refine wP ?_)))
    all_goals (try conv=>whnf)
    (refine ⟨⟨_,[],[],Cut.nil _,Ln.sameB _ rfl,?_,rfl⟩⟩)
    rw [watch_no hk hlt hb];rfl
  ·obtain rfl:s = w.length:=by omega
   obtain ⟨l,hl1,hl2⟩:∃ l:List Int,l.length = p.folk.length ∧ ∀ i,i < p.folk.length → l.getD i 0 = (onTo w i w.length:Nat):=⟨(List.range p.folk.length).map fun i=>((onTo w i w.length:Nat):Int),by simp,fun i hi=>by simp [List.getD,hi]⟩
   (repeat' ((try conv=>whnf);first|(with_reducible first|refine wT ?_|refine wF ?_|(refine wI (fun hq=>?_) (fun hq=>?_) <;> try simp only [zA,zE,zD,zJ,zB,zI,wK,wL] at hq)|refine wA ?_|refine wB ?_|refine wC ?_|refine wD ?_|refine wE ?_)|((with_reducible refine wN ?_ ?_);focus exact needA)|(with_reducible refine wG ?_)|(with_reducible refine wP ?_)))
   all_goals (try conv=>whnf)
   refine FWk.of [(2,.ptr 0 0),(6,iOpen f p),(8,aInts false false l)] [.box 4 (cPool f p)] [0] Cut.A ⟨Ln.A,Ln.A,Ln.pubE (goneB rfl) rfl (Nat.le_refl _) hl1.symm (fun k hk o ho=>int_eq (hl2 k hk)),True.intro⟩ ?_
   have cM:=max_ok l 0 n (by omega) (by omega)
   have hmx:=maxTo_le (l:=l) (x:=p.most) n
   have hW:isWatch p w = decide (maxTo l n ≤ p.most):=by
    unfold isWatch
    rw [decide_eq_true hl,rall_yes hL,Bool.true_and,Bool.true_and,Bool.eq_iff_iff,decide_eq_true_eq,hmx]
    constructor
    ·intro hh i hi
     rw [hl2 i (by omega)]
     exact of_decide_eq_true (rall_get hh (show i < p.folk.length by omega))
    ·intro hh
     refine rall_yes fun i hi=>decide_eq_true ?_
     have:=hh i (by omega)
     rwa [hl2 i hi] at this
   (repeat' ((try conv=>whnf);first|(with_reducible first|refine wT ?_|refine wF ?_|(refine wI (fun hq=>?_) (fun hq=>?_) <;> try simp only [zA,zE,zD,zJ,zB,zI,wK,wL] at hq)|refine wA ?_|refine wB ?_|refine wC ?_|refine wD ?_|refine wE ?_)|((with_reducible refine wN ?_ ?_);focus exact needA)|(with_reducible refine wG ?_)|(refine FCall.pure (cM) ⟨Ln.sameB _ rfl,True.intro⟩ rfl ?_)|(with_reducible refine wP ?_)))
   all_goals (try conv=>whnf)
   ·have hC:checkW p w = 101:=by unfold checkW;rw [hk,hW,decide_eq_false (by omega)];rfl
    (refine ⟨⟨_,[],[],Cut.nil _,Ln.sameB _ rfl,?_,rfl⟩⟩)
    rw [hC];rfl
   ·have hC:checkW p w = 0:=by unfold checkW;rw [hk,hW,decide_eq_true (by omega)];rfl
    (refine ⟨⟨_,[],[],Cut.nil _,Ln.sameB _ rfl,?_,rfl⟩⟩)
    rw [hC];rfl
end Go.Proofs.Ytjfldbkjfaopbaa

namespace Go.Proofs.Ytjfldbkjfaopbaa
open Go.RowKit Go.Shelf

theorem au_of {x:Int} (h:0 ≤ x):AU x.toNat = .int .u64 x:=int_eq (Int.toNat_of_nonneg h)
theorem watched_ok {f:PoF} {p:Pool} {z e:Bool} {w:List Int} (hn:NearP p) (hw:∀ s,s < w.length → in64 (w.getD s 0)) (h:checkW p w = 0):ACall Try.prog 20 [aPool f p,aInts z e w] [] (fun r h=>r = .tup 2 (ofL [iOpen f p,AI 0]) ∧ h = []):=by
 have hk:p.ok = true:=by
  unfold checkW at h
  split at h
  ·assumption
  ·cases h
 have:=watched_y f p z e w hn hw hk
 rwa [h,if_pos rfl] at this
theorem watched_no {f:PoF} {p:Pool} {z e:Bool} {w:List Int} (hn:NearP p) (hw:∀ s,s < w.length → in64 (w.getD s 0)) (h:checkW p w ≠ 0):ACall Try.prog 20 [aPool f p,aInts z e w] [] (fun r h=>r = .tup 2 (ofL [.nilp,AI (checkW p w)]) ∧ h = []):=by
 by_cases hk:p.ok = true
 ·have:=watched_y f p z e w hn hw hk
  rwa [if_neg h] at this
 ·exact watched_n f p z e w hn (fun h=>hk (check_0.1 h))
/-- How many can be ill in a slot of a watch, with the error. -/
def readyE (p:Pool) (w:List Int) (s:Int):Int × Int:=if checkW p w = 0 then (if inB s 0 (p.needs.length - 1) then (spareT p s.toNat (w.getD s.toNat 0).toNat,0) else (0,1)) else (0,checkW p w)
set_option maxHeartbeats 4000000
set_option maxRecDepth 100000
theorem psafe_ok (f:PoF) (p:Pool) (z e:Bool) (w:List Int) (hn:NearP p) (hw:∀ s,s < w.length → in64 (w.getD s 0)) (hl:w.length ≤ 1000):ACall Try.prog 9 [aPool f p,aInts z e w] [] (fun r h=>r = .tup 2 (ofL [.bool (safeE p w).1,AI (safeE p w).2]) ∧ h = []):=by
 (refine fcall_of mixed Try.func9 rfl (by decide) (hs:={}) ?k (ac:=?ac) ?c (rs:=?rs) ?r ?l ?H;(case k=>kernel_rfl);(case c=>(conv=>(lhs;cbv)));(case r=>(conv=>(lhs;cbv)));(case l=>exact Nat.le_of_ble_eq_true rfl))
 by_cases hk:checkW p w = 0
 ·have cW:=watched_ok (f:=f) (z:=z) (e:=e) hn hw hk
  obtain ⟨h,k⟩:=checkW_d hk
  have s6:=h.s6
  have hlen:=k.len
  have hE:safeE p w = (safeT p w,0):=by unfold safeE;rw [if_pos hk]
  rw [hE]
  (repeat' ((try conv=>whnf);first|(with_reducible first|refine wT ?_|refine wF ?_|(refine wI (fun hq=>?_) (fun hq=>?_) <;> try simp only [zA,zE,zD,zJ,zB,zI,wK,wL] at hq)|refine wA ?_|refine wB ?_|refine wC ?_|refine wD ?_|refine wE ?_)|((with_reducible refine wN ?_ ?_);focus exact needA)|(with_reducible refine wG ?_)|(refine FCall.pure (cW) ⟨Ln.sameB _ rfl,Ln.sameB _ rfl,True.intro⟩ rfl ?_)|(with_reducible refine wP ?_)))
  all_goals (try conv=>whnf)
  refine FLoop.of (ACalls.mono _) (X:=Nat) (fun i=>[(6,iOpen f p),(19,aInts z e w),(20,AI w.length),(21,AI i)]) (fun _=>[]) (fun i=>i ≤ w.length ∧ ∀ s,s < i → coveredT p s (w.getD s 0).toNat = true) (fun i=>w.length - i) 0 ⟨⟨Nat.zero_le _,fun k hk=>absurd hk (Nat.not_lt_zero k)⟩,[],Cut.A,allA⟩ ?_
  rintro i ⟨hi,hL⟩
  by_cases hlt:i < w.length
  ·obtain ⟨e1,e2,_⟩:=k.el i hlt
   have cC:=pcovered_ok f p i (w.getD i 0).toNat (by omega) e2 h
   rw [au_of e1] at cC
   have hp8:=pow8 h.n8
   (repeat' ((try conv=>whnf);first|(with_reducible first|refine wT ?_|refine wF ?_|(refine wI (fun hq=>?_) (fun hq=>?_) <;> try simp only [zA,zE,zD,zJ,zB,zI,wK,wL] at hq)|refine wA ?_|refine wB ?_|refine wC ?_|refine wD ?_|refine wE ?_)|((with_reducible refine wN ?_ ?_);focus exact needA)|(with_reducible first|refine FBit.hasT rfl (by assumption) ?_|refine FBit.hasF rfl (by assumption) ?_|refine FBit.shrN rfl (by omega) ?_|refine FBit.half rfl ?_|refine FBit.shl1 rfl (by omega) ?_|refine Fits.inU (by omega) ?_|refine FBit.shrNI rfl (by omega) ?_|refine FBit.shrIN rfl (by omega) (by omega) ?_|refine FBit.shrI rfl (by omega) (by omega) ?_|refine FBit.shl1I rfl (by omega) ?_)|(with_reducible refine FBit.has rfl (fun hq=>?_) (fun hq=>?_))|(with_reducible first|refine FBit.and1 rfl ?_|refine FBit.andN rfl (by omega) (by omega) ?_|refine FBit.orN rfl (by omega) (by omega) ?_|refine FBit.andNotN rfl (by omega) (by omega) ?_)|(with_reducible refine wG ?_)|(refine FCall.pure (cC) ⟨Ln.sameB _ rfl,Ln.sameB _ rfl,Ln.sameB _ rfl,True.intro⟩ rfl ?_)|(with_reducible refine wP ?_)))
   all_goals (try conv=>whnf)
   ·(refine ⟨⟨_,[],[],Cut.nil _,Ln.sameB _ rfl,?_,rfl⟩⟩)
    rw [show safeT p w = false from rall_no hlt hq];rfl
   ·(exact ⟨⟨(i + 1),⟨hlt,below_step hL hq⟩,by show _ < _;omega,[],Cut.A,allA⟩⟩)
  ·obtain rfl:i = w.length:=by omega
   (repeat' ((try conv=>whnf);first|(with_reducible first|refine wT ?_|refine wF ?_|(refine wI (fun hq=>?_) (fun hq=>?_) <;> try simp only [zA,zE,zD,zJ,zB,zI,wK,wL] at hq)|refine wA ?_|refine wB ?_|refine wC ?_|refine wD ?_|refine wE ?_)|((with_reducible refine wN ?_ ?_);focus exact needA)|(with_reducible refine wG ?_)|(with_reducible refine wP ?_)))
   all_goals (try conv=>whnf)
   (refine ⟨⟨_,[],[],Cut.nil _,Ln.sameB _ rfl,?_,rfl⟩⟩)
   rw [show safeT p w = true from rall_yes hL];rfl
 ·have cW:=watched_no (f:=f) (z:=z) (e:=e) hn hw hk
  have hE:safeE p w = (false,checkW p w):=by unfold safeE;rw [if_neg hk]
  rw [hE]
  (repeat' ((try conv=>whnf);first|(with_reducible first|refine wT ?_|refine wF ?_|(refine wI (fun hq=>?_) (fun hq=>?_) <;> try simp only [zA,zE,zD,zJ,zB,zI,wK,wL] at hq)|refine wA ?_|refine wB ?_|refine wC ?_|refine wD ?_|refine wE ?_)|((with_reducible refine wN ?_ ?_);focus exact needA)|(with_reducible refine wG ?_)|(refine FCall.pure (cW) ⟨Ln.sameB _ rfl,Ln.sameB _ rfl,True.intro⟩ rfl ?_)|(with_reducible refine wP ?_)))
  all_goals (try conv=>whnf)
  (refine ⟨⟨_,[],[],Cut.nil _,Ln.sameB _ rfl,?_,rfl⟩⟩)
  rfl
end Go.Proofs.Ytjfldbkjfaopbaa

namespace Go.Proofs.Ytjfldbkjfaopbaa
open Go.RowKit Go.Shelf

attribute [local go_sem] Oper.semAt_some

/-- The parts of a set, the lower ones first. -/
def subs (g:Nat):List Nat:=(List.range (g + 1)).filter fun a=>decide (sdiff a g = 0)
theorem mem_subs {g a:Nat}:a ∈ subs g ↔ ∀ i,a.testBit i = true → g.testBit i = true:=by
 unfold subs
 rw [List.mem_filter,List.mem_range,decide_eq_true_eq,sdiff_z]
 exact ⟨fun h=>h.2,fun h=>⟨by have:=le_of_bits h;omega,h⟩⟩
def nextS (a g:Nat):Nat:=(a + 18446744073709551616 - g) % 18446744073709551616 &&& g
def chkS (g:Nat):List Nat → Bool
 | []=>false
 | [a]=>decide (a = g)
 | a :: b :: t=>decide (a ≠ g) && decide (nextS a g = b) && chkS g (b :: t)
theorem subs_chk : ∀ g,g < 256 → ((subs g).getD 0 1 = 0 ∧ chkS g (subs g) = true):=by
 have:∀ g:_root_.Fin 256,((subs g.val).getD 0 1 = 0 ∧ chkS g.val (subs g.val) = true):=by decide +kernel
 exact fun g h=>this ⟨g,h⟩
theorem chk_at {g:Nat}:∀ {l:List Nat},chkS g l = true → 0 < l.length ∧ ∀ k,k < l.length → (l.getD k 0 = g ↔ k + 1 = l.length) ∧ (k + 1 < l.length → nextS (l.getD k 0) g = l.getD (k + 1) 0)
 | [],h=>by cases h
 | [a],h=>⟨by simp,fun k hk=>by
   obtain rfl:k = 0:=by simp at hk;omega
   have h:a = g:=of_decide_eq_true h
   exact ⟨⟨fun _=>rfl,fun _=>h⟩,fun h2=>by simp at h2⟩⟩
 | a :: b :: t,h=>by
  simp only [chkS,Bool.and_eq_true,decide_eq_true_eq] at h
  obtain ⟨⟨h1,h2⟩,h3⟩:=h
  obtain ⟨_,ih⟩:=chk_at h3
  refine ⟨by simp,fun k hk=>?_⟩
  rcases k with _|k
  ·exact ⟨⟨fun e=>absurd e h1,fun e=>by simp at e⟩,fun _=>h2⟩
  ·have:=ih k (by simpa using hk)
   refine ⟨⟨fun e=>by have:=this.1.1 e;simp at this ⊢;omega,fun e=>this.1.2 (by simp at e ⊢;omega)⟩,fun e=>this.2 (by simp at e ⊢;omega)⟩
theorem subs_at {g:Nat} (hg:g < 256):0 < (subs g).length ∧ (subs g).getD 0 0 = 0 ∧ ∀ k,k < (subs g).length → ((subs g).getD k 0 = g ↔ k + 1 = (subs g).length) ∧ (k + 1 < (subs g).length → nextS ((subs g).getD k 0) g = (subs g).getD (k + 1) 0) ∧ (subs g).getD k 0 ≤ g:=by
 obtain ⟨h1,h2⟩:=subs_chk g hg
 obtain ⟨h3,h4⟩:=chk_at h2
 refine ⟨h3,?_,fun k hk=>⟨(h4 k hk).1,(h4 k hk).2,?_⟩⟩
 ·simpa [List.getD,List.getElem?_eq_getElem h3] using h1
 ·have hm:(subs g).getD k 0 ∈ subs g:=by
   simp only [List.getD,List.getElem?_eq_getElem hk,Option.getD_some]
   exact List.getElem_mem hk
  exact le_of_bits (mem_subs.1 hm)
theorem subs_lt {g k:Nat} (h:k + 1 < (subs g).length):(subs g).getD k 0 < (subs g).getD (k + 1) 0:=by
 have hp:(subs g).Pairwise (· < ·):=List.Pairwise.filter _ List.pairwise_lt_range
 have:=List.pairwise_iff_getElem.1 hp k (k + 1) (by omega) h (by omega)
 simpa [List.getD,List.getElem?_eq_getElem h,List.getElem?_eq_getElem (show k < (subs g).length by omega)] using this
theorem wrap_sub {a g:Nat} (hg:g < 256) (ha:a ≤ g):IntKind.u64.wrap ((a:Int) - (g:Int)) = (((a + 18446744073709551616 - g) % 18446744073709551616:Nat):Int):=by
 simp only [IntKind.wrap,IntKind.bits,IntKind.signed,Bool.false_and,Bool.false_eq_true,if_false]
 omega
theorem next_run {a g:Nat} (ha:a ≤ g) (hg:g < 256):rawBit .and .u64 (IntKind.u64.wrap ((a:Int) - (g:Int))) (g:Int) = (nextS a g:Nat):=by
 rw [wrap_sub hg ha]
 unfold nextS rawBit
 generalize hx:(a + 18446744073709551616 - g) % 18446744073709551616 = x
 have hxl:x < 18446744073709551616:=by omega
 have h1:(BitVec.ofInt 64 (x:Int)).toNat = x:=by rw [BitVec.ofInt_natCast,BitVec.toNat_ofNat];exact Nat.mod_eq_of_lt (by omega)
 have h2:(BitVec.ofInt 64 (g:Int)).toNat = g:=by rw [BitVec.ofInt_natCast,BitVec.toNat_ofNat];exact Nat.mod_eq_of_lt (by omega)
 show IntKind.u64.wrap ((BitVec.ofInt 64 (x:Int) &&& BitVec.ofInt 64 (g:Int)).toNat:Int) = _
 rw [BitVec.toNat_and,h1,h2]
 have:x &&& g ≤ g:=Nat.and_le_right
 exact IntWalk.u64_in _ (by omega)
theorem arr1 {cs:Array Value} {v:Value} {n:Nat} (h:cs.size = n) (hp:cs.getD 0 undef = v) (hn:n = 1:=by rfl):cs = #[v]:=by
 subst hn
 have h0:0 < cs.size:=by omega
 have h1:cs[0] = v:=by simpa [h0] using hp
 apply Array.ext
 ·simpa using h
 ·intro i h2 h3
  obtain rfl:i = 0:=by simp at h3;omega
  simpa using h1
set_option maxRecDepth 100000 in
set_option maxHeartbeats 2000000 in
theorem parts_it (g:Nat) (hg:g < 256):AIterM true Try.prog 45 [AU g] ((List.range (subs g).length).map fun k=>[AU ((subs g).getD k 0)]):=by
 refine ⟨⟨_,Try.func45,by decide,rfl⟩,fun M w0 cs hcs hreps lp J Jx W hW hJ hJx hY h0=>?_⟩
 have hp:cs.getD 0 undef = .int .u64 g:=hreps 0 _ rfl
 obtain rfl:=arr1 hcs hp
 obtain ⟨s1,s2,s3⟩:=subs_at hg
 have s4:=fun k=>subs_lt (g:=g) (k:=k)
 have wn:Wd none = Fence.wide:=rfl
 rw [wn] at hY ⊢
 refine callsIn_of_wp Try.func45 rfl trivial ?_ rfl
 simp only [Try.ntmps45,List.size_toArray,List.length_cons,List.length_nil,Nat.reduceAdd,Nat.reduceSub,Array.replicate_succ,Array.replicate_zero,List.push_toArray,List.append_toArray,List.nil_append,List.cons_append,argsOf]
 clear hp hreps hcs
 generalize hL:subs g = L at *
 clear hL
 gi_wp2
 gi_loopw [4] (fun i wr=>∃ k:Nat,k < L.length ∧ i = .int .u64 (L.getD k 0:Nat) ∧ J k wr ∧ Chg M w0 wr)
  (fun i _=>(g - intOf i).toNat)
 case atStart=>exact ⟨0,s1,by rw [s2];rfl,h0,hW⟩
 case round =>
  obtain ⟨k,hk,rfl,hJk,hck⟩:=hrel
  obtain ⟨t1,t2,t3⟩:=s3 k hk
  obtain ⟨a,ha⟩:∃ a,L.getD k 0 = a:=⟨_,rfl⟩
  rw [ha] at t1 t2 t3 ⊢
  have hnr:bits BinOp.and IntKind.u64 (IntKind.u64.wrap ((a:Int) - (g:Int))) (g:Int) = (nextS a g:Nat):=next_run (g:=g) t3 hg
  obtain ⟨fn,tmps,assign,body,hy,hR⟩:=hY k #[.int .u64 (a:Nat)] wr (by simpa using hk) hJk hck (by simp [List.getD,hk]) (fun i x hx=>by
   simp only [List.getD,List.getElem?_map,List.getElem?_range hk,Option.map_some,Option.getD_some] at hx
   match i,hx with
   | 0,hx=>cases hx;exact congrArg (fun n:Nat=>Value.int .u64 (n:Int)) ha.symm)
  gi_wp2
  refine ⟨rfl,hR.mono ?_⟩
  rintro e W3 (⟨rfl,hJ3,hk3⟩|⟨rfl,hJx3⟩)
  ·by_cases hgk:a = g
   ·gi_wp2
    refine bodyPost_ret (results_none rfl _ _ _) rfl ?_
    exact ⟨⟨_,rfl⟩,.inl (by rw [List.length_map,List.length_range,← t1.1 hgk];exact hJ3)⟩
   ·gi_wp2
    have hk1:k + 1 < L.length:=by
     have:k + 1 ≠ L.length:=fun e=>hgk (t1.2 e)
     omega
    have hn1:=s4 k hk1
    have hn2:=(s3 (k + 1) hk1).2.2
    have hn3:=t2 hk1
    rw [ha] at hn1
    refine ⟨⟨k + 1,hk1,by rw [hn3],hJ3,hck.trans hk3 (fun _ _ h=>h)⟩,?_⟩
    rw [hn3]
    simp only [intOf]
    omega
  ·gi_wp2
   refine bodyPost_ret (results_none rfl _ _ _) rfl ?_
   exact ⟨⟨_,rfl⟩,.inr ⟨k,by simpa using hk,hJx3⟩⟩
end Go.Proofs.Ytjfldbkjfaopbaa

namespace Go.Proofs.Ytjfldbkjfaopbaa
open Go.RowKit

def payTo (p:Pool) (g:Nat):Nat → Int
 | 0=>0
 | k + 1=>payTo p g k + if g.testBit k then p.pay k else 0
def payT (p:Pool) (g:Nat):Int:=payTo p g p.folk.length
theorem payTo_b {p:Pool} (h:PoolOk p) (g:Nat):∀ k,k ≤ p.folk.length → 0 ≤ payTo p g k ∧ payTo p g k ≤ 1000 * k
 | 0,_=>⟨Int.le_refl _,Int.le_refl _⟩
 | k + 1,hk=>by
  have:=payTo_b h g k (by omega)
  have:=(h.folk k (by omega)).2.2
  simp only [payTo,Pool.pay]
  split <;> omega
theorem pay_b {p:Pool} (h:PoolOk p) (g:Nat):0 ≤ payT p g ∧ payT p g ≤ 8000:=by
 have:=payTo_b h g p.folk.length (Nat.le_refl _)
 have:=h.n8
 unfold payT;omega
/-- The sets that cover a slot, the lower ones first. -/
def coversT (p:Pool) (s:Nat):List Nat:=(List.range (2 ^ p.folk.length)).filter fun g=>canT p s g && coveredT p s g
theorem filter_range {q : Nat → Bool} {a : Nat} : ∀ b, a ≤ b → (∀ i, a ≤ i → i < b → q i = false) → (List.range b).filter q = (List.range a).filter q
  | 0, h, _ => by obtain rfl : a = 0 := by omega
                  rfl
  | b + 1, h, hq => by
    by_cases e : a = b + 1
    · subst e; rfl
    · rw [List.range_succ, List.filter_append, filter_range b (by omega) (fun i h1 h2 => hq i h1 (by omega))]
      simp [hq b (by omega) (by omega)]
theorem covers_subs (p:Pool) (s:Nat):(subs (canSet p s p.folk.length)).filter (coveredT p s) = coversT p s:=by
 have hl:=canSet_lt p s p.folk.length
 unfold subs coversT
 rw [List.filter_filter,filter_range (q:=fun g=>canT p s g && coveredT p s g) (a:=canSet p s p.folk.length + 1) _ (by omega) (fun i h1 h2=>by
  have:canT p s i = false:=Bool.eq_false_iff.2 fun hc=>by
   have:=le_of_bits (sdiff_z.1 ((canT_iff h2).1 hc))
   omega
  rw [this];rfl)]
 refine List.filter_congr fun g hg=>?_
 rw [List.mem_range] at hg
 have:decide (sdiff g (canSet p s p.folk.length) = 0) = canT p s g:=by
  rw [Bool.eq_iff_iff,decide_eq_true_eq,canT_iff (by omega)]
 rw [this,Bool.and_comm]
theorem covers_mem {p:Pool} {s g:Nat} (h:g ∈ coversT p s):g < 2 ^ p.folk.length ∧ canT p s g = true ∧ coveredT p s g = true:=by
 unfold coversT at h
 rw [List.mem_filter,List.mem_range,Bool.and_eq_true] at h
 exact ⟨h.1,h.2.1,h.2.2⟩
theorem covers_sorted (p:Pool) (s:Nat):(coversT p s).Pairwise (· < ·):=List.Pairwise.filter _ List.pairwise_lt_range
theorem covers_len (p:Pool) (s:Nat):(coversT p s).length ≤ 2 ^ p.folk.length:=by
 have:=List.length_filter_le (fun g=>canT p s g && coveredT p s g) (List.range (2 ^ p.folk.length))
 simpa [coversT] using this
abbrev aNats (z e:Bool) (l:List Nat):AV:=.sl z e l.length 1 (fun k _=>AU (l.getD k 0))
abbrev outU (l:List Nat):AV:=aNats l.isEmpty l.isEmpty l
abbrev rowN (m:Nat) (l:List Nat):AB:=.row m 1 (fun k _=>AU (l.getD k 0))
theorem isE_n {α:Type} {l:List α} {m:Nat} (h:m + 1 = l.length):l.isEmpty = false:=by cases l <;> first|rfl|cases h
theorem Ln.outU {σ:Nat → Nat → Prop} {Bp:Nat → Prop} {H:List AB} {d m N:Nat} {c:Nat → Nat → AV} {l:List Nat} (h:Bp d) (hd:H[d]? = some (.row N 1 c)) (hn:m + 1 ≤ N) (e:m + 1 = l.length) (hc:∀ k,k < m + 1 → ∀ o,o < 1 → AU (l.getD k 0) = c k o):Ln σ Bp H (.own d (m + 1)) (outU l):=by
 show Ln σ Bp H (.own d (m + 1)) (aNats l.isEmpty l.isEmpty l)
 rw [isE_n e];exact Ln.pubE h hd hn e hc
theorem getN_snoc (l:List Nat) (x k:Nat):(l ++ [x]).getD k 0 = if k < l.length then l.getD k 0 else if k = l.length then x else 0:=by
 simp only [List.getD]
 by_cases h:k < l.length
 ·rw [if_pos h,List.getElem?_append_left h]
 ·rw [if_neg h,List.getElem?_append_right (by omega)]
  by_cases e:k = l.length
  ·subst e;simp
  ·rw [if_neg e,List.getElem?_eq_none (by simp;omega)];rfl
theorem filter_take {q:Nat → Bool} {l:List Nat} {k:Nat} (h:k < l.length):(l.take (k + 1)).filter q = (l.take k).filter q ++ if q (l.getD k 0) then [l.getD k 0] else []:=by
 rw [List.take_add_one,List.filter_append,List.getElem?_eq_getElem h]
 have e:l.getD k 0 = l[k]:=by simp [List.getD,List.getElem?_eq_getElem h]
 rw [e]
 cases hq:q l[k] <;> simp [hq]
/-- The better one of two sets that cover. -/
def stepB (p:Pool) (b g:Nat):Nat:=if payT p g < payT p b ∨ (payT p g = payT p b ∧ pop g < pop b) then g else b
def bestTo (p:Pool) (l:List Nat):Nat → Nat
 | 0=>l.getD 0 0
 | k + 1=>stepB p (bestTo p l k) (l.getD (k + 1) 0)
def bestG (p:Pool) (l:List Nat):Nat:=bestTo p l (l.length - 1)
theorem bestTo_mem (p:Pool) (l:List Nat):∀ k,k < l.length → ∃ i,i ≤ k ∧ bestTo p l k = l.getD i 0
 | 0,h=>⟨0,Nat.le_refl _,rfl⟩
 | k + 1,h=>by
  obtain ⟨i,h1,h2⟩:=bestTo_mem p l k (by omega)
  rw [bestTo,stepB]
  split
  ·exact ⟨k + 1,Nat.le_refl _,rfl⟩
  ·exact ⟨i,by omega,h2⟩
def slotE (p:Pool) (s:Int):Int × Int × Int:=if p.ok then (if inB s 0 (p.needs.length - 1) then (match coversT p s.toNat with|[]=>(0,0,3)|g :: l=>((bestG p (g :: l):Int),payT p (bestG p (g :: l)),0)) else (0,0,1)) else (0,0,100)
set_option maxHeartbeats 4000000
set_option maxRecDepth 100000
theorem cost_ok (f:PoF) (p:Pool) (g:Nat) (h:PoolOk p):ACall Try.prog 47 [iOpen f p,AU g] [] (fun r h=>r = AI (payT p g) ∧ h = []):=by
 have n8:=h.n8
 (refine fcall_of mixed Try.func47 rfl (by decide) (hs:={}) ?k (ac:=?ac) ?c (rs:=?rs) ?r ?l ?H;(case k=>kernel_rfl);(case c=>(conv=>(lhs;cbv)));(case r=>(conv=>(lhs;cbv)));(case l=>exact Nat.le_of_ble_eq_true rfl))
 (repeat' ((try conv=>whnf);first|(with_reducible first|refine wT ?_|refine wF ?_|(refine wI (fun hq=>?_) (fun hq=>?_) <;> try simp only [zA,zE,zD,zJ,zB,zI,wK,wL] at hq)|refine wA ?_|refine wB ?_|refine wC ?_|refine wD ?_|refine wE ?_)|((with_reducible refine wN ?_ ?_);focus exact needA)|(with_reducible refine wG ?_)|(with_reducible refine wP ?_)))
 all_goals (try conv=>whnf)
 refine FLoop.of (ACalls.mono _) (X:=Nat) (fun i=>[(1,AU g),(4,AI (payTo p g i)),(11,aFolks f.zf f.ef p.folk),(12,AI p.folk.length),(13,AI i)]) (fun _=>[]) (fun i=>i ≤ p.folk.length) (fun i=>p.folk.length - i) 0 ⟨Nat.zero_le _,[],Cut.A,allA⟩ ?_
 intro i hi
 have hb:=payTo_b h g i hi
 by_cases hlt:i < p.folk.length
 ·have hf:=(h.folk i hlt).2.2
  have hst:payTo p g (i + 1) = payTo p g i + if g.testBit i then (p.folk.getD i fo0).pay else 0:=rfl
  (repeat' ((try conv=>whnf);first|(with_reducible first|refine wT ?_|refine wF ?_|(refine wI (fun hq=>?_) (fun hq=>?_) <;> try simp only [zA,zE,zD,zJ,zB,zI,wK,wL] at hq)|refine wA ?_|refine wB ?_|refine wC ?_|refine wD ?_|refine wE ?_)|((with_reducible refine wN ?_ ?_);focus exact needA)|(with_reducible refine wG ?_)|(refine FCall.pure ((phas_ok g i (by omega))) ⟨Ln.sameB _ rfl,Ln.sameB _ rfl,True.intro⟩ rfl ?_)|(with_reducible refine wP ?_)))
  all_goals (try conv=>whnf)
  ·rw [hq,if_pos rfl] at hst
   (exact ⟨⟨(i + 1),hlt,by show _ < _;omega,[],Cut.A,allA⟩⟩)
  ·rw [hq,if_neg (by decide)] at hst
   (exact ⟨⟨(i + 1),hlt,by show _ < _;omega,[],Cut.A,allA⟩⟩)
 ·obtain rfl:i = p.folk.length:=by omega
  (repeat' ((try conv=>whnf);first|(with_reducible first|refine wT ?_|refine wF ?_|(refine wI (fun hq=>?_) (fun hq=>?_) <;> try simp only [zA,zE,zD,zJ,zB,zI,wK,wL] at hq)|refine wA ?_|refine wB ?_|refine wC ?_|refine wD ?_|refine wE ?_)|((with_reducible refine wN ?_ ?_);focus exact needA)|(with_reducible refine wG ?_)|(with_reducible refine wP ?_)))
  all_goals (try conv=>whnf)
  (refine ⟨⟨_,[],[],Cut.nil _,Ln.sameB _ rfl,?_,rfl⟩⟩)
  rfl
theorem slot_ok (f:PoF) (p:Pool) (s:Nat) (hs:s < p.needs.length) (h:PoolOk p):ACall Try.prog 28 [iOpen f p,AI s] [] (fun r h=>r = outU (coversT p s) ∧ h = []):=by
 have n8:=h.n8
 have s6:=h.s6
 have hp8:=pow8 n8
 have hcl:=canSet_lt p s p.folk.length
 have hit:=parts_it (canSet p s p.folk.length) (by omega)
 have hcs:=covers_subs p s
 have hcv:∀ k,k < (subs (canSet p s p.folk.length)).length → (subs (canSet p s p.folk.length)).getD k 0 < 2 ^ p.folk.length:=fun k hk=>by
  have:=((subs_at (g:=canSet p s p.folk.length) (by omega)).2.2 k hk).2.2
  omega
 have hsl:(subs (canSet p s p.folk.length)).length ≤ 256:=by
  have:=List.length_filter_le (fun a=>decide (sdiff a (canSet p s p.folk.length) = 0)) (List.range (canSet p s p.folk.length + 1))
  simp only [List.length_range] at this
  unfold subs;omega
 (refine fcall_of mixed Try.func28 rfl (by decide) (hs:={}) ?k (ac:=?ac) ?c (rs:=?rs) ?r ?l ?H;(case k=>kernel_rfl);(case c=>(conv=>(lhs;cbv)));(case r=>(conv=>(lhs;cbv)));(case l=>exact Nat.le_of_ble_eq_true rfl))
 (repeat' ((try conv=>whnf);first|(with_reducible first|refine wT ?_|refine wF ?_|(refine wI (fun hq=>?_) (fun hq=>?_) <;> try simp only [zA,zE,zD,zJ,zB,zI,wK,wL] at hq)|refine wA ?_|refine wB ?_|refine wC ?_|refine wD ?_|refine wE ?_)|((with_reducible refine wN ?_ ?_);focus exact needA)|(with_reducible refine wG ?_)|(refine FCall.pure ((can_ok f p s (by omega) h)) ⟨Ln.sameB _ rfl,Ln.sameB _ rfl,True.intro⟩ rfl ?_)|(with_reducible refine wP ?_)))
 all_goals (try conv=>whnf)
 generalize subs (canSet p s p.folk.length) = L at *
 refine FRange.ofM (ACalls.mono _) (X:=Nat × List Nat) L.length (fun k=>[AU (L.getD k 0)]) (fun x=>[(2,.ptr 0 0),(3,.ptr 1 0),(5,.ptr 2 0),(10,.mv 45 1 (ofL [AU (canSet p s p.folk.length)]))]) (fun x=>match x.1 with
  | 0=>[.box 1 (ofL [iOpen f p]),.box 1 (ofL [AI s]),.box 1 (ofL [nilS])]
  | m + 1=>[.box 1 (ofL [iOpen f p]),.box 1 (ofL [AI s]),.box 1 (ofL [.own 3 (m + 1)]),rowN (m + 1) x.2])
  (fun k x=>x.1 = x.2.length ∧ x.2 = (L.take k).filter (coveredT p s) ∧ x.1 ≤ k) (0,[]) ⟨⟨rfl,rfl,Nat.le_refl _⟩,[0,1,2],Cut.A,allA⟩ rfl rfl hit (fun _ _=>rfl) ?round ?done
 case round =>
  rintro k ⟨m,l⟩ hk ⟨hm,hl,hmk⟩
  change m = l.length at hm
  change l = (L.take k).filter (coveredT p s) at hl
  change m ≤ k at hmk
  have hft:=filter_take (q:=coveredT p s) hk
  rw [← hl] at hft
  have hx:=hcv k hk
  have hml:m + 1 = (l ++ [L.getD k 0]).length:=by rw [List.length_append,hm];rfl
  dsimp only
  cases hc:coveredT p s (L.getD k 0)
  ·have cC:=pcovered_ok f p s (L.getD k 0) hs hx h
   rw [hc] at cC
   rw [hc,if_neg (by decide),List.append_nil] at hft
   rcases m with _|m
   ·(repeat' ((try conv=>whnf);first|(with_reducible first|refine wT ?_|refine wF ?_|(refine wI (fun hq=>?_) (fun hq=>?_) <;> try simp only [zA,zE,zD,zJ,zB,zI,wK,wL] at hq)|refine wA ?_|refine wB ?_|refine wC ?_|refine wD ?_|refine wE ?_)|((with_reducible refine wN ?_ ?_);focus exact needA)|(with_reducible refine wG ?_)|(refine FCall.pure (cC) ⟨Ln.sameB _ rfl,Ln.sameB _ rfl,Ln.sameB _ rfl,True.intro⟩ rfl ?_)|(with_reducible refine wP ?_)))
    all_goals (try conv=>whnf)
    (refine ⟨⟨(0,l),⟨hm,hft.symm,Nat.zero_le _⟩,[0,1,2],Cut.A,allA⟩⟩)
   ·(repeat' ((try conv=>whnf);first|(with_reducible first|refine wT ?_|refine wF ?_|(refine wI (fun hq=>?_) (fun hq=>?_) <;> try simp only [zA,zE,zD,zJ,zB,zI,wK,wL] at hq)|refine wA ?_|refine wB ?_|refine wC ?_|refine wD ?_|refine wE ?_)|((with_reducible refine wN ?_ ?_);focus exact needA)|(with_reducible refine wG ?_)|(refine FCall.pure (cC) ⟨Ln.sameB _ rfl,Ln.sameB _ rfl,Ln.sameB _ rfl,True.intro⟩ rfl ?_)|(with_reducible refine wP ?_)))
    all_goals (try conv=>whnf)
    (refine ⟨⟨(m + 1,l),⟨hm,hft.symm,Nat.le_succ_of_le hmk⟩,[0,1,2,3],Cut.A,allA⟩⟩)
  ·have cC:=pcovered_ok f p s (L.getD k 0) hs hx h
   rw [hc] at cC
   rw [hc,if_pos rfl] at hft
   rcases m with _|m
   ·obtain rfl:l = []:=List.length_eq_zero_iff.1 hm.symm
    (repeat' ((try conv=>whnf);first|(with_reducible first|refine wT ?_|refine wF ?_|(refine wI (fun hq=>?_) (fun hq=>?_) <;> try simp only [zA,zE,zD,zJ,zB,zI,wK,wL] at hq)|refine wA ?_|refine wB ?_|refine wC ?_|refine wD ?_|refine wE ?_)|((with_reducible refine wN ?_ ?_);focus exact needA)|(with_reducible refine wG ?_)|(refine FCall.pure (cC) ⟨Ln.sameB _ rfl,Ln.sameB _ rfl,Ln.sameB _ rfl,True.intro⟩ rfl ?_)|(with_reducible refine wP ?_)))
    all_goals (try conv=>whnf)
    (exact ⟨⟨(1,[] ++ [L.getD k 0]),⟨hml,hft.symm,Nat.succ_le_succ hmk⟩,[0,1,2,3],(by (refine wO rfl rfl rfl ?_;repeat (first|exact wX|(refine wV rfl (by first|exact LnB.rowS|exact LnB.app (fun k hk=>absurd hk (Nat.not_lt_zero k)) (fun _ _=>rfl)|exact LnB.A) ?_)|(refine CutL.gone (Nat.lt_of_lt_of_le (Nat.lt_succ_self _) (Nat.le_of_ble_eq_true rfl)) ?_)))),allA⟩⟩)
   ·(repeat' ((try conv=>whnf);first|(with_reducible first|refine wT ?_|refine wF ?_|(refine wI (fun hq=>?_) (fun hq=>?_) <;> try simp only [zA,zE,zD,zJ,zB,zI,wK,wL] at hq)|refine wA ?_|refine wB ?_|refine wC ?_|refine wD ?_|refine wE ?_)|((with_reducible refine wN ?_ ?_);focus exact needA)|(with_reducible refine wG ?_)|(refine FCall.pure (cC) ⟨Ln.sameB _ rfl,Ln.sameB _ rfl,Ln.sameB _ rfl,True.intro⟩ rfl ?_)|(with_reducible refine wP ?_)))
    all_goals (try conv=>whnf)
    (exact ⟨⟨(m + 2,l ++ [L.getD k 0]),⟨hml,hft.symm,Nat.succ_le_succ hmk⟩,[0,1,2,4],(by (refine wO rfl rfl rfl ?_;repeat (first|exact wX|(refine wV rfl (by first|exact LnB.rowS|exact LnB.app (fun k hk o ho=>int_eq (by rw [getN_snoc,if_pos (by omega)])) (fun o ho=>by show AU _ = AU _;exact int_eq (by rw [getN_snoc,if_neg (by omega),if_pos (by omega)]))|exact LnB.A) ?_)|(refine CutL.gone (Nat.lt_of_lt_of_le (Nat.lt_succ_self _) (Nat.le_of_ble_eq_true rfl)) ?_)))),allA⟩⟩)
 case done =>
  rintro ⟨m,l⟩ ⟨hm,hl,hmk⟩
  change m = l.length at hm
  change l = (L.take L.length).filter (coveredT p s) at hl
  rw [List.take_length,hcs] at hl
  rw [← hl]
  dsimp only
  rcases m with _|m
  ·obtain rfl:l = []:=List.length_eq_zero_iff.1 hm.symm
   (repeat' ((try conv=>whnf);first|(with_reducible first|refine wT ?_|refine wF ?_|(refine wI (fun hq=>?_) (fun hq=>?_) <;> try simp only [zA,zE,zD,zJ,zB,zI,wK,wL] at hq)|refine wA ?_|refine wB ?_|refine wC ?_|refine wD ?_|refine wE ?_)|((with_reducible refine wN ?_ ?_);focus exact needA)|(with_reducible refine wG ?_)|(with_reducible refine wP ?_)))
   all_goals (try conv=>whnf)
   exact ⟨⟨outU [],[],[],Cut.nil _,Ln.slz _ _ _ _ _ _ _ (by decide),rfl,rfl⟩⟩
  ·(repeat' ((try conv=>whnf);first|(with_reducible first|refine wT ?_|refine wF ?_|(refine wI (fun hq=>?_) (fun hq=>?_) <;> try simp only [zA,zE,zD,zJ,zB,zI,wK,wL] at hq)|refine wA ?_|refine wB ?_|refine wC ?_|refine wD ?_|refine wE ?_)|((with_reducible refine wN ?_ ?_);focus exact needA)|(with_reducible refine wG ?_)|(with_reducible refine wP ?_)))
   all_goals (try conv=>whnf)
   exact ⟨⟨outU l,[],[],Cut.nil _,Ln.outU (goneB rfl) rfl (Nat.le_refl _) hm (fun _ _ _ _=>rfl),rfl,rfl⟩⟩
end Go.Proofs.Ytjfldbkjfaopbaa

namespace Go.Proofs.Ytjfldbkjfaopbaa
open Go.RowKit

abbrev iP (f:PoF) (p:Pool):AV:=.ip 1 (ofL [iOpen f p]) 0
def orI (a b c:Int):Int:=if a ≠ 0 then a else if b ≠ 0 then b else c
def cmpU (a b:Nat):Int:=if a < b then -1 else if b < a then 1 else 0
def cmpS (p:Pool) (a b:Nat):Int:=orI (payT p a - payT p b) ((pop a:Int) - pop b) (cmpU a b)
theorem cmpS_b {p:Pool} {a b:Nat} (h:b < a):cmpS p a b < 0 ↔ (payT p a < payT p b ∨ (payT p a = payT p b ∧ pop a < pop b)):=by
 unfold cmpS orI cmpU
 rw [if_neg (show ¬ a < b by omega),if_pos h]
 split
 ·omega
 ·split <;> omega
theorem sorted_get {l:List Nat} (h:l.Pairwise (· < ·)) {i j:Nat} (hij:i < j) (hj:j < l.length):l.getD i 0 < l.getD j 0:=by
 have:=List.pairwise_iff_getElem.1 h i j (by omega) hj hij
 simpa [List.getD,List.getElem?_eq_getElem hj,List.getElem?_eq_getElem (show i < l.length by omega)] using this
theorem Ln.lit3 {σ:Nat → Nat → Prop} {Bp:Nat → Prop} {H:List AB} {c:Nat → Nat → AV} {a b x:Int} (h0:c 0 0 = AI a) (h1:c 1 0 = AI b) (h2:c 2 0 = AI x):Ln σ Bp H (.sl false true 3 1 c) (aInts false true [a,b,x]) :=
 Ln.sl _ _ _ _ _ _ _ (fun h=>h) fun k hk o ho=>by
  obtain rfl:o = 0:=by omega
  rcases (show k = 0 ∨ k = 1 ∨ k = 2 by omega) with rfl|rfl|rfl
  ·exact h0.symm
  ·exact h1.symm
  ·exact h2.symm
theorem getD_memN {l:List Nat} {i:Nat} (h:i < l.length):l.getD i 0 ∈ l:=by
 simp [List.getD,List.getElem?_eq_getElem h]
set_option maxHeartbeats 4000000
set_option maxRecDepth 100000
end Go.Proofs.Ytjfldbkjfaopbaa

namespace Go.Proofs.Ytjfldbkjfaopbaa
open Go.RowKit

def isMiss (p:Pool) (s g i:Nat):Bool:=coveredT p s g && !coveredT p s (sdiff g (2 ^ i))
def missTo (p:Pool) (w:List Int) (i:Nat):Nat → Nat
 | 0=>0
 | s + 1=>missTo p w i s + if isMiss p s (w.getD s 0).toNat i then 1 else 0
theorem missTo_le (p:Pool) (w:List Int) (i:Nat):∀ s,missTo p w i s ≤ s
 | 0=>Nat.le_refl _
 | s + 1=>by have:=missTo_le p w i s;simp only [missTo];split <;> omega
def missL (p:Pool) (w:List Int):List Int:=(List.range p.folk.length).map fun i=>((missTo p w i w.length:Nat):Int)
def missedE (p:Pool) (w:List Int):List Int × Int:=if checkW p w = 0 then (missL p w,0) else ([],checkW p w)
abbrev outI (l:List Int):AV:=aInts l.isEmpty l.isEmpty l
theorem outI_of {l:List Int} {m:Nat} (h:m + 1 = l.length):outI l = aInts false false l:=by
 show aInts l.isEmpty l.isEmpty l = _
 rw [isE_n h]
theorem missL_len (p:Pool) (w:List Int):(missL p w).length = p.folk.length:=by simp [missL]
theorem missL_get {p:Pool} {w:List Int} {i:Nat} (h:i < p.folk.length):(missL p w).getD i 0 = (missTo p w i w.length:Nat):=by simp [missL,List.getD,h]
def missAt (p:Pool) (w:List Int) (s i k:Nat):Int:=if k < i then (missTo p w k (s + 1):Int) else (missTo p w k s:Int)
theorem sdiff_pow_lt {p:Pool} {g i:Nat} (h:g < 2 ^ p.folk.length):sdiff g (2 ^ i) < 2 ^ p.folk.length:=sdiff_lt h
set_option maxHeartbeats 4000000
set_option maxRecDepth 100000
end Go.Proofs.Ytjfldbkjfaopbaa
