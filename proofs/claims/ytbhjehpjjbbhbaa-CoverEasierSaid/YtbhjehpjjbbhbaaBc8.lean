/- Cover: the program's watched, Safe, Ready. / Cover: the program's Safe, Ready; the iterator parts. / Cover: the iterator parts. / Cover: the program's slot, cost, Slot. / Cover: the program's Slot, Missed. / Cover: the program's Missed, Weakest. / Cover: the program's Weakest. / Cover: the program's search for a watch. -/
import Derived.Test.YtbhjehpjjbbhbaaBc7
import Derived.RangeFuncNested
import Derived.RangeFuncBound
import Derived.RangeFuncCalls
import Derived.RangeFuncLeaves
import Derived.Shelf.Abstract
import Derived.Shelf.RegionOpen
import Derived.WalkKit
import Derived.OwnWalkIn
import Derived.TacticsInMore
import Derived.LoopNIn
import Derived.LoopIn
set_option linter.unusedSimpArgs false
set_option linter.unusedVariables false
namespace Go.Proofs.Ytbhjehpjjbbhbaa
open Go.RowKit

def maxTo (l:List Int):Nat → Int
 | 0=>l.getD 0 0
 | k + 1=>max (maxTo l k) (l.getD (k + 1) 0)
theorem maxTo_le {l:List Int} {x:Int}:∀ k,maxTo l k ≤ x ↔ ∀ i,i ≤ k → l.getD i 0 ≤ x
 | 0=>by simp only [maxTo];exact ⟨fun h i hi=>by obtain rfl:i = 0:=(by omega);exact h,fun h=>h 0 (Nat.le_refl _)⟩
 | k + 1=>by
  rw [maxTo,Int.max_le,maxTo_le k]
  constructor
  ·rintro ⟨h1,h2⟩ i hi
   rcases Nat.eq_or_lt_of_le hi with e|e
   ·subst e;exact h2
   ·exact h1 i (by omega)
  ·intro h
   exact ⟨fun i hi=>h i (by omega),h (k + 1) (Nat.le_refl _)⟩
/-- In how many of the slots before one each of the first people is, and of the others one slot less. -/
def onAt (w:List Int) (s i k:Nat):Int:=if k < i then (onTo w k (s + 1):Int) else (onTo w k s:Int)
theorem canBe_iff {p:Pool} {s m:Nat}:canBe p s (m:Int) = true ↔ sdiff m (canSet p s p.folk.length) = 0:=by
 unfold canBe
 rw [Int.toNat_natCast,Bool.and_eq_true]
 simp only [inB,decide_eq_true_eq]
 constructor
 ·rintro ⟨h1,h2⟩;exact (canT_iff (by omega)).1 h2
 ·intro h
  have hl:m < 2 ^ p.folk.length:=lt_of_bits fun i hi=>bit_lt (canSet_lt p s _) (sdiff_z.1 h i hi)
  exact ⟨by omega,(canT_iff hl).2 h⟩
theorem watch_no {p:Pool} {w:List Int} {s:Nat} (h:p.ok = true) (hs:s < w.length) (hb:canBe p s (w.getD s 0) = false):checkW p w = 101:=by
 have:isWatch p w = false:=by unfold isWatch;rw [rall_no hs hb,Bool.and_false,Bool.false_and]
 unfold checkW;rw [h,this];rfl
theorem watch_len {p:Pool} {w:List Int} (h:p.ok = true) (hl:w.length ≠ p.needs.length):checkW p w = 101:=by
 have:isWatch p w = false:=by unfold isWatch;rw [decide_eq_false hl];rfl
 unfold checkW;rw [h,this];rfl
theorem checkW_n {p:Pool} {w:List Int} (h:checkP p ≠ 0):checkW p w = checkP p:=by
 unfold checkW checkP at *
 cases hk:p.ok
 ·rfl
 ·rw [hk] at h;exact absurd rfl h
set_option maxHeartbeats 4000000
set_option maxRecDepth 100000
theorem max_ok (l:List Int) (d n:Nat) (hl:l.length = n + 1) (hn:n ≤ 1000):ACall Try.prog 74 [aInts false false l] [] (fun r h=>r = AI (maxTo l n) ∧ h = []):=by
 (refine fcall_of mixed Try.func74 rfl (by decide) (hs:={}) ?k (ac:=?ac) ?c (rs:=?rs) ?r ?l ?H;(case k=>kernel_rfl);(case c=>(conv=>(lhs;cbv)));(case r=>(conv=>(lhs;cbv)));(case l=>exact Nat.le_of_ble_eq_true rfl))
 (repeat' ((try conv=>whnf);first|(with_reducible first|refine wT ?_|refine wF ?_|(refine wI (fun hq=>?_) (fun hq=>?_) <;> try simp only [zA,zE,zD,zJ,zB,zI,wK,wL] at hq)|refine wA ?_|refine wB ?_|refine wC ?_|refine wD ?_|refine wE ?_)|((with_reducible refine wN ?_ ?_);focus exact needA)|(with_reducible refine wG ?_)|(with_reducible refine wP ?_)))
 all_goals (try conv=>whnf)
 refine FLoop.of (ACalls.mono _) (X:=Nat) (fun i=>[(0,aInts false false l),(3,AI (maxTo l i)),(4,AI (i + 1:Nat))]) (fun _=>[]) (fun i=>i ≤ n) (fun i=>n - i) 0 ⟨Nat.zero_le _,[],Cut.A,allA⟩ ?_
 intro i hi
 by_cases hlt:i < n
 ·(repeat' ((try conv=>whnf);first|(with_reducible first|refine wT ?_|refine wF ?_|(refine wI (fun hq=>?_) (fun hq=>?_) <;> try simp only [zA,zE,zD,zJ,zB,zI,wK,wL] at hq)|refine wA ?_|refine wB ?_|refine wC ?_|refine wD ?_|refine wE ?_)|((with_reducible refine wN ?_ ?_);focus exact needA)|(with_reducible refine wG ?_)|(with_reducible refine wP ?_)))
  all_goals (try conv=>whnf)
  have hst:maxTo l (i + 1) = max (maxTo l i) (l.getD (i + 1) 0):=rfl
  (exact ⟨⟨(i + 1),hlt,by show _ < _;omega,[],Cut.A,allA⟩⟩)
 ·obtain rfl:i = n:=by omega
  (repeat' ((try conv=>whnf);first|(with_reducible first|refine wT ?_|refine wF ?_|(refine wI (fun hq=>?_) (fun hq=>?_) <;> try simp only [zA,zE,zD,zJ,zB,zI,wK,wL] at hq)|refine wA ?_|refine wB ?_|refine wC ?_|refine wD ?_|refine wE ?_)|((with_reducible refine wN ?_ ?_);focus exact needA)|(with_reducible refine wG ?_)|(with_reducible refine wP ?_)))
  all_goals (try conv=>whnf)
  (refine ⟨⟨_,[],[],Cut.nil _,Ln.sameB _ rfl,?_,rfl⟩⟩)
  rfl
theorem watched_n (f:PoF) (p:Pool) (z e:Bool) (w:List Int) (hn:NearP p) (h0:checkP p ≠ 0):ACall Try.prog 48 [aPool f p,aInts z e w] [] (fun r h=>r = .tup 2 (ofL [.nilp,AI (checkW p w)]) ∧ h = []):=by
 have cO:=open_n f p hn h0
 (refine fcall_of mixed Try.func48 rfl (by decide) (hs:={ pub:=[18],ord:=[(18,[(0,[]),(2,[]),(3,[]),(1,[3]),(4,[])])] }) ?k (ac:=?ac) ?c (rs:=?rs) ?r ?l ?H;(case k=>kernel_rfl);(case c=>(conv=>(lhs;cbv)));(case r=>(conv=>(lhs;cbv)));(case l=>exact Nat.le_of_ble_eq_true rfl))
 (repeat' ((try conv=>whnf);first|(with_reducible first|refine wT ?_|refine wF ?_|(refine wI (fun hq=>?_) (fun hq=>?_) <;> try simp only [zA,zE,zD,zJ,zB,zI,wK,wL] at hq)|refine wA ?_|refine wB ?_|refine wC ?_|refine wD ?_|refine wE ?_)|((with_reducible refine wN ?_ ?_);focus exact needA)|(with_reducible refine wG ?_)|(refine FCall.pure (cO) ⟨Ln.sameB _ rfl,True.intro⟩ rfl ?_)|(with_reducible refine wP ?_)))
 all_goals (try conv=>whnf)
 (refine ⟨⟨_,[],[],Cut.nil _,Ln.sameB _ rfl,?_,rfl⟩⟩)
 rw [checkW_n h0];rfl
theorem watched_y (f:PoF) (p:Pool) (z e:Bool) (w:List Int) (hn:NearP p) (hw:∀ s,s < w.length → in64 (w.getD s 0)) (hk:p.ok = true):ACall Try.prog 48 [aPool f p,aInts z e w] [] (fun r h=>r = .tup 2 (ofL [if checkW p w = 0 then iOpen f p else .nilp,AI (checkW p w)]) ∧ h = []):=by
 have cO:=open_y f p hn (check_0.2 hk)
 have h:=pool_d hk
 have n8:=h.n8
 have s6:=h.s6
 have n1:=h.n1
 (refine fcall_of mixed Try.func48 rfl (by decide) (hs:={ pub:=[18],ord:=[(18,[(0,[]),(2,[]),(3,[]),(1,[3]),(4,[])])] }) ?k (ac:=?ac) ?c (rs:=?rs) ?r ?l ?H;(case k=>kernel_rfl);(case c=>(conv=>(lhs;cbv)));(case r=>(conv=>(lhs;cbv)));(case l=>exact Nat.le_of_ble_eq_true rfl))
 (repeat' ((try conv=>whnf);first|(with_reducible first|refine wT ?_|refine wF ?_|(refine wI (fun hq=>?_) (fun hq=>?_) <;> try simp only [zA,zE,zD,zJ,zB,zI,wK,wL] at hq)|refine wA ?_|refine wB ?_|refine wC ?_|refine wD ?_|refine wE ?_)|((with_reducible refine wN ?_ ?_);focus exact needA)|(with_reducible refine wG ?_)|(refine FCall.pure (cO) ⟨Ln.sameB _ rfl,True.intro⟩ rfl ?_)|(with_reducible refine wP ?_)))
 all_goals (try conv=>whnf)
 ·(refine ⟨⟨_,[],[],Cut.nil _,Ln.sameB _ rfl,?_,rfl⟩⟩)
  rw [watch_len hk (by omega)];rfl
 ·have hl:w.length = p.needs.length:=by omega
  obtain ⟨n,hN⟩:∃ n,p.folk.length = n + 1:=⟨p.folk.length - 1,by omega⟩
  refine FLoop.of (ACalls.mono _) (X:=Nat) (fun s=>[(2,.ptr 0 0),(6,iOpen f p),(8,.own 1 p.folk.length),(30,aInts z e w),(31,AI w.length),(32,AI s)]) (fun s=>[.box 4 (cPool f p),rowZ p.folk.length (fun k=>(onTo w k s:Nat))]) (fun s=>s ≤ w.length ∧ ∀ k,k < s → canBe p k (w.getD k 0) = true) (fun s=>w.length - s) 0 ⟨⟨Nat.zero_le _,fun k hk=>absurd hk (Nat.not_lt_zero k)⟩,[0,1],wO rfl rfl rfl (wV rfl LnB.A (wV rfl (LnB.rowE (by omega) (fun k hk o ho=>by obtain rfl:o = 0:=(by omega);rfl)) wX)),allA⟩ ?_
  rintro s ⟨hs,hL⟩
  by_cases hlt:s < w.length
  ·have hi:=hw s hlt
   unfold in64 at hi
   by_cases h0:0 ≤ w.getD s 0
   ·obtain ⟨m,hm⟩:∃ m:Nat,w.getD s 0 = m:=⟨(w.getD s 0).toNat,by omega⟩
    have hcs:=canSet_lt p s p.folk.length
    have hp8:=pow8 n8
    (repeat' ((try conv=>whnf);first|(with_reducible first|refine wT ?_|refine wF ?_|(refine wI (fun hq=>?_) (fun hq=>?_) <;> try simp only [zA,zE,zD,zJ,zB,zI,wK,wL] at hq)|refine wA ?_|refine wB ?_|refine wC ?_|refine wD ?_|refine wE ?_)|((with_reducible refine wN ?_ ?_);focus exact needA)|(with_reducible first|refine FBit.hasT rfl (by assumption) ?_|refine FBit.hasF rfl (by assumption) ?_|refine FBit.shrN rfl (by omega) ?_|refine FBit.half rfl ?_|refine FBit.shl1 rfl (by omega) ?_|refine Fits.inU (by omega) ?_|refine FBit.shrNI rfl (by omega) ?_|refine FBit.shrIN rfl (by omega) (by omega) ?_|refine FBit.shrI rfl (by omega) (by omega) ?_|refine FBit.shl1I rfl (by omega) ?_)|(with_reducible refine FBit.has rfl (fun hq=>?_) (fun hq=>?_))|(with_reducible first|refine FBit.and1 rfl ?_|refine FBit.andN rfl (by omega) (by omega) ?_|refine FBit.orN rfl (by omega) (by omega) ?_|refine FBit.andNotN rfl (by omega) (by omega) ?_)|(with_reducible refine wG ?_)|(refine FCall.pure ((can_ok f p s (by omega) h)) ⟨Ln.sameB _ rfl,Ln.sameB _ rfl,True.intro⟩ rfl ?_)|(refine FBit.andNotI rfl hm rfl (by omega) (by omega) ?_)|(with_reducible refine wP ?_)))
    all_goals (try conv=>whnf)
    ·have hb:canBe p s (w.getD s 0) = false:=Bool.eq_false_iff.2 fun hh=>by
      rw [hm] at hh
      have:=canBe_iff.1 hh
      omega
     (refine ⟨⟨_,[],[],Cut.nil _,Ln.sameB _ rfl,?_,rfl⟩⟩)
     rw [watch_no hk hlt hb];rfl
    ·have hb:canBe p s (w.getD s 0) = true:=by rw [hm];exact canBe_iff.2 (by omega)
     refine FLoop.of (ACalls.mono _) (X:=Nat) (fun i=>[(2,.ptr 0 0),(6,iOpen f p),(8,.own 1 p.folk.length),(10,AI m),(30,aInts z e w),(31,AI w.length),(32,AI s),(49,AI p.folk.length),(50,AI i)]) (fun i=>[.box 4 (cPool f p),rowZ p.folk.length (onAt w s i)]) (fun i=>i ≤ p.folk.length) (fun i=>p.folk.length - i) 0 ⟨Nat.zero_le _,[0,1],wO rfl rfl rfl (wV rfl LnB.A (wV rfl (LnB.rowE (Nat.le_refl _) (fun k hk o ho=>int_eq (if_neg (Nat.not_lt_zero k)))) wX)),allA⟩ ?_
     intro i hi2
     by_cases hlt2:i < p.folk.length
     ·have hle:=onTo_le w i s
      have hst:onTo w i (s + 1) = onTo w i s + if m.testBit i then 1 else 0:=by rw [onTo,hm,Int.toNat_natCast]
      have hat:onAt w s i i = (onTo w i s:Nat):=if_neg (Nat.lt_irrefl i)
      have hrowN:∀ x,x = (onTo w i (s + 1):Int) → ∀ k,k < p.folk.length → ∀ o,o < 1 → AI (onAt w s (i + 1) k) = updRm (fun k x=>AI (onAt w s i k)) i (fun _=>AI x) k o:=fun x hx k hk o ho=>by
       subst hx
       simp only [updRm,onAt]
       by_cases e:k = i
       ·subst e;rw [if_pos (by omega),if_pos rfl]
       ·rw [if_neg e]
        by_cases e2:k < i
        ·rw [if_pos (by omega),if_pos e2]
        ·rw [if_neg (by omega),if_neg e2]
      (repeat' ((try conv=>whnf);first|(with_reducible first|refine wT ?_|refine wF ?_|(refine wI (fun hq=>?_) (fun hq=>?_) <;> try simp only [zA,zE,zD,zJ,zB,zI,wK,wL] at hq)|refine wA ?_|refine wB ?_|refine wC ?_|refine wD ?_|refine wE ?_)|((with_reducible refine wN ?_ ?_);focus exact needA)|(with_reducible first|refine FBit.hasT rfl (by assumption) ?_|refine FBit.hasF rfl (by assumption) ?_|refine FBit.shrN rfl (by omega) ?_|refine FBit.half rfl ?_|refine FBit.shl1 rfl (by omega) ?_|refine Fits.inU (by omega) ?_|refine FBit.shrNI rfl (by omega) ?_|refine FBit.shrIN rfl (by omega) (by omega) ?_|refine FBit.shrI rfl (by omega) (by omega) ?_|refine FBit.shl1I rfl (by omega) ?_)|(with_reducible refine FBit.has rfl (fun hq=>?_) (fun hq=>?_))|(with_reducible first|refine FBit.and1 rfl ?_|refine FBit.andN rfl (by omega) (by omega) ?_|refine FBit.orN rfl (by omega) (by omega) ?_|refine FBit.andNotN rfl (by omega) (by omega) ?_)|(with_reducible refine wG ?_)|(with_reducible refine wP ?_)))
      all_goals (try conv=>whnf)
      ·rw [hq,if_pos rfl] at hst
       (exact ⟨⟨(i + 1),hlt2,by show _ < _;omega,[0,1],(by (refine wO rfl rfl rfl ?_;repeat (first|exact wX|(refine wV rfl (by first|exact LnB.rowS|exact LnB.rowE (Nat.le_refl _) (hrowN _ (by omega))|exact LnB.A) ?_)|(refine CutL.gone (Nat.lt_of_lt_of_le (Nat.lt_succ_self _) (Nat.le_of_ble_eq_true rfl)) ?_)))),allA⟩⟩)
      ·rw [hq,if_neg (by decide)] at hst
       (exact ⟨⟨(i + 1),hlt2,by show _ < _;omega,[0,1],(by (refine wO rfl rfl rfl ?_;repeat (first|exact wX|(refine wV rfl (by first|exact LnB.rowS|exact LnB.rowE (Nat.le_refl _) (hrowN _ (by omega))|exact LnB.A) ?_)|(refine CutL.gone (Nat.lt_of_lt_of_le (Nat.lt_succ_self _) (Nat.le_of_ble_eq_true rfl)) ?_)))),allA⟩⟩)
     ·obtain rfl:i = p.folk.length:=by omega
      (repeat' ((try conv=>whnf);first|(with_reducible first|refine wT ?_|refine wF ?_|(refine wI (fun hq=>?_) (fun hq=>?_) <;> try simp only [zA,zE,zD,zJ,zB,zI,wK,wL] at hq)|refine wA ?_|refine wB ?_|refine wC ?_|refine wD ?_|refine wE ?_)|((with_reducible refine wN ?_ ?_);focus exact needA)|(with_reducible refine wG ?_)|(with_reducible refine wP ?_)))
      all_goals (try conv=>whnf)
      (exact ⟨⟨(s + 1),⟨hlt,below_step hL hb⟩,by show _ < _;omega,[0,1],(by (refine wO rfl rfl rfl ?_;repeat (first|exact wX|(refine wV rfl (by first|exact LnB.rowS|exact LnB.rowE (Nat.le_refl _) (fun k hk o ho=>int_eq (if_pos hk).symm)|exact LnB.A) ?_)|(refine CutL.gone (Nat.lt_of_lt_of_le (Nat.lt_succ_self _) (Nat.le_of_ble_eq_true rfl)) ?_)))),allA⟩⟩)
   ·have hb:canBe p s (w.getD s 0) = false:=by unfold canBe;rw [show inB (w.getD s 0) 0 ((2 ^ p.folk.length:Nat) - 1) = false from decide_eq_false (by omega)];rfl
    (repeat' ((try conv=>whnf);first|(with_reducible first|refine wT ?_|refine wF ?_|(refine wI (fun hq=>?_) (fun hq=>?_) <;> try simp only [zA,zE,zD,zJ,zB,zI,wK,wL] at hq)|refine wA ?_|refine wB ?_|refine wC ?_|refine wD ?_|refine wE ?_)|((with_reducible refine wN ?_ ?_);focus exact needA)|(with_reducible refine wG ?_)|(with_reducible refine wP ?_)))
    all_goals (try conv=>whnf)
    (refine ⟨⟨_,[],[],Cut.nil _,Ln.sameB _ rfl,?_,rfl⟩⟩)
    rw [watch_no hk hlt hb];rfl
  ·obtain rfl:s = w.length:=by omega
   obtain ⟨l,hl1,hl2⟩:∃ l:List Int,l.length = p.folk.length ∧ ∀ i,i < p.folk.length → l.getD i 0 = (onTo w i w.length:Nat):=⟨(List.range p.folk.length).map fun i=>((onTo w i w.length:Nat):Int),by simp,fun i hi=>by simp [List.getD,hi]⟩
   (repeat' ((try conv=>whnf);first|(with_reducible first|refine wT ?_|refine wF ?_|(refine wI (fun hq=>?_) (fun hq=>?_) <;> try simp only [zA,zE,zD,zJ,zB,zI,wK,wL] at hq)|refine wA ?_|refine wB ?_|refine wC ?_|refine wD ?_|refine wE ?_)|((with_reducible refine wN ?_ ?_);focus exact needA)|(with_reducible refine wG ?_)|(with_reducible refine wP ?_)))
   all_goals (try conv=>whnf)
   refine FWk.of [(2,.ptr 0 0),(6,iOpen f p),(8,aInts false false l)] [.box 4 (cPool f p)] [0] Cut.A ⟨Ln.A,Ln.A,Ln.pubE (goneB rfl) rfl (Nat.le_refl _) hl1.symm (fun k hk o ho=>int_eq (hl2 k hk)),True.intro⟩ ?_
   have cM:=max_ok l 0 n (by omega) (by omega)
   have hmx:=maxTo_le (l:=l) (x:=p.most) n
   have hW:isWatch p w = decide (maxTo l n ≤ p.most):=by
    unfold isWatch
    rw [decide_eq_true hl,rall_yes hL,Bool.true_and,Bool.true_and,Bool.eq_iff_iff,decide_eq_true_eq,hmx]
    constructor
    ·intro hh i hi
     rw [hl2 i (by omega)]
     exact of_decide_eq_true (rall_get hh (show i < p.folk.length by omega))
    ·intro hh
     refine rall_yes fun i hi=>decide_eq_true ?_
     have:=hh i (by omega)
     rwa [hl2 i hi] at this
   (repeat' ((try conv=>whnf);first|(with_reducible first|refine wT ?_|refine wF ?_|(refine wI (fun hq=>?_) (fun hq=>?_) <;> try simp only [zA,zE,zD,zJ,zB,zI,wK,wL] at hq)|refine wA ?_|refine wB ?_|refine wC ?_|refine wD ?_|refine wE ?_)|((with_reducible refine wN ?_ ?_);focus exact needA)|(with_reducible refine wG ?_)|(refine FCall.pure (cM) ⟨Ln.sameB _ rfl,True.intro⟩ rfl ?_)|(with_reducible refine wP ?_)))
   all_goals (try conv=>whnf)
   ·have hC:checkW p w = 101:=by unfold checkW;rw [hk,hW,decide_eq_false (by omega)];rfl
    (refine ⟨⟨_,[],[],Cut.nil _,Ln.sameB _ rfl,?_,rfl⟩⟩)
    rw [hC];rfl
   ·have hC:checkW p w = 0:=by unfold checkW;rw [hk,hW,decide_eq_true (by omega)];rfl
    (refine ⟨⟨_,[],[],Cut.nil _,Ln.sameB _ rfl,?_,rfl⟩⟩)
    rw [hC];rfl
end Go.Proofs.Ytbhjehpjjbbhbaa

namespace Go.Proofs.Ytbhjehpjjbbhbaa
open Go.RowKit Go.Shelf

theorem au_of {x:Int} (h:0 ≤ x):AU x.toNat = .int .u64 x:=int_eq (Int.toNat_of_nonneg h)
theorem watched_ok {f:PoF} {p:Pool} {z e:Bool} {w:List Int} (hn:NearP p) (hw:∀ s,s < w.length → in64 (w.getD s 0)) (h:checkW p w = 0):ACall Try.prog 48 [aPool f p,aInts z e w] [] (fun r h=>r = .tup 2 (ofL [iOpen f p,AI 0]) ∧ h = []):=by
 have hk:p.ok = true:=by
  unfold checkW at h
  split at h
  ·assumption
  ·cases h
 have:=watched_y f p z e w hn hw hk
 rwa [h,if_pos rfl] at this
theorem watched_no {f:PoF} {p:Pool} {z e:Bool} {w:List Int} (hn:NearP p) (hw:∀ s,s < w.length → in64 (w.getD s 0)) (h:checkW p w ≠ 0):ACall Try.prog 48 [aPool f p,aInts z e w] [] (fun r h=>r = .tup 2 (ofL [.nilp,AI (checkW p w)]) ∧ h = []):=by
 by_cases hk:p.ok = true
 ·have:=watched_y f p z e w hn hw hk
  rwa [if_neg h] at this
 ·exact watched_n f p z e w hn (fun h=>hk (check_0.1 h))
/-- How many can be ill in a slot of a watch, with the error. -/
def readyE (p:Pool) (w:List Int) (s:Int):Int × Int:=if checkW p w = 0 then (if inB s 0 (p.needs.length - 1) then (spareT p s.toNat (w.getD s.toNat 0).toNat,0) else (0,1)) else (0,checkW p w)
set_option maxHeartbeats 4000000
set_option maxRecDepth 100000
theorem psafe_ok (f:PoF) (p:Pool) (z e:Bool) (w:List Int) (hn:NearP p) (hw:∀ s,s < w.length → in64 (w.getD s 0)) (hl:w.length ≤ 1000):ACall Try.prog 23 [aPool f p,aInts z e w] [] (fun r h=>r = .tup 2 (ofL [.bool (safeE p w).1,AI (safeE p w).2]) ∧ h = []):=by
 (refine fcall_of mixed Try.func23 rfl (by decide) (hs:={}) ?k (ac:=?ac) ?c (rs:=?rs) ?r ?l ?H;(case k=>kernel_rfl);(case c=>(conv=>(lhs;cbv)));(case r=>(conv=>(lhs;cbv)));(case l=>exact Nat.le_of_ble_eq_true rfl))
 by_cases hk:checkW p w = 0
 ·have cW:=watched_ok (f:=f) (z:=z) (e:=e) hn hw hk
  obtain ⟨h,k⟩:=checkW_d hk
  have s6:=h.s6
  have hlen:=k.len
  have hE:safeE p w = (safeT p w,0):=by unfold safeE;rw [if_pos hk]
  rw [hE]
  (repeat' ((try conv=>whnf);first|(with_reducible first|refine wT ?_|refine wF ?_|(refine wI (fun hq=>?_) (fun hq=>?_) <;> try simp only [zA,zE,zD,zJ,zB,zI,wK,wL] at hq)|refine wA ?_|refine wB ?_|refine wC ?_|refine wD ?_|refine wE ?_)|((with_reducible refine wN ?_ ?_);focus exact needA)|(with_reducible refine wG ?_)|(refine FCall.pure (cW) ⟨Ln.sameB _ rfl,Ln.sameB _ rfl,True.intro⟩ rfl ?_)|(with_reducible refine wP ?_)))
  all_goals (try conv=>whnf)
  refine FLoop.of (ACalls.mono _) (X:=Nat) (fun i=>[(6,iOpen f p),(19,aInts z e w),(20,AI w.length),(21,AI i)]) (fun _=>[]) (fun i=>i ≤ w.length ∧ ∀ s,s < i → coveredT p s (w.getD s 0).toNat = true) (fun i=>w.length - i) 0 ⟨⟨Nat.zero_le _,fun k hk=>absurd hk (Nat.not_lt_zero k)⟩,[],Cut.A,allA⟩ ?_
  rintro i ⟨hi,hL⟩
  by_cases hlt:i < w.length
  ·obtain ⟨e1,e2,_⟩:=k.el i hlt
   have cC:=pcovered_ok f p i (w.getD i 0).toNat (by omega) e2 h
   rw [au_of e1] at cC
   have hp8:=pow8 h.n8
   (repeat' ((try conv=>whnf);first|(with_reducible first|refine wT ?_|refine wF ?_|(refine wI (fun hq=>?_) (fun hq=>?_) <;> try simp only [zA,zE,zD,zJ,zB,zI,wK,wL] at hq)|refine wA ?_|refine wB ?_|refine wC ?_|refine wD ?_|refine wE ?_)|((with_reducible refine wN ?_ ?_);focus exact needA)|(with_reducible first|refine FBit.hasT rfl (by assumption) ?_|refine FBit.hasF rfl (by assumption) ?_|refine FBit.shrN rfl (by omega) ?_|refine FBit.half rfl ?_|refine FBit.shl1 rfl (by omega) ?_|refine Fits.inU (by omega) ?_|refine FBit.shrNI rfl (by omega) ?_|refine FBit.shrIN rfl (by omega) (by omega) ?_|refine FBit.shrI rfl (by omega) (by omega) ?_|refine FBit.shl1I rfl (by omega) ?_)|(with_reducible refine FBit.has rfl (fun hq=>?_) (fun hq=>?_))|(with_reducible first|refine FBit.and1 rfl ?_|refine FBit.andN rfl (by omega) (by omega) ?_|refine FBit.orN rfl (by omega) (by omega) ?_|refine FBit.andNotN rfl (by omega) (by omega) ?_)|(with_reducible refine wG ?_)|(refine FCall.pure (cC) ⟨Ln.sameB _ rfl,Ln.sameB _ rfl,Ln.sameB _ rfl,True.intro⟩ rfl ?_)|(with_reducible refine wP ?_)))
   all_goals (try conv=>whnf)
   ·(refine ⟨⟨_,[],[],Cut.nil _,Ln.sameB _ rfl,?_,rfl⟩⟩)
    rw [show safeT p w = false from rall_no hlt hq];rfl
   ·(exact ⟨⟨(i + 1),⟨hlt,below_step hL hq⟩,by show _ < _;omega,[],Cut.A,allA⟩⟩)
  ·obtain rfl:i = w.length:=by omega
   (repeat' ((try conv=>whnf);first|(with_reducible first|refine wT ?_|refine wF ?_|(refine wI (fun hq=>?_) (fun hq=>?_) <;> try simp only [zA,zE,zD,zJ,zB,zI,wK,wL] at hq)|refine wA ?_|refine wB ?_|refine wC ?_|refine wD ?_|refine wE ?_)|((with_reducible refine wN ?_ ?_);focus exact needA)|(with_reducible refine wG ?_)|(with_reducible refine wP ?_)))
   all_goals (try conv=>whnf)
   (refine ⟨⟨_,[],[],Cut.nil _,Ln.sameB _ rfl,?_,rfl⟩⟩)
   rw [show safeT p w = true from rall_yes hL];rfl
 ·have cW:=watched_no (f:=f) (z:=z) (e:=e) hn hw hk
  have hE:safeE p w = (false,checkW p w):=by unfold safeE;rw [if_neg hk]
  rw [hE]
  (repeat' ((try conv=>whnf);first|(with_reducible first|refine wT ?_|refine wF ?_|(refine wI (fun hq=>?_) (fun hq=>?_) <;> try simp only [zA,zE,zD,zJ,zB,zI,wK,wL] at hq)|refine wA ?_|refine wB ?_|refine wC ?_|refine wD ?_|refine wE ?_)|((with_reducible refine wN ?_ ?_);focus exact needA)|(with_reducible refine wG ?_)|(refine FCall.pure (cW) ⟨Ln.sameB _ rfl,Ln.sameB _ rfl,True.intro⟩ rfl ?_)|(with_reducible refine wP ?_)))
  all_goals (try conv=>whnf)
  (refine ⟨⟨_,[],[],Cut.nil _,Ln.sameB _ rfl,?_,rfl⟩⟩)
  rfl
theorem pready_ok (f:PoF) (p:Pool) (z e:Bool) (w:List Int) (s:Int) (hn:NearP p) (hw:∀ s,s < w.length → in64 (w.getD s 0)):ACall Try.prog 19 [aPool f p,aInts z e w,AI s] [] (fun r h=>r = .tup 2 (ofL [AI (readyE p w s).1,AI (readyE p w s).2]) ∧ h = []):=by
 (refine fcall_of mixed Try.func19 rfl (by decide) (hs:={}) ?k (ac:=?ac) ?c (rs:=?rs) ?r ?l ?H;(case k=>kernel_rfl);(case c=>(conv=>(lhs;cbv)));(case r=>(conv=>(lhs;cbv)));(case l=>exact Nat.le_of_ble_eq_true rfl))
 by_cases hk:checkW p w = 0
 ·have cW:=watched_ok (f:=f) (z:=z) (e:=e) hn hw hk
  obtain ⟨h,k⟩:=checkW_d hk
  have s6:=h.s6
  have hlen:=k.len
  have hp8:=pow8 h.n8
  by_cases hs:0 ≤ s ∧ s ≤ p.needs.length - 1
  ·have hE:readyE p w s = (spareT p s.toNat (w.getD s.toNat 0).toNat,0):=by unfold readyE;rw [if_pos hk,if_pos (decide_eq_true hs)]
   obtain ⟨i,rfl⟩:∃ i:Nat,s = i:=⟨s.toNat,by omega⟩
   rw [hE,Int.toNat_natCast]
   obtain ⟨e1,e2,_⟩:=k.el i (by omega)
   have cC:=spare_ok f p i (w.getD i 0).toNat (by omega) e2 h
   rw [au_of e1] at cC
   (repeat' ((try conv=>whnf);first|(with_reducible first|refine wT ?_|refine wF ?_|(refine wI (fun hq=>?_) (fun hq=>?_) <;> try simp only [zA,zE,zD,zJ,zB,zI,wK,wL] at hq)|refine wA ?_|refine wB ?_|refine wC ?_|refine wD ?_|refine wE ?_)|((with_reducible refine wN ?_ ?_);focus exact needA)|(with_reducible first|refine FBit.hasT rfl (by assumption) ?_|refine FBit.hasF rfl (by assumption) ?_|refine FBit.shrN rfl (by omega) ?_|refine FBit.half rfl ?_|refine FBit.shl1 rfl (by omega) ?_|refine Fits.inU (by omega) ?_|refine FBit.shrNI rfl (by omega) ?_|refine FBit.shrIN rfl (by omega) (by omega) ?_|refine FBit.shrI rfl (by omega) (by omega) ?_|refine FBit.shl1I rfl (by omega) ?_)|(with_reducible refine FBit.has rfl (fun hq=>?_) (fun hq=>?_))|(with_reducible first|refine FBit.and1 rfl ?_|refine FBit.andN rfl (by omega) (by omega) ?_|refine FBit.orN rfl (by omega) (by omega) ?_|refine FBit.andNotN rfl (by omega) (by omega) ?_)|(with_reducible refine wG ?_)|(refine FCall.pure (cW) ⟨Ln.sameB _ rfl,Ln.sameB _ rfl,True.intro⟩ rfl ?_)|(refine FCall.pure (cC) ⟨Ln.sameB _ rfl,Ln.sameB _ rfl,Ln.sameB _ rfl,True.intro⟩ rfl ?_)|(with_reducible refine wP ?_)))
   all_goals (try conv=>whnf)
   (refine ⟨⟨_,[],[],Cut.nil _,Ln.sameB _ rfl,?_,rfl⟩⟩)
   rfl
  ·have hE:readyE p w s = (0,1):=by unfold readyE;rw [if_pos hk,if_neg (by rw [show inB s 0 (p.needs.length - 1) = false from decide_eq_false hs];decide)]
   rw [hE]
   (repeat' ((try conv=>whnf);first|(with_reducible first|refine wT ?_|refine wF ?_|(refine wI (fun hq=>?_) (fun hq=>?_) <;> try simp only [zA,zE,zD,zJ,zB,zI,wK,wL] at hq)|refine wA ?_|refine wB ?_|refine wC ?_|refine wD ?_|refine wE ?_)|((with_reducible refine wN ?_ ?_);focus exact needA)|(with_reducible refine wG ?_)|(refine FCall.pure (cW) ⟨Ln.sameB _ rfl,Ln.sameB _ rfl,True.intro⟩ rfl ?_)|(with_reducible refine wP ?_)))
   all_goals (try conv=>whnf)
   all_goals (refine ⟨⟨_,[],[],Cut.nil _,Ln.sameB _ rfl,?_,rfl⟩⟩)
   all_goals rfl
 ·have cW:=watched_no (f:=f) (z:=z) (e:=e) hn hw hk
  have hE:readyE p w s = (0,checkW p w):=by unfold readyE;rw [if_neg hk]
  rw [hE]
  (repeat' ((try conv=>whnf);first|(with_reducible first|refine wT ?_|refine wF ?_|(refine wI (fun hq=>?_) (fun hq=>?_) <;> try simp only [zA,zE,zD,zJ,zB,zI,wK,wL] at hq)|refine wA ?_|refine wB ?_|refine wC ?_|refine wD ?_|refine wE ?_)|((with_reducible refine wN ?_ ?_);focus exact needA)|(with_reducible refine wG ?_)|(refine FCall.pure (cW) ⟨Ln.sameB _ rfl,Ln.sameB _ rfl,True.intro⟩ rfl ?_)|(with_reducible refine wP ?_)))
  all_goals (try conv=>whnf)
  (refine ⟨⟨_,[],[],Cut.nil _,Ln.sameB _ rfl,?_,rfl⟩⟩)
  rfl
end Go.Proofs.Ytbhjehpjjbbhbaa

namespace Go.Proofs.Ytbhjehpjjbbhbaa
open Go.RowKit Go.Shelf

attribute [local go_sem] Oper.semAt_some

/-- The parts of a set, the lower ones first. -/
def subs (g:Nat):List Nat:=(List.range (g + 1)).filter fun a=>decide (sdiff a g = 0)
theorem mem_subs {g a:Nat}:a ∈ subs g ↔ ∀ i,a.testBit i = true → g.testBit i = true:=by
 unfold subs
 rw [List.mem_filter,List.mem_range,decide_eq_true_eq,sdiff_z]
 exact ⟨fun h=>h.2,fun h=>⟨by have:=le_of_bits h;omega,h⟩⟩
def nextS (a g:Nat):Nat:=(a + 18446744073709551616 - g) % 18446744073709551616 &&& g
def chkS (g:Nat):List Nat → Bool
 | []=>false
 | [a]=>decide (a = g)
 | a :: b :: t=>decide (a ≠ g) && decide (nextS a g = b) && chkS g (b :: t)
theorem subs_chk : ∀ g,g < 256 → ((subs g).getD 0 1 = 0 ∧ chkS g (subs g) = true):=by
 have:∀ g:_root_.Fin 256,((subs g.val).getD 0 1 = 0 ∧ chkS g.val (subs g.val) = true):=by decide +kernel
 exact fun g h=>this ⟨g,h⟩
theorem chk_at {g:Nat}:∀ {l:List Nat},chkS g l = true → 0 < l.length ∧ ∀ k,k < l.length → (l.getD k 0 = g ↔ k + 1 = l.length) ∧ (k + 1 < l.length → nextS (l.getD k 0) g = l.getD (k + 1) 0)
 | [],h=>by cases h
 | [a],h=>⟨by simp,fun k hk=>by
   obtain rfl:k = 0:=by simp at hk;omega
   have h:a = g:=of_decide_eq_true h
   exact ⟨⟨fun _=>rfl,fun _=>h⟩,fun h2=>by simp at h2⟩⟩
 | a :: b :: t,h=>by
  simp only [chkS,Bool.and_eq_true,decide_eq_true_eq] at h
  obtain ⟨⟨h1,h2⟩,h3⟩:=h
  obtain ⟨_,ih⟩:=chk_at h3
  refine ⟨by simp,fun k hk=>?_⟩
  rcases k with _|k
  ·exact ⟨⟨fun e=>absurd e h1,fun e=>by simp at e⟩,fun _=>h2⟩
  ·have:=ih k (by simpa using hk)
   refine ⟨⟨fun e=>by have:=this.1.1 e;simp at this ⊢;omega,fun e=>this.1.2 (by simp at e ⊢;omega)⟩,fun e=>this.2 (by simp at e ⊢;omega)⟩
theorem subs_at {g:Nat} (hg:g < 256):0 < (subs g).length ∧ (subs g).getD 0 0 = 0 ∧ ∀ k,k < (subs g).length → ((subs g).getD k 0 = g ↔ k + 1 = (subs g).length) ∧ (k + 1 < (subs g).length → nextS ((subs g).getD k 0) g = (subs g).getD (k + 1) 0) ∧ (subs g).getD k 0 ≤ g:=by
 obtain ⟨h1,h2⟩:=subs_chk g hg
 obtain ⟨h3,h4⟩:=chk_at h2
 refine ⟨h3,?_,fun k hk=>⟨(h4 k hk).1,(h4 k hk).2,?_⟩⟩
 ·simpa [List.getD,List.getElem?_eq_getElem h3] using h1
 ·have hm:(subs g).getD k 0 ∈ subs g:=by
   simp only [List.getD,List.getElem?_eq_getElem hk,Option.getD_some]
   exact List.getElem_mem hk
  exact le_of_bits (mem_subs.1 hm)
theorem subs_lt {g k:Nat} (h:k + 1 < (subs g).length):(subs g).getD k 0 < (subs g).getD (k + 1) 0:=by
 have hp:(subs g).Pairwise (· < ·):=List.Pairwise.filter _ List.pairwise_lt_range
 have:=List.pairwise_iff_getElem.1 hp k (k + 1) (by omega) h (by omega)
 simpa [List.getD,List.getElem?_eq_getElem h,List.getElem?_eq_getElem (show k < (subs g).length by omega)] using this
theorem wrap_sub {a g:Nat} (hg:g < 256) (ha:a ≤ g):IntKind.u64.wrap ((a:Int) - (g:Int)) = (((a + 18446744073709551616 - g) % 18446744073709551616:Nat):Int):=by
 simp only [IntKind.wrap,IntKind.bits,IntKind.signed,Bool.false_and,Bool.false_eq_true,if_false]
 omega
theorem next_run {a g:Nat} (ha:a ≤ g) (hg:g < 256):rawBit .and .u64 (IntKind.u64.wrap ((a:Int) - (g:Int))) (g:Int) = (nextS a g:Nat):=by
 rw [wrap_sub hg ha]
 unfold nextS rawBit
 generalize hx:(a + 18446744073709551616 - g) % 18446744073709551616 = x
 have hxl:x < 18446744073709551616:=by omega
 have h1:(BitVec.ofInt 64 (x:Int)).toNat = x:=by rw [BitVec.ofInt_natCast,BitVec.toNat_ofNat];exact Nat.mod_eq_of_lt (by omega)
 have h2:(BitVec.ofInt 64 (g:Int)).toNat = g:=by rw [BitVec.ofInt_natCast,BitVec.toNat_ofNat];exact Nat.mod_eq_of_lt (by omega)
 show IntKind.u64.wrap ((BitVec.ofInt 64 (x:Int) &&& BitVec.ofInt 64 (g:Int)).toNat:Int) = _
 rw [BitVec.toNat_and,h1,h2]
 have:x &&& g ≤ g:=Nat.and_le_right
 exact IntWalk.u64_in _ (by omega)
theorem arr1 {cs:Array Value} {v:Value} {n:Nat} (h:cs.size = n) (hp:cs.getD 0 undef = v) (hn:n = 1:=by rfl):cs = #[v]:=by
 subst hn
 have h0:0 < cs.size:=by omega
 have h1:cs[0] = v:=by simpa [h0] using hp
 apply Array.ext
 ·simpa using h
 ·intro i h2 h3
  obtain rfl:i = 0:=by simp at h3;omega
  simpa using h1
set_option maxRecDepth 100000 in
set_option maxHeartbeats 2000000 in
theorem parts_it (g:Nat) (hg:g < 256):AIterM true Try.prog 53 [AU g] ((List.range (subs g).length).map fun k=>[AU ((subs g).getD k 0)]):=by
 refine ⟨⟨_,Try.func53,by decide,rfl⟩,fun M w0 cs hcs hreps lp J Jx W hW hJ hJx hY h0=>?_⟩
 have hp:cs.getD 0 undef = .int .u64 g:=hreps 0 _ rfl
 obtain rfl:=arr1 hcs hp
 obtain ⟨s1,s2,s3⟩:=subs_at hg
 have s4:=fun k=>subs_lt (g:=g) (k:=k)
 have wn:Wd none = Fence.wide:=rfl
 rw [wn] at hY ⊢
 refine callsIn_of_wp Try.func53 rfl trivial ?_ rfl
 simp only [Try.ntmps53,List.size_toArray,List.length_cons,List.length_nil,Nat.reduceAdd,Nat.reduceSub,Array.replicate_succ,Array.replicate_zero,List.push_toArray,List.append_toArray,List.nil_append,List.cons_append,argsOf]
 clear hp hreps hcs
 generalize hL:subs g = L at *
 clear hL
 gi_wp2
 gi_loopw [4] (fun i wr=>∃ k:Nat,k < L.length ∧ i = .int .u64 (L.getD k 0:Nat) ∧ J k wr ∧ Chg M w0 wr)
  (fun i _=>(g - intOf i).toNat)
 case atStart=>exact ⟨0,s1,by rw [s2];rfl,h0,hW⟩
 case round =>
  obtain ⟨k,hk,rfl,hJk,hck⟩:=hrel
  obtain ⟨t1,t2,t3⟩:=s3 k hk
  obtain ⟨a,ha⟩:∃ a,L.getD k 0 = a:=⟨_,rfl⟩
  rw [ha] at t1 t2 t3 ⊢
  have hnr:bits BinOp.and IntKind.u64 (IntKind.u64.wrap ((a:Int) - (g:Int))) (g:Int) = (nextS a g:Nat):=next_run (g:=g) t3 hg
  obtain ⟨fn,tmps,assign,body,hy,hR⟩:=hY k #[.int .u64 (a:Nat)] wr (by simpa using hk) hJk hck (by simp [List.getD,hk]) (fun i x hx=>by
   simp only [List.getD,List.getElem?_map,List.getElem?_range hk,Option.map_some,Option.getD_some] at hx
   match i,hx with
   | 0,hx=>cases hx;exact congrArg (fun n:Nat=>Value.int .u64 (n:Int)) ha.symm)
  gi_wp2
  refine ⟨rfl,hR.mono ?_⟩
  rintro e W3 (⟨rfl,hJ3,hk3⟩|⟨rfl,hJx3⟩)
  ·by_cases hgk:a = g
   ·gi_wp2
    refine bodyPost_ret (results_none rfl _ _ _) rfl ?_
    exact ⟨⟨_,rfl⟩,.inl (by rw [List.length_map,List.length_range,← t1.1 hgk];exact hJ3)⟩
   ·gi_wp2
    have hk1:k + 1 < L.length:=by
     have:k + 1 ≠ L.length:=fun e=>hgk (t1.2 e)
     omega
    have hn1:=s4 k hk1
    have hn2:=(s3 (k + 1) hk1).2.2
    have hn3:=t2 hk1
    rw [ha] at hn1
    refine ⟨⟨k + 1,hk1,by rw [hn3],hJ3,hck.trans hk3 (fun _ _ h=>h)⟩,?_⟩
    rw [hn3]
    simp only [intOf]
    omega
  ·gi_wp2
   refine bodyPost_ret (results_none rfl _ _ _) rfl ?_
   exact ⟨⟨_,rfl⟩,.inr ⟨k,by simpa using hk,hJx3⟩⟩
end Go.Proofs.Ytbhjehpjjbbhbaa

namespace Go.Proofs.Ytbhjehpjjbbhbaa
open Go.RowKit

def payTo (p:Pool) (g:Nat):Nat → Int
 | 0=>0
 | k + 1=>payTo p g k + if g.testBit k then p.pay k else 0
def payT (p:Pool) (g:Nat):Int:=payTo p g p.folk.length
theorem payTo_b {p:Pool} (h:PoolOk p) (g:Nat):∀ k,k ≤ p.folk.length → 0 ≤ payTo p g k ∧ payTo p g k ≤ 1000 * k
 | 0,_=>⟨Int.le_refl _,Int.le_refl _⟩
 | k + 1,hk=>by
  have:=payTo_b h g k (by omega)
  have:=(h.folk k (by omega)).2.2
  simp only [payTo,Pool.pay]
  split <;> omega
theorem pay_b {p:Pool} (h:PoolOk p) (g:Nat):0 ≤ payT p g ∧ payT p g ≤ 8000:=by
 have:=payTo_b h g p.folk.length (Nat.le_refl _)
 have:=h.n8
 unfold payT;omega
/-- The sets that cover a slot, the lower ones first. -/
def coversT (p:Pool) (s:Nat):List Nat:=(List.range (2 ^ p.folk.length)).filter fun g=>canT p s g && coveredT p s g
theorem filter_range {q : Nat → Bool} {a : Nat} : ∀ b, a ≤ b → (∀ i, a ≤ i → i < b → q i = false) → (List.range b).filter q = (List.range a).filter q
  | 0, h, _ => by obtain rfl : a = 0 := by omega
                  rfl
  | b + 1, h, hq => by
    by_cases e : a = b + 1
    · subst e; rfl
    · rw [List.range_succ, List.filter_append, filter_range b (by omega) (fun i h1 h2 => hq i h1 (by omega))]
      simp [hq b (by omega) (by omega)]
theorem covers_subs (p:Pool) (s:Nat):(subs (canSet p s p.folk.length)).filter (coveredT p s) = coversT p s:=by
 have hl:=canSet_lt p s p.folk.length
 unfold subs coversT
 rw [List.filter_filter,filter_range (q:=fun g=>canT p s g && coveredT p s g) (a:=canSet p s p.folk.length + 1) _ (by omega) (fun i h1 h2=>by
  have:canT p s i = false:=Bool.eq_false_iff.2 fun hc=>by
   have:=le_of_bits (sdiff_z.1 ((canT_iff h2).1 hc))
   omega
  rw [this];rfl)]
 refine List.filter_congr fun g hg=>?_
 rw [List.mem_range] at hg
 have:decide (sdiff g (canSet p s p.folk.length) = 0) = canT p s g:=by
  rw [Bool.eq_iff_iff,decide_eq_true_eq,canT_iff (by omega)]
 rw [this,Bool.and_comm]
theorem covers_mem {p:Pool} {s g:Nat} (h:g ∈ coversT p s):g < 2 ^ p.folk.length ∧ canT p s g = true ∧ coveredT p s g = true:=by
 unfold coversT at h
 rw [List.mem_filter,List.mem_range,Bool.and_eq_true] at h
 exact ⟨h.1,h.2.1,h.2.2⟩
theorem covers_sorted (p:Pool) (s:Nat):(coversT p s).Pairwise (· < ·):=List.Pairwise.filter _ List.pairwise_lt_range
theorem covers_len (p:Pool) (s:Nat):(coversT p s).length ≤ 2 ^ p.folk.length:=by
 have:=List.length_filter_le (fun g=>canT p s g && coveredT p s g) (List.range (2 ^ p.folk.length))
 simpa [coversT] using this
abbrev aNats (z e:Bool) (l:List Nat):AV:=.sl z e l.length 1 (fun k _=>AU (l.getD k 0))
abbrev outU (l:List Nat):AV:=aNats l.isEmpty l.isEmpty l
abbrev rowN (m:Nat) (l:List Nat):AB:=.row m 1 (fun k _=>AU (l.getD k 0))
theorem isE_n {α:Type} {l:List α} {m:Nat} (h:m + 1 = l.length):l.isEmpty = false:=by cases l <;> first|rfl|cases h
theorem Ln.outU {σ:Nat → Nat → Prop} {Bp:Nat → Prop} {H:List AB} {d m N:Nat} {c:Nat → Nat → AV} {l:List Nat} (h:Bp d) (hd:H[d]? = some (.row N 1 c)) (hn:m + 1 ≤ N) (e:m + 1 = l.length) (hc:∀ k,k < m + 1 → ∀ o,o < 1 → AU (l.getD k 0) = c k o):Ln σ Bp H (.own d (m + 1)) (outU l):=by
 show Ln σ Bp H (.own d (m + 1)) (aNats l.isEmpty l.isEmpty l)
 rw [isE_n e];exact Ln.pubE h hd hn e hc
theorem getN_snoc (l:List Nat) (x k:Nat):(l ++ [x]).getD k 0 = if k < l.length then l.getD k 0 else if k = l.length then x else 0:=by
 simp only [List.getD]
 by_cases h:k < l.length
 ·rw [if_pos h,List.getElem?_append_left h]
 ·rw [if_neg h,List.getElem?_append_right (by omega)]
  by_cases e:k = l.length
  ·subst e;simp
  ·rw [if_neg e,List.getElem?_eq_none (by simp;omega)];rfl
theorem filter_take {q:Nat → Bool} {l:List Nat} {k:Nat} (h:k < l.length):(l.take (k + 1)).filter q = (l.take k).filter q ++ if q (l.getD k 0) then [l.getD k 0] else []:=by
 rw [List.take_add_one,List.filter_append,List.getElem?_eq_getElem h]
 have e:l.getD k 0 = l[k]:=by simp [List.getD,List.getElem?_eq_getElem h]
 rw [e]
 cases hq:q l[k] <;> simp [hq]
/-- The better one of two sets that cover. -/
def stepB (p:Pool) (b g:Nat):Nat:=if payT p g < payT p b ∨ (payT p g = payT p b ∧ pop g < pop b) then g else b
def bestTo (p:Pool) (l:List Nat):Nat → Nat
 | 0=>l.getD 0 0
 | k + 1=>stepB p (bestTo p l k) (l.getD (k + 1) 0)
def bestG (p:Pool) (l:List Nat):Nat:=bestTo p l (l.length - 1)
theorem bestTo_mem (p:Pool) (l:List Nat):∀ k,k < l.length → ∃ i,i ≤ k ∧ bestTo p l k = l.getD i 0
 | 0,h=>⟨0,Nat.le_refl _,rfl⟩
 | k + 1,h=>by
  obtain ⟨i,h1,h2⟩:=bestTo_mem p l k (by omega)
  rw [bestTo,stepB]
  split
  ·exact ⟨k + 1,Nat.le_refl _,rfl⟩
  ·exact ⟨i,by omega,h2⟩
def slotE (p:Pool) (s:Int):Int × Int × Int:=if p.ok then (if inB s 0 (p.needs.length - 1) then (match coversT p s.toNat with|[]=>(0,0,3)|g :: l=>((bestG p (g :: l):Int),payT p (bestG p (g :: l)),0)) else (0,0,1)) else (0,0,100)
set_option maxHeartbeats 4000000
set_option maxRecDepth 100000
theorem cost_ok (f:PoF) (p:Pool) (g:Nat) (h:PoolOk p):ACall Try.prog 68 [iOpen f p,AU g] [] (fun r h=>r = AI (payT p g) ∧ h = []):=by
 have n8:=h.n8
 (refine fcall_of mixed Try.func68 rfl (by decide) (hs:={}) ?k (ac:=?ac) ?c (rs:=?rs) ?r ?l ?H;(case k=>kernel_rfl);(case c=>(conv=>(lhs;cbv)));(case r=>(conv=>(lhs;cbv)));(case l=>exact Nat.le_of_ble_eq_true rfl))
 (repeat' ((try conv=>whnf);first|(with_reducible first|refine wT ?_|refine wF ?_|(refine wI (fun hq=>?_) (fun hq=>?_) <;> try simp only [zA,zE,zD,zJ,zB,zI,wK,wL] at hq)|refine wA ?_|refine wB ?_|refine wC ?_|refine wD ?_|refine wE ?_)|((with_reducible refine wN ?_ ?_);focus exact needA)|(with_reducible refine wG ?_)|(with_reducible refine wP ?_)))
 all_goals (try conv=>whnf)
 refine FLoop.of (ACalls.mono _) (X:=Nat) (fun i=>[(1,AU g),(4,AI (payTo p g i)),(11,aFolks f.zf f.ef p.folk),(12,AI p.folk.length),(13,AI i)]) (fun _=>[]) (fun i=>i ≤ p.folk.length) (fun i=>p.folk.length - i) 0 ⟨Nat.zero_le _,[],Cut.A,allA⟩ ?_
 intro i hi
 have hb:=payTo_b h g i hi
 by_cases hlt:i < p.folk.length
 ·have hf:=(h.folk i hlt).2.2
  have hst:payTo p g (i + 1) = payTo p g i + if g.testBit i then (p.folk.getD i fo0).pay else 0:=rfl
  (repeat' ((try conv=>whnf);first|(with_reducible first|refine wT ?_|refine wF ?_|(refine wI (fun hq=>?_) (fun hq=>?_) <;> try simp only [zA,zE,zD,zJ,zB,zI,wK,wL] at hq)|refine wA ?_|refine wB ?_|refine wC ?_|refine wD ?_|refine wE ?_)|((with_reducible refine wN ?_ ?_);focus exact needA)|(with_reducible refine wG ?_)|(refine FCall.pure ((phas_ok g i (by omega))) ⟨Ln.sameB _ rfl,Ln.sameB _ rfl,True.intro⟩ rfl ?_)|(with_reducible refine wP ?_)))
  all_goals (try conv=>whnf)
  ·rw [hq,if_pos rfl] at hst
   (exact ⟨⟨(i + 1),hlt,by show _ < _;omega,[],Cut.A,allA⟩⟩)
  ·rw [hq,if_neg (by decide)] at hst
   (exact ⟨⟨(i + 1),hlt,by show _ < _;omega,[],Cut.A,allA⟩⟩)
 ·obtain rfl:i = p.folk.length:=by omega
  (repeat' ((try conv=>whnf);first|(with_reducible first|refine wT ?_|refine wF ?_|(refine wI (fun hq=>?_) (fun hq=>?_) <;> try simp only [zA,zE,zD,zJ,zB,zI,wK,wL] at hq)|refine wA ?_|refine wB ?_|refine wC ?_|refine wD ?_|refine wE ?_)|((with_reducible refine wN ?_ ?_);focus exact needA)|(with_reducible refine wG ?_)|(with_reducible refine wP ?_)))
  all_goals (try conv=>whnf)
  (refine ⟨⟨_,[],[],Cut.nil _,Ln.sameB _ rfl,?_,rfl⟩⟩)
  rfl
theorem slot_ok (f:PoF) (p:Pool) (s:Nat) (hs:s < p.needs.length) (h:PoolOk p):ACall Try.prog 46 [iOpen f p,AI s] [] (fun r h=>r = outU (coversT p s) ∧ h = []):=by
 have n8:=h.n8
 have s6:=h.s6
 have hp8:=pow8 n8
 have hcl:=canSet_lt p s p.folk.length
 have hit:=parts_it (canSet p s p.folk.length) (by omega)
 have hcs:=covers_subs p s
 have hcv:∀ k,k < (subs (canSet p s p.folk.length)).length → (subs (canSet p s p.folk.length)).getD k 0 < 2 ^ p.folk.length:=fun k hk=>by
  have:=((subs_at (g:=canSet p s p.folk.length) (by omega)).2.2 k hk).2.2
  omega
 have hsl:(subs (canSet p s p.folk.length)).length ≤ 256:=by
  have:=List.length_filter_le (fun a=>decide (sdiff a (canSet p s p.folk.length) = 0)) (List.range (canSet p s p.folk.length + 1))
  simp only [List.length_range] at this
  unfold subs;omega
 (refine fcall_of mixed Try.func46 rfl (by decide) (hs:={}) ?k (ac:=?ac) ?c (rs:=?rs) ?r ?l ?H;(case k=>kernel_rfl);(case c=>(conv=>(lhs;cbv)));(case r=>(conv=>(lhs;cbv)));(case l=>exact Nat.le_of_ble_eq_true rfl))
 (repeat' ((try conv=>whnf);first|(with_reducible first|refine wT ?_|refine wF ?_|(refine wI (fun hq=>?_) (fun hq=>?_) <;> try simp only [zA,zE,zD,zJ,zB,zI,wK,wL] at hq)|refine wA ?_|refine wB ?_|refine wC ?_|refine wD ?_|refine wE ?_)|((with_reducible refine wN ?_ ?_);focus exact needA)|(with_reducible refine wG ?_)|(refine FCall.pure ((can_ok f p s (by omega) h)) ⟨Ln.sameB _ rfl,Ln.sameB _ rfl,True.intro⟩ rfl ?_)|(with_reducible refine wP ?_)))
 all_goals (try conv=>whnf)
 generalize subs (canSet p s p.folk.length) = L at *
 refine FRange.ofM (ACalls.mono _) (X:=Nat × List Nat) L.length (fun k=>[AU (L.getD k 0)]) (fun x=>[(2,.ptr 0 0),(3,.ptr 1 0),(5,.ptr 2 0),(10,.mv 53 1 (ofL [AU (canSet p s p.folk.length)]))]) (fun x=>match x.1 with
  | 0=>[.box 1 (ofL [iOpen f p]),.box 1 (ofL [AI s]),.box 1 (ofL [nilS])]
  | m + 1=>[.box 1 (ofL [iOpen f p]),.box 1 (ofL [AI s]),.box 1 (ofL [.own 3 (m + 1)]),rowN (m + 1) x.2])
  (fun k x=>x.1 = x.2.length ∧ x.2 = (L.take k).filter (coveredT p s) ∧ x.1 ≤ k) (0,[]) ⟨⟨rfl,rfl,Nat.le_refl _⟩,[0,1,2],Cut.A,allA⟩ rfl rfl hit (fun _ _=>rfl) ?round ?done
 case round =>
  rintro k ⟨m,l⟩ hk ⟨hm,hl,hmk⟩
  change m = l.length at hm
  change l = (L.take k).filter (coveredT p s) at hl
  change m ≤ k at hmk
  have hft:=filter_take (q:=coveredT p s) hk
  rw [← hl] at hft
  have hx:=hcv k hk
  have hml:m + 1 = (l ++ [L.getD k 0]).length:=by rw [List.length_append,hm];rfl
  dsimp only
  cases hc:coveredT p s (L.getD k 0)
  ·have cC:=pcovered_ok f p s (L.getD k 0) hs hx h
   rw [hc] at cC
   rw [hc,if_neg (by decide),List.append_nil] at hft
   rcases m with _|m
   ·(repeat' ((try conv=>whnf);first|(with_reducible first|refine wT ?_|refine wF ?_|(refine wI (fun hq=>?_) (fun hq=>?_) <;> try simp only [zA,zE,zD,zJ,zB,zI,wK,wL] at hq)|refine wA ?_|refine wB ?_|refine wC ?_|refine wD ?_|refine wE ?_)|((with_reducible refine wN ?_ ?_);focus exact needA)|(with_reducible refine wG ?_)|(refine FCall.pure (cC) ⟨Ln.sameB _ rfl,Ln.sameB _ rfl,Ln.sameB _ rfl,True.intro⟩ rfl ?_)|(with_reducible refine wP ?_)))
    all_goals (try conv=>whnf)
    (refine ⟨⟨(0,l),⟨hm,hft.symm,Nat.zero_le _⟩,[0,1,2],Cut.A,allA⟩⟩)
   ·(repeat' ((try conv=>whnf);first|(with_reducible first|refine wT ?_|refine wF ?_|(refine wI (fun hq=>?_) (fun hq=>?_) <;> try simp only [zA,zE,zD,zJ,zB,zI,wK,wL] at hq)|refine wA ?_|refine wB ?_|refine wC ?_|refine wD ?_|refine wE ?_)|((with_reducible refine wN ?_ ?_);focus exact needA)|(with_reducible refine wG ?_)|(refine FCall.pure (cC) ⟨Ln.sameB _ rfl,Ln.sameB _ rfl,Ln.sameB _ rfl,True.intro⟩ rfl ?_)|(with_reducible refine wP ?_)))
    all_goals (try conv=>whnf)
    (refine ⟨⟨(m + 1,l),⟨hm,hft.symm,Nat.le_succ_of_le hmk⟩,[0,1,2,3],Cut.A,allA⟩⟩)
  ·have cC:=pcovered_ok f p s (L.getD k 0) hs hx h
   rw [hc] at cC
   rw [hc,if_pos rfl] at hft
   rcases m with _|m
   ·obtain rfl:l = []:=List.length_eq_zero_iff.1 hm.symm
    (repeat' ((try conv=>whnf);first|(with_reducible first|refine wT ?_|refine wF ?_|(refine wI (fun hq=>?_) (fun hq=>?_) <;> try simp only [zA,zE,zD,zJ,zB,zI,wK,wL] at hq)|refine wA ?_|refine wB ?_|refine wC ?_|refine wD ?_|refine wE ?_)|((with_reducible refine wN ?_ ?_);focus exact needA)|(with_reducible refine wG ?_)|(refine FCall.pure (cC) ⟨Ln.sameB _ rfl,Ln.sameB _ rfl,Ln.sameB _ rfl,True.intro⟩ rfl ?_)|(with_reducible refine wP ?_)))
    all_goals (try conv=>whnf)
    (exact ⟨⟨(1,[] ++ [L.getD k 0]),⟨hml,hft.symm,Nat.succ_le_succ hmk⟩,[0,1,2,3],(by (refine wO rfl rfl rfl ?_;repeat (first|exact wX|(refine wV rfl (by first|exact LnB.rowS|exact LnB.app (fun k hk=>absurd hk (Nat.not_lt_zero k)) (fun _ _=>rfl)|exact LnB.A) ?_)|(refine CutL.gone (Nat.lt_of_lt_of_le (Nat.lt_succ_self _) (Nat.le_of_ble_eq_true rfl)) ?_)))),allA⟩⟩)
   ·(repeat' ((try conv=>whnf);first|(with_reducible first|refine wT ?_|refine wF ?_|(refine wI (fun hq=>?_) (fun hq=>?_) <;> try simp only [zA,zE,zD,zJ,zB,zI,wK,wL] at hq)|refine wA ?_|refine wB ?_|refine wC ?_|refine wD ?_|refine wE ?_)|((with_reducible refine wN ?_ ?_);focus exact needA)|(with_reducible refine wG ?_)|(refine FCall.pure (cC) ⟨Ln.sameB _ rfl,Ln.sameB _ rfl,Ln.sameB _ rfl,True.intro⟩ rfl ?_)|(with_reducible refine wP ?_)))
    all_goals (try conv=>whnf)
    (exact ⟨⟨(m + 2,l ++ [L.getD k 0]),⟨hml,hft.symm,Nat.succ_le_succ hmk⟩,[0,1,2,4],(by (refine wO rfl rfl rfl ?_;repeat (first|exact wX|(refine wV rfl (by first|exact LnB.rowS|exact LnB.app (fun k hk o ho=>int_eq (by rw [getN_snoc,if_pos (by omega)])) (fun o ho=>by show AU _ = AU _;exact int_eq (by rw [getN_snoc,if_neg (by omega),if_pos (by omega)]))|exact LnB.A) ?_)|(refine CutL.gone (Nat.lt_of_lt_of_le (Nat.lt_succ_self _) (Nat.le_of_ble_eq_true rfl)) ?_)))),allA⟩⟩)
 case done =>
  rintro ⟨m,l⟩ ⟨hm,hl,hmk⟩
  change m = l.length at hm
  change l = (L.take L.length).filter (coveredT p s) at hl
  rw [List.take_length,hcs] at hl
  rw [← hl]
  dsimp only
  rcases m with _|m
  ·obtain rfl:l = []:=List.length_eq_zero_iff.1 hm.symm
   (repeat' ((try conv=>whnf);first|(with_reducible first|refine wT ?_|refine wF ?_|(refine wI (fun hq=>?_) (fun hq=>?_) <;> try simp only [zA,zE,zD,zJ,zB,zI,wK,wL] at hq)|refine wA ?_|refine wB ?_|refine wC ?_|refine wD ?_|refine wE ?_)|((with_reducible refine wN ?_ ?_);focus exact needA)|(with_reducible refine wG ?_)|(with_reducible refine wP ?_)))
   all_goals (try conv=>whnf)
   exact ⟨⟨outU [],[],[],Cut.nil _,Ln.slz _ _ _ _ _ _ _ (by decide),rfl,rfl⟩⟩
  ·(repeat' ((try conv=>whnf);first|(with_reducible first|refine wT ?_|refine wF ?_|(refine wI (fun hq=>?_) (fun hq=>?_) <;> try simp only [zA,zE,zD,zJ,zB,zI,wK,wL] at hq)|refine wA ?_|refine wB ?_|refine wC ?_|refine wD ?_|refine wE ?_)|((with_reducible refine wN ?_ ?_);focus exact needA)|(with_reducible refine wG ?_)|(with_reducible refine wP ?_)))
   all_goals (try conv=>whnf)
   exact ⟨⟨outU l,[],[],Cut.nil _,Ln.outU (goneB rfl) rfl (Nat.le_refl _) hm (fun _ _ _ _=>rfl),rfl,rfl⟩⟩
end Go.Proofs.Ytbhjehpjjbbhbaa

namespace Go.Proofs.Ytbhjehpjjbbhbaa
open Go.RowKit

abbrev iP (f:PoF) (p:Pool):AV:=.ip 1 (ofL [iOpen f p]) 0
abbrev fCmp (f:PoF) (p:Pool):AV:=.fn 66 1 (ofL [iP f p])
def orI (a b c:Int):Int:=if a ≠ 0 then a else if b ≠ 0 then b else c
def cmpU (a b:Nat):Int:=if a < b then -1 else if b < a then 1 else 0
def cmpS (p:Pool) (a b:Nat):Int:=orI (payT p a - payT p b) ((pop a:Int) - pop b) (cmpU a b)
theorem cmpS_b {p:Pool} {a b:Nat} (h:b < a):cmpS p a b < 0 ↔ (payT p a < payT p b ∨ (payT p a = payT p b ∧ pop a < pop b)):=by
 unfold cmpS orI cmpU
 rw [if_neg (show ¬ a < b by omega),if_pos h]
 split
 ·omega
 ·split <;> omega
theorem sorted_get {l:List Nat} (h:l.Pairwise (· < ·)) {i j:Nat} (hij:i < j) (hj:j < l.length):l.getD i 0 < l.getD j 0:=by
 have:=List.pairwise_iff_getElem.1 h i j (by omega) hj hij
 simpa [List.getD,List.getElem?_eq_getElem hj,List.getElem?_eq_getElem (show i < l.length by omega)] using this
theorem Ln.lit3 {σ:Nat → Nat → Prop} {Bp:Nat → Prop} {H:List AB} {c:Nat → Nat → AV} {a b x:Int} (h0:c 0 0 = AI a) (h1:c 1 0 = AI b) (h2:c 2 0 = AI x):Ln σ Bp H (.sl false true 3 1 c) (aInts false true [a,b,x]) :=
 Ln.sl _ _ _ _ _ _ _ (fun h=>h) fun k hk o ho=>by
  obtain rfl:o = 0:=by omega
  rcases (show k = 0 ∨ k = 1 ∨ k = 2 by omega) with rfl|rfl|rfl
  ·exact h0.symm
  ·exact h1.symm
  ·exact h2.symm
theorem getD_memN {l:List Nat} {i:Nat} (h:i < l.length):l.getD i 0 ∈ l:=by
 simp [List.getD,List.getElem?_eq_getElem h]
set_option maxHeartbeats 4000000
set_option maxRecDepth 100000
theorem or_ok (a b c:Int):ACall Try.prog 67 [aInts false true [a,b,c]] [] (fun r h=>r = AI (orI a b c) ∧ h = []):=by
 (refine fcall_of mixed Try.func67 rfl (by decide) (hs:={}) ?k (ac:=?ac) ?c (rs:=?rs) ?r ?l ?H;(case k=>kernel_rfl);(case c=>(conv=>(lhs;cbv)));(case r=>(conv=>(lhs;cbv)));(case l=>exact Nat.le_of_ble_eq_true rfl))
 (repeat' ((try conv=>whnf);first|(with_reducible first|refine wT ?_|refine wF ?_|(refine wI (fun hq=>?_) (fun hq=>?_) <;> try simp only [zA,zE,zD,zJ,zB,zI,wK,wL] at hq)|refine wA ?_|refine wB ?_|refine wC ?_|refine wD ?_|refine wE ?_)|((with_reducible refine wN ?_ ?_);focus exact needA)|(with_reducible refine wG ?_)|(with_reducible refine wP ?_)))
 all_goals (try conv=>whnf)
 refine FLoop.of (ACalls.mono _) (X:=Nat) (fun i=>[(3,AI 0),(6,aInts false true [a,b,c]),(7,AI (3:Nat)),(8,AI i)]) (fun _=>[]) (fun i=>i ≤ 3 ∧ ∀ k,k < i → [a,b,c].getD k 0 = 0) (fun i=>3 - i) 0 ⟨⟨Nat.zero_le _,fun k hk=>absurd hk (Nat.not_lt_zero k)⟩,[],Cut.A,allA⟩ ?_
 rintro i ⟨hi,hL⟩
 have h3:[a,b,c].length = 3:=rfl
 rcases (show i = 0 ∨ i = 1 ∨ i = 2 ∨ i = 3 by omega) with rfl|rfl|rfl|rfl
 ·(repeat' ((try conv=>whnf);first|(with_reducible first|refine wT ?_|refine wF ?_|(refine wI (fun hq=>?_) (fun hq=>?_) <;> try simp only [zA,zE,zD,zJ,zB,zI,wK,wL] at hq)|refine wA ?_|refine wB ?_|refine wC ?_|refine wD ?_|refine wE ?_)|((with_reducible refine wN ?_ ?_);focus exact needA)|(with_reducible refine wG ?_)|(with_reducible refine wP ?_)))
  all_goals (try conv=>whnf)
  ·(refine ⟨⟨_,[],[],Cut.nil _,Ln.sameB _ rfl,?_,rfl⟩⟩)
   unfold orI;rw [if_pos (show a ≠ 0 from hq)];rfl
  ·(exact ⟨⟨1,⟨by omega,below_step hL (by simpa using hq)⟩,by show _ < _;omega,[],Cut.A,allA⟩⟩)
 ·have h0:a = 0:=hL 0 (by omega)
  (repeat' ((try conv=>whnf);first|(with_reducible first|refine wT ?_|refine wF ?_|(refine wI (fun hq=>?_) (fun hq=>?_) <;> try simp only [zA,zE,zD,zJ,zB,zI,wK,wL] at hq)|refine wA ?_|refine wB ?_|refine wC ?_|refine wD ?_|refine wE ?_)|((with_reducible refine wN ?_ ?_);focus exact needA)|(with_reducible refine wG ?_)|(with_reducible refine wP ?_)))
  all_goals (try conv=>whnf)
  ·(refine ⟨⟨_,[],[],Cut.nil _,Ln.sameB _ rfl,?_,rfl⟩⟩)
   unfold orI;rw [if_neg (by omega),if_pos (show b ≠ 0 from hq)];rfl
  ·(exact ⟨⟨2,⟨by omega,below_step hL (by simpa using hq)⟩,by show _ < _;omega,[],Cut.A,allA⟩⟩)
 ·have h0:a = 0:=hL 0 (by omega)
  have h1:b = 0:=hL 1 (by omega)
  (repeat' ((try conv=>whnf);first|(with_reducible first|refine wT ?_|refine wF ?_|(refine wI (fun hq=>?_) (fun hq=>?_) <;> try simp only [zA,zE,zD,zJ,zB,zI,wK,wL] at hq)|refine wA ?_|refine wB ?_|refine wC ?_|refine wD ?_|refine wE ?_)|((with_reducible refine wN ?_ ?_);focus exact needA)|(with_reducible refine wG ?_)|(with_reducible refine wP ?_)))
  all_goals (try conv=>whnf)
  ·(refine ⟨⟨_,[],[],Cut.nil _,Ln.sameB _ rfl,?_,rfl⟩⟩)
   unfold orI;rw [if_neg (by omega),if_neg (by omega)];rfl
  ·(exact ⟨⟨3,⟨by omega,below_step hL (by simpa using hq)⟩,by show _ < _;omega,[],Cut.A,allA⟩⟩)
 ·have h0:a = 0:=hL 0 (by omega)
  have h1:b = 0:=hL 1 (by omega)
  have h2:c = 0:=hL 2 (by omega)
  (repeat' ((try conv=>whnf);first|(with_reducible first|refine wT ?_|refine wF ?_|(refine wI (fun hq=>?_) (fun hq=>?_) <;> try simp only [zA,zE,zD,zJ,zB,zI,wK,wL] at hq)|refine wA ?_|refine wB ?_|refine wC ?_|refine wD ?_|refine wE ?_)|((with_reducible refine wN ?_ ?_);focus exact needA)|(with_reducible refine wG ?_)|(with_reducible refine wP ?_)))
  all_goals (try conv=>whnf)
  (refine ⟨⟨_,[],[],Cut.nil _,Ln.sameB _ rfl,?_,rfl⟩⟩)
  unfold orI;rw [if_neg (by omega),if_neg (by omega),h2]
theorem isNaN_ok (x:Nat):ACall Try.prog 80 [AU x] [] (fun r h=>r = .bool false ∧ h = []):=by
 (refine fcall_of mixed Try.func80 rfl (by decide) (hs:={}) ?k (ac:=?ac) ?c (rs:=?rs) ?r ?l ?H;(case k=>kernel_rfl);(case c=>(conv=>(lhs;cbv)));(case r=>(conv=>(lhs;cbv)));(case l=>exact Nat.le_of_ble_eq_true rfl))
 (repeat' ((try conv=>whnf);first|(with_reducible first|refine wT ?_|refine wF ?_|(refine wI (fun hq=>?_) (fun hq=>?_) <;> try simp only [zA,zE,zD,zJ,zB,zI,wK,wL] at hq)|refine wA ?_|refine wB ?_|refine wC ?_|refine wD ?_|refine wE ?_)|((with_reducible refine wN ?_ ?_);focus exact needA)|(with_reducible refine wG ?_)|(with_reducible refine wP ?_)))
 all_goals (try conv=>whnf)
 all_goals (refine ⟨⟨_,[],[],Cut.nil _,Ln.sameB _ rfl,?_,rfl⟩⟩)
 simp
theorem compare_ok (a b:Nat):ACall Try.prog 69 [AU a,AU b] [] (fun r h=>r = AI (cmpU a b) ∧ h = []):=by
 (refine fcall_of mixed Try.func69 rfl (by decide) (hs:={}) ?k (ac:=?ac) ?c (rs:=?rs) ?r ?l ?H;(case k=>kernel_rfl);(case c=>(conv=>(lhs;cbv)));(case r=>(conv=>(lhs;cbv)));(case l=>exact Nat.le_of_ble_eq_true rfl))
 (repeat' ((try conv=>whnf);first|(with_reducible first|refine wT ?_|refine wF ?_|(refine wI (fun hq=>?_) (fun hq=>?_) <;> try simp only [zA,zE,zD,zJ,zB,zI,wK,wL] at hq)|refine wA ?_|refine wB ?_|refine wC ?_|refine wD ?_|refine wE ?_)|((with_reducible refine wN ?_ ?_);focus exact needA)|(with_reducible refine wG ?_)|(refine FCall.pure ((isNaN_ok _)) ⟨Ln.sameB _ rfl,True.intro⟩ rfl ?_)|(with_reducible refine wP ?_)))
 all_goals (try conv=>whnf)
 ·(refine ⟨⟨_,[],[],Cut.nil _,Ln.sameB _ rfl,?_,rfl⟩⟩)
  unfold cmpU;rw [if_pos (by omega)]
 ·(refine ⟨⟨_,[],[],Cut.nil _,Ln.sameB _ rfl,?_,rfl⟩⟩)
  unfold cmpU;rw [if_neg (by omega),if_pos (by omega)]
 ·(refine ⟨⟨_,[],[],Cut.nil _,Ln.sameB _ rfl,?_,rfl⟩⟩)
  unfold cmpU;rw [if_neg (by omega),if_neg (by omega)]
theorem slot1_ok (f:PoF) (p:Pool) (a b:Nat) (ha:a < 2 ^ p.folk.length) (hb:b < 2 ^ p.folk.length) (h:PoolOk p):ACall Try.prog 66 [AU a,AU b,iP f p] [] (fun r h=>r = AI (cmpS p a b) ∧ h = []):=by
 have hp8:=pow8 h.n8
 have b1:=pay_b h a
 have b2:=pay_b h b
 have b3:pop a ≤ 8:=popN_le 8 a
 have b4:pop b ≤ 8:=popN_le 8 b
 have cO:=or_ok (payT p a - payT p b) ((pop a:Int) - pop b) (cmpU a b)
 (refine fcall_of mixed Try.func66 rfl (by decide) (hs:={ ord:=[(1,[(0,[]),(1,[]),(3,[]),(4,[]),(7,[]),(9,[]),(12,[]),(13,[]),(2,[3]),(5,[]),(6,[]),(8,[]),(10,[]),(11,[]),(14,[]),(15,[]),(16,[]),(17,[])])] }) ?k (ac:=?ac) ?c (rs:=?rs) ?r ?l ?H;(case k=>kernel_rfl);(case c=>(conv=>(lhs;cbv)));(case r=>(conv=>(lhs;cbv)));(case l=>exact Nat.le_of_ble_eq_true rfl))
 (repeat' ((try conv=>whnf);first|(with_reducible first|refine wT ?_|refine wF ?_|(refine wI (fun hq=>?_) (fun hq=>?_) <;> try simp only [zA,zE,zD,zJ,zB,zI,wK,wL] at hq)|refine wA ?_|refine wB ?_|refine wC ?_|refine wD ?_|refine wE ?_)|((with_reducible refine wN ?_ ?_);focus exact needA)|(with_reducible refine wG ?_)|(refine FCall.pure ((cost_ok f p a h)) ⟨Ln.sameB _ rfl,Ln.sameB _ rfl,True.intro⟩ rfl ?_)|(refine FCall.pure ((cost_ok f p b h)) ⟨Ln.sameB _ rfl,Ln.sameB _ rfl,True.intro⟩ rfl ?_)|(refine FCall.pure ((psize_ok a (by omega))) ⟨Ln.sameB _ rfl,True.intro⟩ rfl ?_)|(refine FCall.pure ((psize_ok b (by omega))) ⟨Ln.sameB _ rfl,True.intro⟩ rfl ?_)|(refine FCall.pure ((compare_ok a b)) ⟨Ln.sameB _ rfl,Ln.sameB _ rfl,True.intro⟩ rfl ?_)|(refine FCall.pure cO ⟨Ln.lit3 rfl rfl rfl,True.intro⟩ rfl ?_)|(with_reducible refine wP ?_)))
 all_goals (try conv=>whnf)
 (refine ⟨⟨_,[],[],Cut.nil _,Ln.sameB _ rfl,?_,rfl⟩⟩)
 rfl
theorem minFunc_ok (f:PoF) (p:Pool) (l:List Nat) (n:Nat) (hl:l.length = n + 1) (hn:n ≤ 1000) (hs:l.Pairwise (· < ·)) (hb:∀ g ∈ l,g < 2 ^ p.folk.length) (h:PoolOk p):ACall Try.prog 65 [aNats false false l,fCmp f p] [] (fun r h=>r = AU (bestG p l) ∧ h = []):=by
 (refine fcall_of mixed Try.func65 rfl (by decide) (hs:={}) ?k (ac:=?ac) ?c (rs:=?rs) ?r ?l ?H;(case k=>kernel_rfl);(case c=>(conv=>(lhs;cbv)));(case r=>(conv=>(lhs;cbv)));(case l=>exact Nat.le_of_ble_eq_true rfl))
 (repeat' ((try conv=>whnf);first|(with_reducible first|refine wT ?_|refine wF ?_|(refine wI (fun hq=>?_) (fun hq=>?_) <;> try simp only [zA,zE,zD,zJ,zB,zI,wK,wL] at hq)|refine wA ?_|refine wB ?_|refine wC ?_|refine wD ?_|refine wE ?_)|((with_reducible refine wN ?_ ?_);focus exact needA)|(with_reducible refine wG ?_)|(with_reducible refine wP ?_)))
 all_goals (try conv=>whnf)
 refine FLoop.of (ACalls.mono _) (X:=Nat) (fun i=>[(0,aNats false false l),(1,fCmp f p),(5,AU (bestTo p l i)),(6,AI (i + 1:Nat))]) (fun _=>[]) (fun i=>i ≤ n) (fun i=>n - i) 0 ⟨Nat.zero_le _,[],Cut.A,allA⟩ ?_
 intro i hi
 obtain ⟨j,j1,j2⟩:=bestTo_mem p l i (by omega)
 by_cases hlt:i < n
 ·have hg:l.getD (i + 1) 0 < 2 ^ p.folk.length:=hb _ (getD_memN (by omega))
  have hbt:bestTo p l i < 2 ^ p.folk.length:=by rw [j2];exact hb _ (getD_memN (by omega))
  have hord:bestTo p l i < l.getD (i + 1) 0:=by rw [j2];exact sorted_get hs (by omega) (by omega)
  have hcm:=cmpS_b (p:=p) hord
  have hst:bestTo p l (i + 1) = stepB p (bestTo p l i) (l.getD (i + 1) 0):=rfl
  unfold stepB at hst
  have cS:=slot1_ok f p (l.getD (i + 1) 0) (bestTo p l i) hg hbt h
  (repeat' ((try conv=>whnf);first|(with_reducible first|refine wT ?_|refine wF ?_|(refine wI (fun hq=>?_) (fun hq=>?_) <;> try simp only [zA,zE,zD,zJ,zB,zI,wK,wL] at hq)|refine wA ?_|refine wB ?_|refine wC ?_|refine wD ?_|refine wE ?_)|((with_reducible refine wN ?_ ?_);focus exact needA)|(with_reducible refine wG ?_)|(refine FCall.pure (cS) ⟨Ln.sameB _ rfl,Ln.sameB _ rfl,Ln.sameB _ rfl,True.intro⟩ rfl ?_)|(with_reducible refine wP ?_)))
  all_goals (try conv=>whnf)
  ·rw [if_pos (hcm.1 hq)] at hst
   (exact ⟨⟨(i + 1),hlt,by show _ < _;omega,[],Cut.A,allA⟩⟩)
  ·rw [if_neg (fun hh=>by have:=hcm.2 hh;omega)] at hst
   (exact ⟨⟨(i + 1),hlt,by show _ < _;omega,[],Cut.A,allA⟩⟩)
 ·obtain rfl:i = n:=by omega
  (repeat' ((try conv=>whnf);first|(with_reducible first|refine wT ?_|refine wF ?_|(refine wI (fun hq=>?_) (fun hq=>?_) <;> try simp only [zA,zE,zD,zJ,zB,zI,wK,wL] at hq)|refine wA ?_|refine wB ?_|refine wC ?_|refine wD ?_|refine wE ?_)|((with_reducible refine wN ?_ ?_);focus exact needA)|(with_reducible refine wG ?_)|(with_reducible refine wP ?_)))
  all_goals (try conv=>whnf)
  (refine ⟨⟨_,[],[],Cut.nil _,Ln.sameB _ rfl,?_,rfl⟩⟩)
  unfold bestG;rw [hl];rfl
theorem pSlot_n (f:PoF) (p:Pool) (s:Int) (hn:NearP p) (hk:p.ok = false):ACall Try.prog 36 [aPool f p,AI s] [] (fun r h=>r = .tup 3 (ofL [AI (slotE p s).1,AI (slotE p s).2.1,AI (slotE p s).2.2]) ∧ h = []):=by
 have cO:=open_n f p hn (by rw [check_100 hk];decide)
 rw [check_100 hk] at cO
 (refine fcall_of mixed Try.func36 rfl (by decide) (hs:={ pub:=[9] }) ?k (ac:=?ac) ?c (rs:=?rs) ?r ?l ?H;(case k=>kernel_rfl);(case c=>(conv=>(lhs;cbv)));(case r=>(conv=>(lhs;cbv)));(case l=>exact Nat.le_of_ble_eq_true rfl))
 (repeat' ((try conv=>whnf);first|(with_reducible first|refine wT ?_|refine wF ?_|(refine wI (fun hq=>?_) (fun hq=>?_) <;> try simp only [zA,zE,zD,zJ,zB,zI,wK,wL] at hq)|refine wA ?_|refine wB ?_|refine wC ?_|refine wD ?_|refine wE ?_)|((with_reducible refine wN ?_ ?_);focus exact needA)|(with_reducible refine wG ?_)|(refine FCall.pure (cO) ⟨Ln.sameB _ rfl,True.intro⟩ rfl ?_)|(with_reducible refine wP ?_)))
 all_goals (try conv=>whnf)
 (refine ⟨⟨_,[],[],Cut.nil _,Ln.sameB _ rfl,?_,rfl⟩⟩)
 unfold slotE;rw [hk];rfl
theorem pSlot_y (f:PoF) (p:Pool) (s:Int) (hn:NearP p) (hk:p.ok = true):ACall Try.prog 36 [aPool f p,AI s] [] (fun r h=>r = .tup 3 (ofL [AI (slotE p s).1,AI (slotE p s).2.1,AI (slotE p s).2.2]) ∧ h = []):=by
 have cO:=open_y f p hn (check_0.2 hk)
 have h:=pool_d hk
 have s6:=h.s6
 have hp8:=pow8 h.n8
 (refine fcall_of mixed Try.func36 rfl (by decide) (hs:={ pub:=[9] }) ?k (ac:=?ac) ?c (rs:=?rs) ?r ?l ?H;(case k=>kernel_rfl);(case c=>(conv=>(lhs;cbv)));(case r=>(conv=>(lhs;cbv)));(case l=>exact Nat.le_of_ble_eq_true rfl))
 by_cases hs:0 ≤ s ∧ s ≤ p.needs.length - 1
 ·obtain ⟨i,rfl⟩:∃ i:Nat,s = i:=⟨s.toNat,by omega⟩
  have cS:=slot_ok f p i (by omega) h
  have hE:slotE p i = match coversT p i with|[]=>(0,0,3)|g :: l=>((bestG p (g :: l):Int),payT p (bestG p (g :: l)),0):=by
   unfold slotE;rw [if_pos hk,if_pos (decide_eq_true hs),Int.toNat_natCast]
   try rfl
  have hsrt:=covers_sorted p i
  have hmem:=fun g=>covers_mem (p:=p) (s:=i) (g:=g)
  have hlen:=covers_len p i
  rcases hL:coversT p i with _|⟨g,l⟩
  ·rw [hL] at hE cS
   have hE:slotE p i = (0,0,3):=hE
   rw [hE]
   (repeat' ((try conv=>whnf);first|(with_reducible first|refine wT ?_|refine wF ?_|(refine wI (fun hq=>?_) (fun hq=>?_) <;> try simp only [zA,zE,zD,zJ,zB,zI,wK,wL] at hq)|refine wA ?_|refine wB ?_|refine wC ?_|refine wD ?_|refine wE ?_)|((with_reducible refine wN ?_ ?_);focus exact needA)|(with_reducible refine wG ?_)|(refine FCall.pure (cO) ⟨Ln.sameB _ rfl,True.intro⟩ rfl ?_)|(refine FCall.pure (cS) ⟨Ln.sameB _ rfl,Ln.sameB _ rfl,True.intro⟩ rfl ?_)|(with_reducible refine wP ?_)))
   all_goals (try conv=>whnf)
   (refine ⟨⟨_,[],[],Cut.nil _,Ln.sameB _ rfl,?_,rfl⟩⟩)
   rfl
  ·rw [hL] at hE cS hsrt hmem hlen
   have hE:slotE p i = ((bestG p (g :: l):Int),payT p (bestG p (g :: l)),0):=hE
   rw [hE]
   have hlen:l.length + 1 ≤ 2 ^ p.folk.length:=hlen
   obtain ⟨j,j1,j2⟩:=bestTo_mem p (g :: l) l.length (by simp)
   have hbl:bestG p (g :: l) < 2 ^ p.folk.length:=by
    unfold bestG
    rw [show (g :: l).length - 1 = l.length by simp,j2]
    exact (hmem _ (getD_memN (by simp;omega))).1
   have cM:=minFunc_ok f p (g :: l) l.length rfl (by omega) hsrt (fun g hg=>(hmem g hg).1) h
   generalize bestG p (g :: l) = B at *
   have cS:ACall Try.prog 46 [iOpen f p,AI i] [] (fun r h=>r = aNats false false (g :: l) ∧ h = []):=cS
   (repeat' ((try conv=>whnf);first|(with_reducible first|refine wT ?_|refine wF ?_|(refine wI (fun hq=>?_) (fun hq=>?_) <;> try simp only [zA,zE,zD,zJ,zB,zI,wK,wL] at hq)|refine wA ?_|refine wB ?_|refine wC ?_|refine wD ?_|refine wE ?_)|((with_reducible refine wN ?_ ?_);focus exact needA)|(with_reducible refine wG ?_)|(refine FCall.pure (cO) ⟨Ln.sameB _ rfl,True.intro⟩ rfl ?_)|(refine FCall.pure (cS) ⟨Ln.sameB _ rfl,Ln.sameB _ rfl,True.intro⟩ rfl ?_)|(with_reducible refine wP ?_)))
   all_goals (try conv=>whnf)
   refine FWk.of [(7,iP f p),(8,aNats false false (g :: l))] [] [] (Cut.nil _) ⟨Ln.boxP (m:=1) (goneB rfl) rfl ⟨True.intro,Ln.A⟩ rfl,Ln.A,True.intro⟩ ?_
   (repeat' ((try conv=>whnf);first|(with_reducible first|refine wT ?_|refine wF ?_|(refine wI (fun hq=>?_) (fun hq=>?_) <;> try simp only [zA,zE,zD,zJ,zB,zI,wK,wL] at hq)|refine wA ?_|refine wB ?_|refine wC ?_|refine wD ?_|refine wE ?_)|((with_reducible refine wN ?_ ?_);focus exact needA)|(with_reducible refine wG ?_)|(refine FCall.pure (cM) ⟨Ln.sameB _ rfl,Ln.sameB _ rfl,True.intro⟩ rfl ?_)|(refine FCall.pure ((cost_ok f p B h)) ⟨Ln.sameB _ rfl,Ln.sameB _ rfl,True.intro⟩ rfl ?_)|(with_reducible refine wP ?_)))
   all_goals (try conv=>whnf)
   (refine ⟨⟨_,[],[],Cut.nil _,Ln.sameB _ rfl,?_,rfl⟩⟩)
   rfl
 ·have hE:slotE p s = (0,0,1):=by unfold slotE;rw [if_pos hk,if_neg (by rw [show inB s 0 (p.needs.length - 1) = false from decide_eq_false hs];decide)]
  rw [hE]
  (repeat' ((try conv=>whnf);first|(with_reducible first|refine wT ?_|refine wF ?_|(refine wI (fun hq=>?_) (fun hq=>?_) <;> try simp only [zA,zE,zD,zJ,zB,zI,wK,wL] at hq)|refine wA ?_|refine wB ?_|refine wC ?_|refine wD ?_|refine wE ?_)|((with_reducible refine wN ?_ ?_);focus exact needA)|(with_reducible refine wG ?_)|(refine FCall.pure (cO) ⟨Ln.sameB _ rfl,True.intro⟩ rfl ?_)|(with_reducible refine wP ?_)))
  all_goals (try conv=>whnf)
  all_goals (refine ⟨⟨_,[],[],Cut.nil _,Ln.sameB _ rfl,?_,rfl⟩⟩)
  all_goals rfl
theorem pSlot_ok (f:PoF) (p:Pool) (s:Int) (hn:NearP p):ACall Try.prog 36 [aPool f p,AI s] [] (fun r h=>r = .tup 3 (ofL [AI (slotE p s).1,AI (slotE p s).2.1,AI (slotE p s).2.2]) ∧ h = []):=by
 cases hk:p.ok
 ·exact pSlot_n f p s hn hk
 ·exact pSlot_y f p s hn hk
end Go.Proofs.Ytbhjehpjjbbhbaa

namespace Go.Proofs.Ytbhjehpjjbbhbaa
open Go.RowKit

def isMiss (p:Pool) (s g i:Nat):Bool:=coveredT p s g && !coveredT p s (sdiff g (2 ^ i))
def missTo (p:Pool) (w:List Int) (i:Nat):Nat → Nat
 | 0=>0
 | s + 1=>missTo p w i s + if isMiss p s (w.getD s 0).toNat i then 1 else 0
theorem missTo_le (p:Pool) (w:List Int) (i:Nat):∀ s,missTo p w i s ≤ s
 | 0=>Nat.le_refl _
 | s + 1=>by have:=missTo_le p w i s;simp only [missTo];split <;> omega
def missL (p:Pool) (w:List Int):List Int:=(List.range p.folk.length).map fun i=>((missTo p w i w.length:Nat):Int)
def missedE (p:Pool) (w:List Int):List Int × Int:=if checkW p w = 0 then (missL p w,0) else ([],checkW p w)
abbrev outI (l:List Int):AV:=aInts l.isEmpty l.isEmpty l
theorem outI_of {l:List Int} {m:Nat} (h:m + 1 = l.length):outI l = aInts false false l:=by
 show aInts l.isEmpty l.isEmpty l = _
 rw [isE_n h]
theorem missL_len (p:Pool) (w:List Int):(missL p w).length = p.folk.length:=by simp [missL]
theorem missL_get {p:Pool} {w:List Int} {i:Nat} (h:i < p.folk.length):(missL p w).getD i 0 = (missTo p w i w.length:Nat):=by simp [missL,List.getD,h]
def missAt (p:Pool) (w:List Int) (s i k:Nat):Int:=if k < i then (missTo p w k (s + 1):Int) else (missTo p w k s:Int)
theorem sdiff_pow_lt {p:Pool} {g i:Nat} (h:g < 2 ^ p.folk.length):sdiff g (2 ^ i) < 2 ^ p.folk.length:=sdiff_lt h
set_option maxHeartbeats 4000000
set_option maxRecDepth 100000
theorem pMissed_ok (f:PoF) (p:Pool) (z e:Bool) (w:List Int) (hn:NearP p) (hw:∀ s,s < w.length → in64 (w.getD s 0)) (hl:w.length ≤ 1000):ACall Try.prog 24 [aPool f p,aInts z e w] [] (fun r h=>r = .tup 2 (ofL [outI (missedE p w).1,AI (missedE p w).2]) ∧ h = []):=by
 (refine fcall_of mixed Try.func24 rfl (by decide) (hs:={}) ?k (ac:=?ac) ?c (rs:=?rs) ?r ?l ?H;(case k=>kernel_rfl);(case c=>(conv=>(lhs;cbv)));(case r=>(conv=>(lhs;cbv)));(case l=>exact Nat.le_of_ble_eq_true rfl))
 by_cases hk:checkW p w = 0
 ·have cW:=watched_ok (f:=f) (z:=z) (e:=e) hn hw hk
  obtain ⟨h,k⟩:=checkW_d hk
  have s6:=h.s6
  have n8:=h.n8
  have n1:=h.n1
  have hp8:=pow8 h.n8
  have hlen:=k.len
  have hE:missedE p w = (missL p w,0):=by unfold missedE;rw [if_pos hk]
  rw [hE]
  have hoI:outI (missL p w) = aInts false false (missL p w):=outI_of (m:=p.folk.length - 1) (by rw [missL_len];omega)
  (repeat' ((try conv=>whnf);first|(with_reducible first|refine wT ?_|refine wF ?_|(refine wI (fun hq=>?_) (fun hq=>?_) <;> try simp only [zA,zE,zD,zJ,zB,zI,wK,wL] at hq)|refine wA ?_|refine wB ?_|refine wC ?_|refine wD ?_|refine wE ?_)|((with_reducible refine wN ?_ ?_);focus exact needA)|(with_reducible refine wG ?_)|(refine FCall.pure (cW) ⟨Ln.sameB _ rfl,Ln.sameB _ rfl,True.intro⟩ rfl ?_)|(with_reducible refine wP ?_)))
  all_goals (try conv=>whnf)
  refine FLoop.of (ACalls.mono _) (X:=Nat) (fun s=>[(2,.ptr 0 0),(6,iOpen f p),(8,.own 1 p.folk.length),(26,aInts z e w),(27,AI w.length),(28,AI s)]) (fun s=>[.box 4 (cPool f p),rowZ p.folk.length (fun k=>(missTo p w k s:Nat))]) (fun s=>s ≤ w.length) (fun s=>w.length - s) 0 ⟨Nat.zero_le _,[0,1],wO rfl rfl rfl (wV rfl LnB.A (wV rfl (LnB.rowE (by omega) (fun k hk o ho=>by obtain rfl:o = 0:=(by omega);rfl)) wX)),allA⟩ ?_
  intro s hs
  by_cases hlt:s < w.length
  ·obtain ⟨e1,e2,_⟩:=k.el s hlt
   obtain ⟨m,hm⟩:∃ m:Nat,w.getD s 0 = m:=⟨(w.getD s 0).toNat,by omega⟩
   rw [hm,Int.toNat_natCast] at e2
   have cA:=pcovered_ok f p s m (by omega) e2 h
   (repeat' ((try conv=>whnf);first|(with_reducible first|refine wT ?_|refine wF ?_|(refine wI (fun hq=>?_) (fun hq=>?_) <;> try simp only [zA,zE,zD,zJ,zB,zI,wK,wL] at hq)|refine wA ?_|refine wB ?_|refine wC ?_|refine wD ?_|refine wE ?_)|((with_reducible refine wN ?_ ?_);focus exact needA)|(with_reducible first|refine FBit.hasT rfl (by assumption) ?_|refine FBit.hasF rfl (by assumption) ?_|refine FBit.shrN rfl (by omega) ?_|refine FBit.half rfl ?_|refine FBit.shl1 rfl (by omega) ?_|refine Fits.inU (by omega) ?_|refine FBit.shrNI rfl (by omega) ?_|refine FBit.shrIN rfl (by omega) (by omega) ?_|refine FBit.shrI rfl (by omega) (by omega) ?_|refine FBit.shl1I rfl (by omega) ?_)|(with_reducible refine FBit.has rfl (fun hq=>?_) (fun hq=>?_))|(with_reducible first|refine FBit.and1 rfl ?_|refine FBit.andN rfl (by omega) (by omega) ?_|refine FBit.orN rfl (by omega) (by omega) ?_|refine FBit.andNotN rfl (by omega) (by omega) ?_)|(with_reducible refine wG ?_)|(with_reducible refine wP ?_)))
   all_goals (try conv=>whnf)
   refine FLoop.of (ACalls.mono _) (X:=Nat) (fun i=>[(2,.ptr 0 0),(6,iOpen f p),(8,.own 1 p.folk.length),(9,AI s),(11,AU m),(26,aInts z e w),(27,AI w.length),(28,AI s),(37,AI p.folk.length),(38,AI i)]) (fun i=>[.box 4 (cPool f p),rowZ p.folk.length (missAt p w s i)]) (fun i=>i ≤ p.folk.length) (fun i=>p.folk.length - i) 0 ⟨Nat.zero_le _,[0,1],wO rfl rfl rfl (wV rfl LnB.A (wV rfl (LnB.rowE (Nat.le_refl _) (fun k hk o ho=>int_eq (if_neg (Nat.not_lt_zero k)))) wX)),allA⟩ ?_
   intro i hi2
   by_cases hlt2:i < p.folk.length
   ·have hle:=missTo_le p w i s
    have hst:missTo p w i (s + 1) = missTo p w i s + if isMiss p s m i then 1 else 0:=by rw [missTo,hm,Int.toNat_natCast]
    have hat:missAt p w s i i = (missTo p w i s:Nat):=if_neg (Nat.lt_irrefl i)
    have hpi:=pow8 (n:=i) (by omega)
    have cB:=pcovered_ok f p s (sdiff m (2 ^ i)) (by omega) (sdiff_pow_lt e2) h
    have hrowN:∀ x,x = (missTo p w i (s + 1):Int) → ∀ k,k < p.folk.length → ∀ o,o < 1 → AI (missAt p w s (i + 1) k) = updRm (fun k x=>AI (missAt p w s i k)) i (fun _=>AI x) k o:=fun x hx k hk o ho=>by
     subst hx
     simp only [updRm,missAt]
     by_cases e:k = i
     ·subst e;rw [if_pos (by omega),if_pos rfl]
     ·rw [if_neg e]
      by_cases e2:k < i
      ·rw [if_pos (by omega),if_pos e2]
      ·rw [if_neg (by omega),if_neg e2]
    have hrowS:missTo p w i (s + 1) = missTo p w i s → ∀ k,k < p.folk.length → ∀ o,o < 1 → AI (missAt p w s (i + 1) k) = AI (missAt p w s i k):=fun hx k hk o ho=>by
     simp only [missAt]
     by_cases e:k = i
     ·subst e;rw [if_pos (by omega),if_neg (by omega),hx]
     ·by_cases e2:k < i
      ·rw [if_pos (by omega),if_pos e2]
      ·rw [if_neg (by omega),if_neg e2]
    (repeat' ((try conv=>whnf);first|(with_reducible first|refine wT ?_|refine wF ?_|(refine wI (fun hq=>?_) (fun hq=>?_) <;> try simp only [zA,zE,zD,zJ,zB,zI,wK,wL] at hq)|refine wA ?_|refine wB ?_|refine wC ?_|refine wD ?_|refine wE ?_)|((with_reducible refine wN ?_ ?_);focus exact needA)|(with_reducible first|refine FBit.hasT rfl (by assumption) ?_|refine FBit.hasF rfl (by assumption) ?_|refine FBit.shrN rfl (by omega) ?_|refine FBit.half rfl ?_|refine FBit.shl1 rfl (by omega) ?_|refine Fits.inU (by omega) ?_|refine FBit.shrNI rfl (by omega) ?_|refine FBit.shrIN rfl (by omega) (by omega) ?_|refine FBit.shrI rfl (by omega) (by omega) ?_|refine FBit.shl1I rfl (by omega) ?_)|(with_reducible refine FBit.has rfl (fun hq=>?_) (fun hq=>?_))|(with_reducible first|refine FBit.and1 rfl ?_|refine FBit.andN rfl (by omega) (by omega) ?_|refine FBit.orN rfl (by omega) (by omega) ?_|refine FBit.andNotN rfl (by omega) (by omega) ?_)|(with_reducible refine wG ?_)|(refine FCall.pure (cA) ⟨Ln.sameB _ rfl,Ln.sameB _ rfl,Ln.sameB _ rfl,True.intro⟩ rfl ?_)|(refine FCall.pure (cB) ⟨Ln.sameB _ rfl,Ln.sameB _ rfl,Ln.sameB _ rfl,True.intro⟩ rfl ?_)|(refine FBit.andNotN rfl (by omega) (by omega) ?_)|(with_reducible refine wP ?_)))
    all_goals (try conv=>whnf)
    ·rw [show isMiss p s m i = true by unfold isMiss;rw [show coveredT p s m = true by assumption,hq];rfl,if_pos rfl] at hst
     (exact ⟨⟨(i + 1),hlt2,by show _ < _;omega,[0,1],(by (refine wO rfl rfl rfl ?_;repeat (first|exact wX|(refine wV rfl (by first|exact LnB.rowS|exact LnB.rowE (Nat.le_refl _) (hrowN _ (by omega))|exact LnB.A) ?_)|(refine CutL.gone (Nat.lt_of_lt_of_le (Nat.lt_succ_self _) (Nat.le_of_ble_eq_true rfl)) ?_)))),allA⟩⟩)
    ·rw [show isMiss p s m i = false by unfold isMiss;rw [hq,Bool.not_true,Bool.and_false],if_neg (by decide)] at hst
     (exact ⟨⟨(i + 1),hlt2,by show _ < _;omega,[0,1],(by (refine wO rfl rfl rfl ?_;repeat (first|exact wX|(refine wV rfl (by first|exact LnB.rowS|exact LnB.rowE (Nat.le_refl _) (hrowS (by omega))|exact LnB.A) ?_)|(refine CutL.gone (Nat.lt_of_lt_of_le (Nat.lt_succ_self _) (Nat.le_of_ble_eq_true rfl)) ?_)))),allA⟩⟩)
    ·rw [show isMiss p s m i = false by unfold isMiss;rw [hq];rfl,if_neg (by decide)] at hst
     (exact ⟨⟨(i + 1),hlt2,by show _ < _;omega,[0,1],(by (refine wO rfl rfl rfl ?_;repeat (first|exact wX|(refine wV rfl (by first|exact LnB.rowS|exact LnB.rowE (Nat.le_refl _) (hrowS (by omega))|exact LnB.A) ?_)|(refine CutL.gone (Nat.lt_of_lt_of_le (Nat.lt_succ_self _) (Nat.le_of_ble_eq_true rfl)) ?_)))),allA⟩⟩)
   ·obtain rfl:i = p.folk.length:=by omega
    (repeat' ((try conv=>whnf);first|(with_reducible first|refine wT ?_|refine wF ?_|(refine wI (fun hq=>?_) (fun hq=>?_) <;> try simp only [zA,zE,zD,zJ,zB,zI,wK,wL] at hq)|refine wA ?_|refine wB ?_|refine wC ?_|refine wD ?_|refine wE ?_)|((with_reducible refine wN ?_ ?_);focus exact needA)|(with_reducible refine wG ?_)|(with_reducible refine wP ?_)))
    all_goals (try conv=>whnf)
    (exact ⟨⟨(s + 1),hlt,by show _ < _;omega,[0,1],(by (refine wO rfl rfl rfl ?_;repeat (first|exact wX|(refine wV rfl (by first|exact LnB.rowS|exact LnB.rowE (Nat.le_refl _) (fun k hk o ho=>int_eq (if_pos hk).symm)|exact LnB.A) ?_)|(refine CutL.gone (Nat.lt_of_lt_of_le (Nat.lt_succ_self _) (Nat.le_of_ble_eq_true rfl)) ?_)))),allA⟩⟩)
  ·obtain rfl:s = w.length:=by omega
   (repeat' ((try conv=>whnf);first|(with_reducible first|refine wT ?_|refine wF ?_|(refine wI (fun hq=>?_) (fun hq=>?_) <;> try simp only [zA,zE,zD,zJ,zB,zI,wK,wL] at hq)|refine wA ?_|refine wB ?_|refine wC ?_|refine wD ?_|refine wE ?_)|((with_reducible refine wN ?_ ?_);focus exact needA)|(with_reducible refine wG ?_)|(with_reducible refine wP ?_)))
   all_goals (try conv=>whnf)
   rw [hoI]
   exact ⟨⟨.tup 2 (ofL [aInts false false (missL p w),AI 0]),[],[],Cut.nil _,Ln.tupN ⟨⟨True.intro,Ln.pubE (goneB rfl) rfl (Nat.le_refl _) (missL_len p w).symm (fun k hk o ho=>int_eq (missL_get hk))⟩,Ln.A⟩,rfl,rfl⟩⟩
 ·have cW:=watched_no (f:=f) (z:=z) (e:=e) hn hw hk
  have hE:missedE p w = ([],checkW p w):=by unfold missedE;rw [if_neg hk]
  rw [hE]
  (repeat' ((try conv=>whnf);first|(with_reducible first|refine wT ?_|refine wF ?_|(refine wI (fun hq=>?_) (fun hq=>?_) <;> try simp only [zA,zE,zD,zJ,zB,zI,wK,wL] at hq)|refine wA ?_|refine wB ?_|refine wC ?_|refine wD ?_|refine wE ?_)|((with_reducible refine wN ?_ ?_);focus exact needA)|(with_reducible refine wG ?_)|(refine FCall.pure (cW) ⟨Ln.sameB _ rfl,Ln.sameB _ rfl,True.intro⟩ rfl ?_)|(with_reducible refine wP ?_)))
  all_goals (try conv=>whnf)
  exact ⟨⟨.tup 2 (ofL [outI [],AI (checkW p w)]),[],[],Cut.nil _,Ln.tupN ⟨⟨True.intro,Ln.slz _ _ _ _ _ _ _ (by decide)⟩,Ln.A⟩,rfl,rfl⟩⟩
end Go.Proofs.Ytbhjehpjjbbhbaa

namespace Go.Proofs.Ytbhjehpjjbbhbaa
open Go.RowKit

structure GapT where
 slot:Int
 ill:Int
 tongues:Int
 missing:Int
def gap0 : GapT:=⟨0,0,0,0⟩
abbrev cGap (x:GapT):Nat → AV:=ofL [AI x.slot,AI x.ill,AI x.tongues,AI x.missing]
abbrev aGap (x:GapT):AV:=.agg 4 (cGap x)
def gapT (p:Pool) (s g ill:Nat) (x:GapT):Nat → GapT
 | 0=>x
 | k + 1=>if (gapT p s g ill x k).missing < missT p s (sdiff g ill) k then ⟨s,ill,k,missT p s (sdiff g ill) k⟩ else gapT p s g ill x k
def gapI (p:Pool) (s g:Nat) (x:GapT):Nat → GapT
 | 0=>x
 | k + 1=>if (pop ((subs g).getD k 0):Int) ≤ p.ill then gapT p s g ((subs g).getD k 0) (gapI p s g x k) (2 ^ p.nT) else gapI p s g x k
def gapS (p:Pool) (w:List Int):Nat → GapT
 | 0=>gap0
 | s + 1=>gapI p s (w.getD s 0).toNat (gapS p w s) (subs (w.getD s 0).toNat).length
def weakT (p:Pool) (w:List Int):GapT:=gapS p w w.length
def weakE (p:Pool) (w:List Int):GapT × Int:=if checkW p w = 0 then (if (weakT p w).missing = 0 then (gap0,3) else (weakT p w,0)) else (gap0,checkW p w)
theorem gapT_nn {p:Pool} {s g ill:Nat} {x:GapT} (h:0 ≤ x.missing) (hz:x.missing = 0 → x = gap0):∀ k,0 ≤ (gapT p s g ill x k).missing ∧ ((gapT p s g ill x k).missing = 0 → gapT p s g ill x k = gap0)
 | 0=>⟨h,hz⟩
 | k + 1=>by
  have ih:=gapT_nn h hz (p:=p) (s:=s) (g:=g) (ill:=ill) k
  rw [gapT]
  split
  ·rename_i hl
   refine ⟨by show 0 ≤ missT p s (sdiff g ill) k;omega,fun e=>?_⟩
   have e:missT p s (sdiff g ill) k = 0:=e
   omega
  ·exact ih
theorem gapI_nn {p:Pool} {s g:Nat} {x:GapT} (h:0 ≤ x.missing) (hz:x.missing = 0 → x = gap0):∀ k,0 ≤ (gapI p s g x k).missing ∧ ((gapI p s g x k).missing = 0 → gapI p s g x k = gap0)
 | 0=>⟨h,hz⟩
 | k + 1=>by
  have ih:=gapI_nn h hz (p:=p) (s:=s) (g:=g) k
  rw [gapI]
  split
  ·exact gapT_nn ih.1 ih.2 _
  ·exact ih
theorem gapS_nn (p:Pool) (w:List Int):∀ s,0 ≤ (gapS p w s).missing ∧ ((gapS p w s).missing = 0 → gapS p w s = gap0)
 | 0=>⟨Int.le_refl _,fun _=>rfl⟩
 | s + 1=>gapI_nn (gapS_nn p w s).1 (gapS_nn p w s).2 _
theorem and_sdiff (a b c:Nat):sdiff (a &&& b) c = a &&& sdiff b c:=by
 apply Nat.eq_of_testBit_eq
 intro i
 rw [testBit_sdiff,Nat.testBit_and,Nat.testBit_and,testBit_sdiff]
 cases a.testBit i <;> cases b.testBit i <;> cases c.testBit i <;> rfl
theorem subs_len {g:Nat} (hg:g < 256):(subs g).length ≤ 256:=by
 have:=List.length_filter_le (fun a=>decide (sdiff a g = 0)) (List.range (g + 1))
 simp only [List.length_range] at this
 unfold subs;omega
set_option maxHeartbeats 4000000
set_option maxRecDepth 100000
theorem pWeak_ok (f:PoF) (p:Pool) (z e:Bool) (w:List Int) (hn:NearP p) (hw:∀ s,s < w.length → in64 (w.getD s 0)) (hl:w.length ≤ 1000):ACall Try.prog 25 [aPool f p,aInts z e w] [] (fun r h=>r = .tup 2 (ofL [aGap (weakE p w).1,AI (weakE p w).2]) ∧ h = []):=by
 (refine fcall_of mixed Try.func25 rfl (by decide) (hs:={ ord:=[(10,[(0,[]),(2,[]),(3,[]),(1,[3]),(4,[])])] }) ?k (ac:=?ac) ?c (rs:=?rs) ?r ?l ?H;(case k=>kernel_rfl);(case c=>(conv=>(lhs;cbv)));(case r=>(conv=>(lhs;cbv)));(case l=>exact Nat.le_of_ble_eq_true rfl))
 by_cases hk:checkW p w = 0
 ·have cW:=watched_ok (f:=f) (z:=z) (e:=e) hn hw hk
  obtain ⟨h,k⟩:=checkW_d hk
  have s6:=h.s6
  have n8:=h.n8
  have hp8:=pow8 h.n8
  have hp5:=pow5 h.t5
  have hlen:=k.len
  (repeat' ((try conv=>whnf);first|(with_reducible first|refine wT ?_|refine wF ?_|(refine wI (fun hq=>?_) (fun hq=>?_) <;> try simp only [zA,zE,zD,zJ,zB,zI,wK,wL] at hq)|refine wA ?_|refine wB ?_|refine wC ?_|refine wD ?_|refine wE ?_)|((with_reducible refine wN ?_ ?_);focus exact needA)|(with_reducible refine wG ?_)|(refine FCall.pure (cW) ⟨Ln.sameB _ rfl,Ln.sameB _ rfl,True.intro⟩ rfl ?_)|(with_reducible refine wP ?_)))
  all_goals (try conv=>whnf)
  refine FLoop.of (ACalls.mono _) (X:=Nat) (fun s=>[(2,.ptr 0 0),(4,.ptr 1 0),(6,.ptr 2 0),(8,.ptr 3 0),(25,aInts z e w),(26,AI w.length),(27,AI s)]) (fun s=>[.box 4 (cPool f p),.box 4 (cGap gap0),.box 1 (ofL [iOpen f p]),.box 4 (cGap (gapS p w s))]) (fun s=>s ≤ w.length) (fun s=>w.length - s) 0 ⟨Nat.zero_le _,[0,1,2,3],Cut.A,allA⟩ ?_
  intro s hs
  have hnn:=gapS_nn p w s
  by_cases hlt:s < w.length
  ·obtain ⟨e1,e2,_⟩:=k.el s hlt
   obtain ⟨m,hm⟩:∃ m:Nat,w.getD s 0 = m:=⟨(w.getD s 0).toNat,by omega⟩
   have hst:gapS p w (s + 1) = gapI p s (w.getD s 0).toNat (gapS p w s) (subs (w.getD s 0).toNat).length:=rfl
   rw [hm,Int.toNat_natCast] at e2 hst
   have hit:=parts_it m (by omega)
   have hsa:=subs_at (g:=m) (by omega)
   generalize gapS p w s = x0 at *
   (repeat' ((try conv=>whnf);first|(with_reducible first|refine wT ?_|refine wF ?_|(refine wI (fun hq=>?_) (fun hq=>?_) <;> try simp only [zA,zE,zD,zJ,zB,zI,wK,wL] at hq)|refine wA ?_|refine wB ?_|refine wC ?_|refine wD ?_|refine wE ?_)|((with_reducible refine wN ?_ ?_);focus exact needA)|(with_reducible first|refine FBit.hasT rfl (by assumption) ?_|refine FBit.hasF rfl (by assumption) ?_|refine FBit.shrN rfl (by omega) ?_|refine FBit.half rfl ?_|refine FBit.shl1 rfl (by omega) ?_|refine Fits.inU (by omega) ?_|refine FBit.shrNI rfl (by omega) ?_|refine FBit.shrIN rfl (by omega) (by omega) ?_|refine FBit.shrI rfl (by omega) (by omega) ?_|refine FBit.shl1I rfl (by omega) ?_)|(with_reducible refine FBit.has rfl (fun hq=>?_) (fun hq=>?_))|(with_reducible first|refine FBit.and1 rfl ?_|refine FBit.andN rfl (by omega) (by omega) ?_|refine FBit.orN rfl (by omega) (by omega) ?_|refine FBit.andNotN rfl (by omega) (by omega) ?_)|(with_reducible refine wG ?_)|(with_reducible refine wP ?_)))
   all_goals (try conv=>whnf)
   rw [hm]
   refine FRange.ofM (ACalls.mono _) (X:=GapT) (subs m).length (fun k=>[AU ((subs m).getD k 0)]) (fun x=>[(2,.ptr 0 0),(4,.ptr 1 0),(6,.ptr 2 0),(8,.ptr 3 0),(9,.ptr 4 0),(10,.ptr 5 0),(25,aInts z e w),(26,AI w.length),(27,AI s),(34,.mv 53 1 (ofL [AU m]))]) (fun x=>[.box 4 (cPool f p),.box 4 (cGap gap0),.box 1 (ofL [iOpen f p]),.box 4 (cGap x),.box 1 (ofL [AI s]),.box 1 (ofL [AI m])])
    (fun k x=>x = gapI p s m x0 k) x0 ⟨rfl,[0,1,2,3,4,5],Cut.A,allA⟩ rfl rfl hit (fun _ _=>rfl) ?round ?done
   case round =>
    rintro q x hq1 rfl
    obtain ⟨_,_,q3⟩:=hsa.2.2 q hq1
    have hstI:gapI p s m x0 (q + 1) = if (pop ((subs m).getD q 0):Int) ≤ p.ill then gapT p s m ((subs m).getD q 0) (gapI p s m x0 q) (2 ^ p.nT) else gapI p s m x0 q:=rfl
    have hin:=gapI_nn (p:=p) (s:=s) (g:=m) hnn.1 hnn.2 q
    generalize gapI p s m x0 q = y at *
    generalize (subs m).getD q 0 = a at *
    by_cases hpop:(pop a:Int) ≤ p.ill
    ·rw [if_pos hpop] at hstI
     (repeat' ((try conv=>whnf);first|(with_reducible first|refine wT ?_|refine wF ?_|(refine wI (fun hq=>?_) (fun hq=>?_) <;> try simp only [zA,zE,zD,zJ,zB,zI,wK,wL] at hq)|refine wA ?_|refine wB ?_|refine wC ?_|refine wD ?_|refine wE ?_)|((with_reducible refine wN ?_ ?_);focus exact needA)|(with_reducible first|refine FBit.hasT rfl (by assumption) ?_|refine FBit.hasF rfl (by assumption) ?_|refine FBit.shrN rfl (by omega) ?_|refine FBit.half rfl ?_|refine FBit.shl1 rfl (by omega) ?_|refine Fits.inU (by omega) ?_|refine FBit.shrNI rfl (by omega) ?_|refine FBit.shrIN rfl (by omega) (by omega) ?_|refine FBit.shrI rfl (by omega) (by omega) ?_|refine FBit.shl1I rfl (by omega) ?_)|(with_reducible refine FBit.has rfl (fun hq=>?_) (fun hq=>?_))|(with_reducible first|refine FBit.and1 rfl ?_|refine FBit.andN rfl (by omega) (by omega) ?_|refine FBit.orN rfl (by omega) (by omega) ?_|refine FBit.andNotN rfl (by omega) (by omega) ?_)|(with_reducible refine wG ?_)|(refine FCall.pure ((psize_ok a (by omega))) ⟨Ln.sameB _ rfl,True.intro⟩ rfl ?_)|(with_reducible refine wP ?_)))
     all_goals (try conv=>whnf)
     refine FLoop.of (ACalls.mono _) (X:=Nat) (fun T=>[(6,.ptr 2 0),(8,.ptr 3 0),(9,.ptr 4 0),(10,.ptr 5 0),(11,AU a),(47,.sl false false (2 ^ p.nT) 1 (fun T _=>AI (needT p s T))),(48,AI (2 ^ p.nT:Nat)),(49,AI T)]) (fun T=>[.box 4 (cPool f p),.box 4 (cGap gap0),.box 1 (ofL [iOpen f p]),.box 4 (cGap (gapT p s m a y T)),.box 1 (ofL [AI s]),.box 1 (ofL [AI m])]) (fun T=>T ≤ 2 ^ p.nT) (fun T=>2 ^ p.nT - T) 0 ⟨Nat.zero_le _,[0,1,2,3,4,5],Cut.A,allA⟩ ?_
     intro T hT
     by_cases hlt2:T < 2 ^ p.nT
     ·have hstT:gapT p s m a y (T + 1) = if (gapT p s m a y T).missing < missT p s (sdiff m a) T then ⟨s,a,T,missT p s (sdiff m a) T⟩ else gapT p s m a y T:=rfl
      have hnd:=need_b h (s:=s) (by omega) T
      have hwl:=whoSet_lt p T p.folk.length
      have hal:whoSet p T p.folk.length &&& m ≤ m:=Nat.and_le_right
      have hws:=who_set h (sdiff m a) T
      rw [← and_sdiff] at hws
      have hwb:=who_b h (sdiff m a) T
      have hsl:sdiff (whoSet p T p.folk.length &&& m) a < 256:=sdiff_lt (n:=8) (by omega)
      have hmi:missT p s (sdiff m a) T = needT p s T - (pop (sdiff (whoSet p T p.folk.length &&& m) a):Nat):=by unfold missT;rw [hws]
      rw [hmi] at hstT
      rw [hws] at hwb
      generalize gapT p s m a y T = y2 at *
      (repeat' ((try conv=>whnf);first|(with_reducible first|refine wT ?_|refine wF ?_|(refine wI (fun hq=>?_) (fun hq=>?_) <;> try simp only [zA,zE,zD,zJ,zB,zI,wK,wL] at hq)|refine wA ?_|refine wB ?_|refine wC ?_|refine wD ?_|refine wE ?_)|((with_reducible refine wN ?_ ?_);focus exact needA)|(with_reducible first|refine FBit.hasT rfl (by assumption) ?_|refine FBit.hasF rfl (by assumption) ?_|refine FBit.shrN rfl (by omega) ?_|refine FBit.half rfl ?_|refine FBit.shl1 rfl (by omega) ?_|refine Fits.inU (by omega) ?_|refine FBit.shrNI rfl (by omega) ?_|refine FBit.shrIN rfl (by omega) (by omega) ?_|refine FBit.shrI rfl (by omega) (by omega) ?_|refine FBit.shl1I rfl (by omega) ?_)|(with_reducible refine FBit.has rfl (fun hq=>?_) (fun hq=>?_))|(with_reducible first|refine FBit.and1 rfl ?_|refine FBit.andN rfl (by omega) (by omega) ?_|refine FBit.orN rfl (by omega) (by omega) ?_|refine FBit.andNotN rfl (by omega) (by omega) ?_)|(with_reducible refine wG ?_)|(refine FBit.andNotN rfl (by omega) (by omega) ?_)|(refine FCall.pure ((psize_ok (sdiff (whoSet p T p.folk.length &&& m) a) hsl)) ⟨Ln.sameB _ rfl,True.intro⟩ rfl ?_)|(with_reducible refine wP ?_)))
      all_goals (try conv=>whnf)
      ·rw [if_pos hq] at hstT
       refine ⟨⟨T + 1,hlt2,by show _ < _;omega,[0,1,2,3,4,5],?_,allA⟩⟩
       rw [hstT]
       exact Cut.A
      ·rw [if_neg (by omega)] at hstT
       refine ⟨⟨T + 1,hlt2,by show _ < _;omega,[0,1,2,3,4,5],?_,allA⟩⟩
       rw [hstT]
       exact Cut.A
     ·obtain rfl:T = 2 ^ p.nT:=by omega
      rw [← hstI]
      (repeat' ((try conv=>whnf);first|(with_reducible first|refine wT ?_|refine wF ?_|(refine wI (fun hq=>?_) (fun hq=>?_) <;> try simp only [zA,zE,zD,zJ,zB,zI,wK,wL] at hq)|refine wA ?_|refine wB ?_|refine wC ?_|refine wD ?_|refine wE ?_)|((with_reducible refine wN ?_ ?_);focus exact needA)|(with_reducible refine wG ?_)|(with_reducible refine wP ?_)))
      all_goals (try conv=>whnf)
      (refine ⟨⟨(gapI p s m x0 (q + 1)),rfl,[0,1,2,3,4,5],Cut.A,allA⟩⟩)
    ·rw [if_neg hpop] at hstI
     (repeat' ((try conv=>whnf);first|(with_reducible first|refine wT ?_|refine wF ?_|(refine wI (fun hq=>?_) (fun hq=>?_) <;> try simp only [zA,zE,zD,zJ,zB,zI,wK,wL] at hq)|refine wA ?_|refine wB ?_|refine wC ?_|refine wD ?_|refine wE ?_)|((with_reducible refine wN ?_ ?_);focus exact needA)|(with_reducible first|refine FBit.hasT rfl (by assumption) ?_|refine FBit.hasF rfl (by assumption) ?_|refine FBit.shrN rfl (by omega) ?_|refine FBit.half rfl ?_|refine FBit.shl1 rfl (by omega) ?_|refine Fits.inU (by omega) ?_|refine FBit.shrNI rfl (by omega) ?_|refine FBit.shrIN rfl (by omega) (by omega) ?_|refine FBit.shrI rfl (by omega) (by omega) ?_|refine FBit.shl1I rfl (by omega) ?_)|(with_reducible refine FBit.has rfl (fun hq=>?_) (fun hq=>?_))|(with_reducible first|refine FBit.and1 rfl ?_|refine FBit.andN rfl (by omega) (by omega) ?_|refine FBit.orN rfl (by omega) (by omega) ?_|refine FBit.andNotN rfl (by omega) (by omega) ?_)|(with_reducible refine wG ?_)|(refine FCall.pure ((psize_ok a (by omega))) ⟨Ln.sameB _ rfl,True.intro⟩ rfl ?_)|(with_reducible refine wP ?_)))
     all_goals (try conv=>whnf)
     (refine ⟨⟨y,hstI.symm,[0,1,2,3,4,5],Cut.A,allA⟩⟩)
   case done =>
    rintro x rfl
    rw [← hst]
    (repeat' ((try conv=>whnf);first|(with_reducible first|refine wT ?_|refine wF ?_|(refine wI (fun hq=>?_) (fun hq=>?_) <;> try simp only [zA,zE,zD,zJ,zB,zI,wK,wL] at hq)|refine wA ?_|refine wB ?_|refine wC ?_|refine wD ?_|refine wE ?_)|((with_reducible refine wN ?_ ?_);focus exact needA)|(with_reducible refine wG ?_)|(with_reducible refine wP ?_)))
    all_goals (try conv=>whnf)
    (exact ⟨⟨(s + 1),hlt,by show _ < _;omega,[0,1,2,3],Cut.A,allA⟩⟩)
  ·obtain rfl:s = w.length:=by omega
   have hE:weakE p w = if (weakT p w).missing = 0 then (gap0,3) else (weakT p w,0):=by unfold weakE;rw [if_pos hk]
   change 0 ≤ (weakT p w).missing ∧ ((weakT p w).missing = 0 → weakT p w = gap0) at hnn
   change fawp _ _ _ _ _ [.box 4 (cPool f p),.box 4 (cGap gap0),.box 1 (ofL [iOpen f p]),.box 4 (cGap (weakT p w))]
   rw [hE]
   generalize weakT p w = x at *
   (repeat' ((try conv=>whnf);first|(with_reducible first|refine wT ?_|refine wF ?_|(refine wI (fun hq=>?_) (fun hq=>?_) <;> try simp only [zA,zE,zD,zJ,zB,zI,wK,wL] at hq)|refine wA ?_|refine wB ?_|refine wC ?_|refine wD ?_|refine wE ?_)|((with_reducible refine wN ?_ ?_);focus exact needA)|(with_reducible refine wG ?_)|(with_reducible refine wP ?_)))
   all_goals (try conv=>whnf)
   ·(refine ⟨⟨_,[],[],Cut.nil _,Ln.sameB _ rfl,?_,rfl⟩⟩)
    rw [if_pos hq,hnn.2 hq];rfl
   ·(refine ⟨⟨_,[],[],Cut.nil _,Ln.sameB _ rfl,?_,rfl⟩⟩)
    rw [if_neg hq];rfl
 ·have cW:=watched_no (f:=f) (z:=z) (e:=e) hn hw hk
  have hE:weakE p w = (gap0,checkW p w):=by unfold weakE;rw [if_neg hk]
  rw [hE]
  (repeat' ((try conv=>whnf);first|(with_reducible first|refine wT ?_|refine wF ?_|(refine wI (fun hq=>?_) (fun hq=>?_) <;> try simp only [zA,zE,zD,zJ,zB,zI,wK,wL] at hq)|refine wA ?_|refine wB ?_|refine wC ?_|refine wD ?_|refine wE ?_)|((with_reducible refine wN ?_ ?_);focus exact needA)|(with_reducible refine wG ?_)|(refine FCall.pure (cW) ⟨Ln.sameB _ rfl,Ln.sameB _ rfl,True.intro⟩ rfl ?_)|(with_reducible refine wP ?_)))
  all_goals (try conv=>whnf)
  (refine ⟨⟨_,[],[],Cut.nil _,Ln.sameB _ rfl,?_,rfl⟩⟩)
  rfl
end Go.Proofs.Ytbhjehpjjbbhbaa

namespace Go.Proofs.Ytbhjehpjjbbhbaa
open Go.RowKit

def fitsU (n g:Nat) (t:List Int):Bool:=(List.range n).all fun i=>!(g.testBit i) || decide (1 ≤ t.getD i 0)
/-- What is left behind the first people of a set. -/
def useTo (t:List Int) (g i k:Nat):Int:=if k < i ∧ g.testBit k = true then t.getD k 0 - 1 else t.getD k 0
def useL (n g:Nat) (t:List Int):List Int:=(List.range 8).map fun k=>useTo t g n k
def stepF (p : Pool) (F : List Int → List Int × Int) (t : List Int) (b : List Int × Int) (g : Nat) : List Int × Int :=
  if fitsU p.folk.length g t then
    (if 0 ≤ b.2 ∧ b.2 ≤ payT p g then b
     else if 0 ≤ (F (useL p.folk.length g t)).2 ∧ (b.2 < 0 ∨ payT p g + (F (useL p.folk.length g t)).2 < b.2) then ((g : Int) :: (F (useL p.folk.length g t)).1, payT p g + (F (useL p.folk.length g t)).2) else b)
  else b
def foldF (p:Pool) (F:List Int → List Int × Int) (t:List Int) (l:List Nat):Nat → List Int × Int
 | 0=>([],-1)
 | k + 1=>stepF p F t (foldF p F t l k) (l.getD k 0)
/-- The best watch from a slot on: so many slots are left. -/
def fromT (p:Pool):Nat → List Int → List Int × Int
 | 0,_=>([],0)
 | r + 1,t=>foldF p (fromT p r) t (coversT p (p.needs.length - (r + 1))) (coversT p (p.needs.length - (r + 1))).length
structure FB (r:Nat) (x:List Int × Int):Prop where
 lo:-1 ≤ x.2
 hi:x.2 ≤ 8000 * r
 len:x.1.length ≤ r
theorem stepF_b {p:Pool} (h:PoolOk p) {F:List Int → List Int × Int} {r:Nat} (hF:∀ t,FB r (F t)) {t:List Int} {b:List Int × Int} {g:Nat} (hb:FB (r + 1) b):FB (r + 1) (stepF p F t b g):=by
 have hg:=pay_b h g
 have hf:=hF (useL p.folk.length g t)
 unfold stepF
 split
 ·split
  ·exact hb
  ·split
   ·rename_i h2
    exact ⟨by show -1 ≤ payT p g + _;omega,by have:=hf.hi;show payT p g + _ ≤ 8000 * ((r + 1:Nat):Int);omega,by have:=hf.len;simp;omega⟩
   ·exact hb
 ·exact hb
theorem foldF_b {p:Pool} (h:PoolOk p) {F:List Int → List Int × Int} {r:Nat} (hF:∀ t,FB r (F t)) {t:List Int} {l:List Nat}:∀ k,FB (r + 1) (foldF p F t l k)
 | 0=>⟨by show (-1:Int) ≤ -1;omega,by show (-1:Int) ≤ _;omega,Nat.zero_le _⟩
 | k + 1=>stepF_b h hF (foldF_b h hF k)
theorem fromT_b {p:Pool} (h:PoolOk p):∀ r t,FB r (fromT p r t)
 | 0,_=>⟨by show (-1:Int) ≤ 0;omega,by show (0:Int) ≤ _;omega,Nat.zero_le _⟩
 | r + 1,t=>foldF_b h (fromT_b h r) _
abbrev aFound (x:List Int × Int):AV:=.agg 2 (ofL [outI x.1,AI x.2])
/-- A key of the memory. -/
abbrev keyL (s:Nat) (t:List Int):List Int:=[(s:Int),t.getD 0 0,t.getD 1 0,t.getD 2 0,t.getD 3 0,t.getD 4 0,t.getD 5 0,t.getD 6 0,t.getD 7 0]
theorem list8 {t:List Int} (h:t.length = 8):[t.getD 0 0,t.getD 1 0,t.getD 2 0,t.getD 3 0,t.getD 4 0,t.getD 5 0,t.getD 6 0,t.getD 7 0] = t:=by
 match t,h with
 | [a,b,c,d,e,f,g,i],_=>rfl
/-- What the memory holds is so. -/
def Good (p:Pool) (L:List (List Int × AV)):Prop:=∀ e ∈ L,∃ (s:Nat) (t:List Int),s ≤ p.needs.length ∧ t.length = 8 ∧ e.1 = keyL s t ∧ e.2 = aFound (fromT p (p.needs.length - s) t)
theorem good_nil (p:Pool):Good p []:=fun e he=>by cases he
theorem good_look {p:Pool} {L:List (List Int × AV)} (h:Good p L) {s:Nat} {t:List Int} (ht:t.length = 8) {v:AV} (hl:alook L (keyL s t) = some v):v = aFound (fromT p (p.needs.length - s) t):=by
 unfold alook at hl
 cases hf:L.find? (fun p=>p.1 == keyL s t) with
 | none=>rw [hf] at hl;cases hl
 | some e =>
  rw [hf] at hl
  injection hl with hl
  have h1:=List.find?_some hf
  have h2:=List.mem_of_find?_eq_some hf
  obtain ⟨s',t',k1,k2,k3,k4⟩:=h e h2
  have h1:e.1 = keyL s t:=by simpa using h1
  rw [k3] at h1
  injection h1 with e1 e2
  have e3:t' = t:=by rw [← list8 k2,← list8 ht];exact e2
  have e4:s' = s:=by omega
  subst e3;subst e4
  rw [← hl];exact k4
theorem FLook.good {p:Pool} {L:List (List Int × AV)} (h:Good p L) {s:Nat} {t:List Int} (ht:t.length = 8) {A:AV → Prop} {B:Prop} (a:alook L (keyL s t) = some (aFound (fromT p (p.needs.length - s) t)) → A (aFound (fromT p (p.needs.length - s) t))) (b:alook L (keyL s t) = none → B):FLook (alook L (keyL s t)) A B:=⟨fun v hv=>by
 have e:=good_look h ht hv
 subst e
 exact a hv,b⟩
theorem good_put {p:Pool} {k:List Int} {v:AV} (hk:∃ (s:Nat) (t:List Int),s ≤ p.needs.length ∧ t.length = 8 ∧ k = keyL s t ∧ v = aFound (fromT p (p.needs.length - s) t)):∀ {L:List (List Int × AV)},Good p L → Good p (aput L k v)
 | [],_=>fun e he=>by
  rw [aput,List.mem_singleton] at he
  subst he;exact hk
 | q :: L,h=>fun e he=>by
  rw [aput] at he
  split at he
  ·rcases List.mem_cons.1 he with rfl|he
   ·exact hk
   ·exact h e (List.mem_cons_of_mem _ he)
  ·rcases List.mem_cons.1 he with rfl|he
   ·exact h _ List.mem_cons_self
   ·exact good_put hk (fun e he=>h e (List.mem_cons_of_mem _ he)) e he
abbrev cKey (s:Int) (f:Nat → Int):Nat → AV:=ofL [AI s,AI (f 0),AI (f 1),AI (f 2),AI (f 3),AI (f 4),AI (f 5),AI (f 6),AI (f 7)]
abbrev aKey (s:Int) (f:Nat → Int):AV:=.agg 9 (cKey s f)
abbrev aGroups (p:Pool):AV:=.sl false false p.needs.length 1 (fun s _=>outU (coversT p s))
abbrev cPlanner (f:PoF) (p:Pool):Nat → AV:=ofL [iOpen f p,aGroups p,.mpv 1]
structure T8 (t:List Int):Prop where
 len:t.length = 8
 b:∀ k,k < 8 → 0 ≤ t.getD k 0 ∧ t.getD k 0 ≤ 6
theorem useL_get {n g:Nat} {t:List Int} {k:Nat} (h:k < 8):(useL n g t).getD k 0 = useTo t g n k:=by
 unfold useL
 simp [List.getD,h]
theorem useL_8 {n g:Nat} {t:List Int} (ht:T8 t) (hf:fitsU n g t = true):T8 (useL n g t):=by
 refine ⟨by simp [useL],fun k hk=>?_⟩
 rw [useL_get hk]
 have:=ht.b k hk
 unfold useTo
 split
 ·rename_i h2
  have:=rall_get hf h2.1
  rw [h2.2] at this
  have:=of_decide_eq_true (show decide (1 ≤ t.getD k 0) = true from this)
  omega
 ·exact this
set_option maxHeartbeats 8000000
set_option maxRecDepth 100000
def FromOk (f:PoF) (p:Pool) (r:Nat):Prop:=∀ s,s + r = p.needs.length → ∀ (t:List Int) (L:List (List Int × AV)),T8 t → Good p L → ACall Try.prog 47 [.ptr 0 0,aKey s (fun k=>t.getD k 0)] [.box 3 (cPlanner f p),.mp 9 L] (fun v h'=>∃ L',Good p L' ∧ v = aFound (fromT p r t) ∧ h' = [.box 3 (cPlanner f p),.mp 9 L'])
theorem from_zero (f:PoF) (p:Pool) (h:PoolOk p):FromOk f p 0:=by
 intro s hs t L ht hL
 have s6:=h.s6
 (refine fcall_of mixed Try.func47 rfl (by decide) (hs:={ pub:=[24],ord:=[(3,[(0,[]),(1,[]),(2,[]),(3,[]),(4,[]),(5,[]),(6,[]),(7,[]),(8,[]),(9,[3,4,5]),(10,[]),(11,[])]),(22,[(0,[]),(1,[]),(2,[]),(3,[]),(4,[]),(6,[]),(7,[]),(8,[]),(9,[]),(5,[8]),(10,[]),(11,[])])] }) ?k (ac:=?ac) ?c (rs:=?rs) ?r ?l ?H;(case k=>kernel_rfl);(case c=>(conv=>(lhs;cbv)));(case r=>(conv=>(lhs;cbv)));(case l=>exact Nat.le_of_ble_eq_true rfl))
 (repeat' ((try conv=>whnf);first|(with_reducible first|refine wT ?_|refine wF ?_|(refine wI (fun hq=>?_) (fun hq=>?_) <;> try simp only [zA,zE,zD,zJ,zB,zI,wK,wL] at hq)|refine wA ?_|refine wB ?_|refine wC ?_|refine wD ?_|refine wE ?_)|((with_reducible refine wN ?_ ?_);focus exact needA)|(with_reducible refine wG ?_)|(with_reducible refine wP ?_)))
 all_goals (try conv=>whnf)
 exact ⟨⟨aFound (fromT p 0 t),[.box 3 (cPlanner f p),.mp 9 L],[0,1],wO rfl rfl rfl (wV rfl LnB.A (wV rfl LnB.A wX)),Ln.aggN ⟨⟨True.intro,Ln.slz _ _ _ _ _ _ _ (fun _=>rfl)⟩,Ln.A⟩,L,hL,rfl,rfl⟩⟩
end Go.Proofs.Ytbhjehpjjbbhbaa
