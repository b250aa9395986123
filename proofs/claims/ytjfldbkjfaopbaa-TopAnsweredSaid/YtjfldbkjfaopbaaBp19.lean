/- Cover: the program's size, has, can, spare, covered. / Cover: the program's open. -/
import Derived.Test.YtjfldbkjfaopbaaBp18
set_option linter.unusedSimpArgs false
set_option linter.unusedVariables false
namespace Go.Proofs.Ytjfldbkjfaopbaa
open Go.RowKit

set_option maxHeartbeats 4000000
set_option maxRecDepth 100000
theorem ones64_ok (x:Nat) (hx:x < 256):ACall Try.prog 61 [AU x] [] (fun r h=>r = AI (pop x:Nat) ∧ h = []):=by
 (refine fcall_of mixed Try.func61 rfl (by decide) (hs:={}) ?k (ac:=?ac) ?c (rs:=?rs) ?r ?l ?H;(case k=>kernel_rfl);(case c=>(conv=>(lhs;cbv)));(case r=>(conv=>(lhs;cbv)));(case l=>exact Nat.le_of_ble_eq_true rfl))
 (repeat' ((try conv=>whnf);first|(with_reducible first|refine wT ?_|refine wF ?_|(refine wI (fun hq=>?_) (fun hq=>?_) <;> try simp only [zA,zE,zD,zJ,zB,zI,wK,wL] at hq)|refine wA ?_|refine wB ?_|refine wC ?_|refine wD ?_|refine wE ?_)|((with_reducible refine wN ?_ ?_);focus exact needA)|(with_reducible refine wG ?_)|(refine FBit.mk ?_)|(refine Fits.any ?_)|(with_reducible refine wP ?_)))
 all_goals (try conv=>whnf)
 (refine ⟨⟨_,[],[],Cut.nil _,Ln.sameB _ rfl,?_,rfl⟩⟩)
 refine int_eq ?_
 revert x
 decide +kernel
theorem ones_ok (x:Nat) (hx:x < 256):ACall Try.prog 48 [AU x] [] (fun r h=>r = AI (pop x:Nat) ∧ h = []):=by
 (refine fcall_of mixed Try.func48 rfl (by decide) (hs:={}) ?k (ac:=?ac) ?c (rs:=?rs) ?r ?l ?H;(case k=>kernel_rfl);(case c=>(conv=>(lhs;cbv)));(case r=>(conv=>(lhs;cbv)));(case l=>exact Nat.le_of_ble_eq_true rfl))
 (repeat' ((try conv=>whnf);first|(with_reducible first|refine wT ?_|refine wF ?_|(refine wI (fun hq=>?_) (fun hq=>?_) <;> try simp only [zA,zE,zD,zJ,zB,zI,wK,wL] at hq)|refine wA ?_|refine wB ?_|refine wC ?_|refine wD ?_|refine wE ?_)|((with_reducible refine wN ?_ ?_);focus exact needA)|(with_reducible refine wG ?_)|(refine FCall.pure ((ones64_ok x hx)) ⟨Ln.sameB _ rfl,True.intro⟩ rfl ?_)|(with_reducible refine wP ?_)))
 all_goals (try conv=>whnf)
 (refine ⟨⟨_,[],[],Cut.nil _,Ln.sameB _ rfl,?_,rfl⟩⟩)
 rfl
theorem psize_ok (x:Nat) (hx:x < 256):ACall Try.prog 33 [AU x] [] (fun r h=>r = AI (pop x:Nat) ∧ h = []):=by
 (refine fcall_of mixed Try.func33 rfl (by decide) (hs:={}) ?k (ac:=?ac) ?c (rs:=?rs) ?r ?l ?H;(case k=>kernel_rfl);(case c=>(conv=>(lhs;cbv)));(case r=>(conv=>(lhs;cbv)));(case l=>exact Nat.le_of_ble_eq_true rfl))
 (repeat' ((try conv=>whnf);first|(with_reducible first|refine wT ?_|refine wF ?_|(refine wI (fun hq=>?_) (fun hq=>?_) <;> try simp only [zA,zE,zD,zJ,zB,zI,wK,wL] at hq)|refine wA ?_|refine wB ?_|refine wC ?_|refine wD ?_|refine wE ?_)|((with_reducible refine wN ?_ ?_);focus exact needA)|(with_reducible refine wG ?_)|(refine FCall.pure ((ones_ok x hx)) ⟨Ln.sameB _ rfl,True.intro⟩ rfl ?_)|(with_reducible refine wP ?_)))
 all_goals (try conv=>whnf)
 (refine ⟨⟨_,[],[],Cut.nil _,Ln.sameB _ rfl,?_,rfl⟩⟩)
 rfl
theorem phas_ok (s n:Nat) (hn:n ≤ 64):ACall Try.prog 46 [AU s,AI n] [] (fun r h=>r = .bool (s.testBit n) ∧ h = []):=by
 (refine fcall_of mixed Try.func46 rfl (by decide) (hs:={}) ?k (ac:=?ac) ?c (rs:=?rs) ?r ?l ?H;(case k=>kernel_rfl);(case c=>(conv=>(lhs;cbv)));(case r=>(conv=>(lhs;cbv)));(case l=>exact Nat.le_of_ble_eq_true rfl))
 (repeat' ((try conv=>whnf);first|(with_reducible first|refine wT ?_|refine wF ?_|(refine wI (fun hq=>?_) (fun hq=>?_) <;> try simp only [zA,zE,zD,zJ,zB,zI,wK,wL] at hq)|refine wA ?_|refine wB ?_|refine wC ?_|refine wD ?_|refine wE ?_)|((with_reducible refine wN ?_ ?_);focus exact needA)|(with_reducible first|refine FBit.hasT rfl (by assumption) ?_|refine FBit.hasF rfl (by assumption) ?_|refine FBit.shrN rfl (by omega) ?_|refine FBit.half rfl ?_|refine FBit.shl1 rfl (by omega) ?_|refine Fits.inU (by omega) ?_|refine FBit.shrNI rfl (by omega) ?_|refine FBit.shrIN rfl (by omega) (by omega) ?_|refine FBit.shrI rfl (by omega) (by omega) ?_|refine FBit.shl1I rfl (by omega) ?_)|(with_reducible refine FBit.has rfl (fun hq=>?_) (fun hq=>?_))|(with_reducible first|refine FBit.and1 rfl ?_|refine FBit.andN rfl (by omega) (by omega) ?_|refine FBit.orN rfl (by omega) (by omega) ?_|refine FBit.andNotN rfl (by omega) (by omega) ?_)|(with_reducible refine wG ?_)|(with_reducible refine wP ?_)))
 all_goals ((refine ⟨⟨_,[],[],Cut.nil _,Ln.sameB _ rfl,?_,rfl⟩⟩);rw [hq];rfl)
/-- A pool that has been checked. -/
abbrev aWho (p:Pool):AV:=.sl false false (2 ^ p.nT) 1 (fun T _=>AU (whoSet p T p.folk.length))
abbrev aNeed (p:Pool):AV:=.sl false false p.needs.length 1 (fun s _=>.sl false false (2 ^ p.nT) 1 (fun T _=>AI (needT p s T)))
abbrev cOpen (f:PoF) (p:Pool):Nat → AV:=ofL [aFolks f.zf f.ef p.folk,aRows f.zn f.en f.rz f.re p.needs,AI p.ill,AI p.most,aWho p,aNeed p]
abbrev iOpen (f:PoF) (p:Pool):AV:=.ip 6 (cOpen f p) 0
/-- Who can be on call in a slot, as a set. -/
def canSet (p:Pool) (s:Nat):Nat → Nat
 | 0=>0
 | k + 1=>canSet p s k ||| if (p.sl k).testBit s then 2 ^ k else 0
theorem canSet_bit (p:Pool) (s:Nat):∀ k i,(canSet p s k).testBit i = (decide (i < k) && (p.sl i).testBit s)
 | 0,i=>by simp [canSet]
 | k + 1,i=>by
  rw [canSet,Nat.testBit_or,canSet_bit p s k i]
  by_cases e:i = k
  ·subst e
   cases h:(p.sl i).testBit s
   ·simp
   ·rw [if_pos rfl,Nat.testBit_two_pow];simp
  ·have hx:(if (p.sl k).testBit s then 2 ^ k else 0).testBit i = false:=by
    split
    ·rw [Nat.testBit_two_pow];exact decide_eq_false (by omega)
    ·exact Nat.zero_testBit i
   rw [hx,Bool.or_false]
   by_cases h:i < k
   ·rw [decide_eq_true h,decide_eq_true (show i < k + 1 by omega)]
   ·rw [decide_eq_false h,decide_eq_false (show ¬ i < k + 1 by omega)]
theorem canSet_lt (p:Pool) (s k:Nat):canSet p s k < 2 ^ k:=lt_of_bits fun i hi=>by
 rw [canSet_bit,Bool.and_eq_true,decide_eq_true_eq] at hi;exact hi.1
theorem whoSet_lt (p:Pool) (T k:Nat):whoSet p T k < 2 ^ k:=lt_of_bits fun i hi=>by
 rw [whoSet_bit,Bool.and_eq_true,decide_eq_true_eq] at hi;exact hi.1
theorem canT_iff {p:Pool} {s g:Nat} (hg:g < 2 ^ p.folk.length):canT p s g = true ↔ sdiff g (canSet p s p.folk.length) = 0:=by
 rw [sdiff_z]
 unfold canT
 constructor
 ·intro h i hi
  have:=rall_get h (bit_lt hg hi)
  rw [hi] at this
  rw [canSet_bit,decide_eq_true (bit_lt hg hi),Bool.true_and]
  exact this
 ·intro h
  refine rall_yes fun i hi=>?_
  cases hb:g.testBit i
  ·rfl
  ·have:=h i hb
   rw [canSet_bit,decide_eq_true hi,Bool.true_and] at this
   rw [this];rfl
theorem can_ok (f:PoF) (p:Pool) (s:Nat) (hs:s < 60) (h:PoolOk p):ACall Try.prog 30 [iOpen f p,AI s] [] (fun r h=>r = AU (canSet p s p.folk.length) ∧ h = []):=by
 have n8:=h.n8
 (refine fcall_of mixed Try.func30 rfl (by decide) (hs:={}) ?k (ac:=?ac) ?c (rs:=?rs) ?r ?l ?H;(case k=>kernel_rfl);(case c=>(conv=>(lhs;cbv)));(case r=>(conv=>(lhs;cbv)));(case l=>exact Nat.le_of_ble_eq_true rfl))
 (repeat' ((try conv=>whnf);first|(with_reducible first|refine wT ?_|refine wF ?_|(refine wI (fun hq=>?_) (fun hq=>?_) <;> try simp only [zA,zE,zD,zJ,zB,zI,wK,wL] at hq)|refine wA ?_|refine wB ?_|refine wC ?_|refine wD ?_|refine wE ?_)|((with_reducible refine wN ?_ ?_);focus exact needA)|(with_reducible refine wG ?_)|(with_reducible refine wP ?_)))
 all_goals (try conv=>whnf)
 refine FLoop.of (ACalls.mono _) (X:=Nat) (fun i=>[(1,AI s),(4,AU (canSet p s i)),(11,aFolks f.zf f.ef p.folk),(12,AI p.folk.length),(13,AI i)]) (fun _=>[]) (fun i=>i ≤ p.folk.length) (fun i=>p.folk.length - i) 0 ⟨Nat.zero_le _,[],Cut.A,allA⟩ ?_
 intro i hi
 by_cases hlt:i < p.folk.length
 ·have hf:=(h.folk i hlt).2.1
  have hc:=canSet_lt p s i
  have hpi:=pow8 (n:=i) (by omega)
  have hst:canSet p s (i + 1) = canSet p s i ||| if (p.sl i).testBit s then 2 ^ i else 0:=rfl
  (repeat' ((try conv=>whnf);first|(with_reducible first|refine wT ?_|refine wF ?_|(refine wI (fun hq=>?_) (fun hq=>?_) <;> try simp only [zA,zE,zD,zJ,zB,zI,wK,wL] at hq)|refine wA ?_|refine wB ?_|refine wC ?_|refine wD ?_|refine wE ?_)|((with_reducible refine wN ?_ ?_);focus exact needA)|(with_reducible first|refine FBit.hasT rfl (by assumption) ?_|refine FBit.hasF rfl (by assumption) ?_|refine FBit.shrN rfl (by omega) ?_|refine FBit.half rfl ?_|refine FBit.shl1 rfl (by omega) ?_|refine Fits.inU (by omega) ?_|refine FBit.shrNI rfl (by omega) ?_|refine FBit.shrIN rfl (by omega) (by omega) ?_|refine FBit.shrI rfl (by omega) (by omega) ?_|refine FBit.shl1I rfl (by omega) ?_)|(with_reducible refine FBit.has rfl (fun hq=>?_) (fun hq=>?_))|(with_reducible first|refine FBit.and1 rfl ?_|refine FBit.andN rfl (by omega) (by omega) ?_|refine FBit.orN rfl (by omega) (by omega) ?_|refine FBit.andNotN rfl (by omega) (by omega) ?_)|(with_reducible refine wG ?_)|(refine FBit.orN rfl (by omega) (by omega) ?_)|(with_reducible refine wP ?_)))
  all_goals (try conv=>whnf)
  ·rw [show (p.sl i).testBit s = true from hq,if_pos rfl] at hst
   (exact ⟨⟨(i + 1),hlt,by show _ < _;omega,[],Cut.A,allA⟩⟩)
  ·rw [show (p.sl i).testBit s = false from hq,if_neg (by decide),Nat.or_zero] at hst
   (exact ⟨⟨(i + 1),hlt,by show _ < _;omega,[],Cut.A,allA⟩⟩)
 ·obtain rfl:i = p.folk.length:=by omega
  (repeat' ((try conv=>whnf);first|(with_reducible first|refine wT ?_|refine wF ?_|(refine wI (fun hq=>?_) (fun hq=>?_) <;> try simp only [zA,zE,zD,zJ,zB,zI,wK,wL] at hq)|refine wA ?_|refine wB ?_|refine wC ?_|refine wD ?_|refine wE ?_)|((with_reducible refine wN ?_ ?_);focus exact needA)|(with_reducible refine wG ?_)|(with_reducible refine wP ?_)))
  all_goals (try conv=>whnf)
  (refine ⟨⟨_,[],[],Cut.nil _,Ln.sameB _ rfl,?_,rfl⟩⟩)
  rfl
theorem who_set {p:Pool} (h:PoolOk p) (g T:Nat):whoT p g T = pop (whoSet p T p.folk.length &&& g):=by
 rw [who_eq,Nat.and_comm,pop_n h]
 exact Nat.lt_of_le_of_lt Nat.and_le_left (whoSet_lt p T _)
theorem spare_ok (f:PoF) (p:Pool) (s g:Nat) (hs:s < p.needs.length) (hg:g < 2 ^ p.folk.length) (h:PoolOk p):ACall Try.prog 32 [iOpen f p,AI s,AU g] [] (fun r h=>r = AI (spareT p s g) ∧ h = []):=by
 have n8:=h.n8
 have s6:=h.s6
 have hp8:=pow8 n8
 have hp5:=pow5 h.t5
 have hpop:=popN_le 8 g
 (refine fcall_of mixed Try.func32 rfl (by decide) (hs:={}) ?k (ac:=?ac) ?c (rs:=?rs) ?r ?l ?H;(case k=>kernel_rfl);(case c=>(conv=>(lhs;cbv)));(case r=>(conv=>(lhs;cbv)));(case l=>exact Nat.le_of_ble_eq_true rfl))
 (repeat' ((try conv=>whnf);first|(with_reducible first|refine wT ?_|refine wF ?_|(refine wI (fun hq=>?_) (fun hq=>?_) <;> try simp only [zA,zE,zD,zJ,zB,zI,wK,wL] at hq)|refine wA ?_|refine wB ?_|refine wC ?_|refine wD ?_|refine wE ?_)|((with_reducible refine wN ?_ ?_);focus exact needA)|(with_reducible refine wG ?_)|(refine FCall.pure ((psize_ok g (by omega))) ⟨Ln.sameB _ rfl,True.intro⟩ rfl ?_)|(with_reducible refine wP ?_)))
 all_goals (try conv=>whnf)
 refine FLoop.of (ACalls.mono _) (X:=Nat) (fun T=>[(0,iOpen f p),(2,AU g),(7,AI (spareTo p s g T)),(18,.sl false false (2 ^ p.nT) 1 (fun T _=>AI (needT p s T))),(19,AI (2 ^ p.nT:Nat)),(20,AI T)]) (fun _=>[]) (fun T=>T ≤ 2 ^ p.nT ∧ -48 ≤ spareTo p s g T ∧ spareTo p s g T ≤ 8) (fun T=>2 ^ p.nT - T) 0 ⟨⟨Nat.zero_le _,by show -48 ≤ (pop g:Int);omega,by show (pop g:Int) ≤ 8;unfold pop;omega⟩,[],Cut.A,allA⟩ ?_
 rintro T ⟨hT,hb1,hb2⟩
 by_cases hlt:T < 2 ^ p.nT
 ·have hn:=need_b h hs T
  have hw:=who_b h g T
  have hws:=who_set h g T
  have hwl:=whoSet_lt p T p.folk.length
  have hal:whoSet p T p.folk.length &&& g ≤ g:=Nat.and_le_right
  have hst:spareTo p s g (T + 1) = if 0 < needT p s T then min (spareTo p s g T) ((whoT p g T:Int) - needT p s T) else spareTo p s g T:=rfl
  rw [hws] at hst hw
  (repeat' ((try conv=>whnf);first|(with_reducible first|refine wT ?_|refine wF ?_|(refine wI (fun hq=>?_) (fun hq=>?_) <;> try simp only [zA,zE,zD,zJ,zB,zI,wK,wL] at hq)|refine wA ?_|refine wB ?_|refine wC ?_|refine wD ?_|refine wE ?_)|((with_reducible refine wN ?_ ?_);focus exact needA)|(with_reducible first|refine FBit.hasT rfl (by assumption) ?_|refine FBit.hasF rfl (by assumption) ?_|refine FBit.shrN rfl (by omega) ?_|refine FBit.half rfl ?_|refine FBit.shl1 rfl (by omega) ?_|refine Fits.inU (by omega) ?_|refine FBit.shrNI rfl (by omega) ?_|refine FBit.shrIN rfl (by omega) (by omega) ?_|refine FBit.shrI rfl (by omega) (by omega) ?_|refine FBit.shl1I rfl (by omega) ?_)|(with_reducible refine FBit.has rfl (fun hq=>?_) (fun hq=>?_))|(with_reducible first|refine FBit.and1 rfl ?_|refine FBit.andN rfl (by omega) (by omega) ?_|refine FBit.orN rfl (by omega) (by omega) ?_|refine FBit.andNotN rfl (by omega) (by omega) ?_)|(with_reducible refine wG ?_)|(refine FCall.pure ((psize_ok (whoSet p T p.folk.length &&& g) (by omega))) ⟨Ln.sameB _ rfl,True.intro⟩ rfl ?_)|(with_reducible refine wP ?_)))
  all_goals (try conv=>whnf)
  ·rw [if_pos (by omega)] at hst
   (exact ⟨⟨(T + 1),⟨hlt,by omega,by omega⟩,by show _ < _;omega,[],Cut.A,allA⟩⟩)
  ·rw [if_neg (by omega)] at hst
   (exact ⟨⟨(T + 1),⟨hlt,by omega,by omega⟩,by show _ < _;omega,[],Cut.A,allA⟩⟩)
 ·obtain rfl:T = 2 ^ p.nT:=by omega
  (repeat' ((try conv=>whnf);first|(with_reducible first|refine wT ?_|refine wF ?_|(refine wI (fun hq=>?_) (fun hq=>?_) <;> try simp only [zA,zE,zD,zJ,zB,zI,wK,wL] at hq)|refine wA ?_|refine wB ?_|refine wC ?_|refine wD ?_|refine wE ?_)|((with_reducible refine wN ?_ ?_);focus exact needA)|(with_reducible refine wG ?_)|(with_reducible refine wP ?_)))
  all_goals (try conv=>whnf)
  (refine ⟨⟨_,[],[],Cut.nil _,Ln.sameB _ rfl,?_,rfl⟩⟩)
  rfl
theorem pcovered_ok (f:PoF) (p:Pool) (s g:Nat) (hs:s < p.needs.length) (hg:g < 2 ^ p.folk.length) (h:PoolOk p):ACall Try.prog 21 [iOpen f p,AI s,AU g] [] (fun r h=>r = .bool (coveredT p s g) ∧ h = []):=by
 have hp8:=pow8 h.n8
 have hss:=stands_spare h hs hg h.ill.1
 (refine fcall_of mixed Try.func21 rfl (by decide) (hs:={}) ?k (ac:=?ac) ?c (rs:=?rs) ?r ?l ?H;(case k=>kernel_rfl);(case c=>(conv=>(lhs;cbv)));(case r=>(conv=>(lhs;cbv)));(case l=>exact Nat.le_of_ble_eq_true rfl))
 (repeat' ((try conv=>whnf);first|(with_reducible first|refine wT ?_|refine wF ?_|(refine wI (fun hq=>?_) (fun hq=>?_) <;> try simp only [zA,zE,zD,zJ,zB,zI,wK,wL] at hq)|refine wA ?_|refine wB ?_|refine wC ?_|refine wD ?_|refine wE ?_)|((with_reducible refine wN ?_ ?_);focus exact needA)|(with_reducible refine wG ?_)|(refine FCall.pure ((spare_ok f p s g hs hg h)) ⟨Ln.sameB _ rfl,Ln.sameB _ rfl,Ln.sameB _ rfl,True.intro⟩ rfl ?_)|(refine FCall.pure ((psize_ok g (by omega))) ⟨Ln.sameB _ rfl,True.intro⟩ rfl ?_)|(with_reducible refine wP ?_)))
 all_goals (try conv=>whnf)
 all_goals
  (refine ⟨⟨_,[],[],Cut.nil _,Ln.sameB _ rfl,?_,rfl⟩⟩)
  refine bool_eq ?_
  unfold coveredT
  rw [Bool.eq_iff_iff,hss]
  simp only [decide_eq_true_eq,true_iff]
  omega
end Go.Proofs.Ytjfldbkjfaopbaa

namespace Go.Proofs.Ytjfldbkjfaopbaa
open Go.RowKit

abbrev rowU (n:Nat) (c:Nat → Nat):AB:=.row n 1 (fun k _=>AU (c k))
abbrev rowZ (n:Nat) (c:Nat → Int):AB:=.row n 1 (fun k _=>AI (c k))
abbrev cOp (f:PoF) (p:Pool) (a b:AV):Nat → AV:=ofL [aFolks f.zf f.ef p.folk,aRows f.zn f.en f.rz f.re p.needs,AI p.ill,AI p.most,a,b]
abbrev aLine (p:Pool) (s:Nat):AV:=.sl false false (2 ^ p.nT) 1 (fun T _=>AI (needT p s T))
abbrev rowL (p:Pool) (n:Nat):AB:=.row n 1 (fun s _=>aLine p s)
/-- A line of needs while it is made. -/
def lineAt (p:Pool) (s T i k:Nat):Int:=if k < T then needT p s k else if k = T then needTo p s T i else 0
theorem lineAt_0 {p:Pool} {s k:Nat}:lineAt p s 0 0 k = 0:=by
 unfold lineAt
 rw [if_neg (Nat.not_lt_zero k)]
 split <;> rfl
theorem lineAt_next {p:Pool} {s T k:Nat}:lineAt p s (T + 1) 0 k = lineAt p s T p.nT k:=by
 unfold lineAt
 by_cases h1:k < T
 ·rw [if_pos (by omega),if_pos h1]
 ·rw [if_neg h1]
  by_cases h2:k = T
  ·subst h2;rw [if_pos (by omega),if_pos rfl];rfl
  ·rw [if_neg (by omega),if_neg h2]
   split <;> rfl
theorem lineAt_step {p:Pool} {s T i k:Nat}:lineAt p s T (i + 1) k = if k = T then needTo p s T (i + 1) else lineAt p s T i k:=by
 unfold lineAt
 by_cases h1:k < T
 ·rw [if_pos h1,if_neg (by omega),if_pos h1]
 ·rw [if_neg h1,if_neg h1]
  by_cases h2:k = T
  ·rw [if_pos h2,if_pos h2]
  ·rw [if_neg h2,if_neg h2,if_neg h2]
theorem lineAt_at {p:Pool} {s T i:Nat}:lineAt p s T i T = needTo p s T i:=by
 unfold lineAt;rw [if_neg (Nat.lt_irrefl T),if_pos rfl]
theorem lineAt_end {p:Pool} {s T k:Nat} (h:k < T):lineAt p s T 0 k = needT p s k:=by
 unfold lineAt;rw [if_pos h]
set_option maxHeartbeats 4000000
set_option maxRecDepth 100000
theorem open_n (f:PoF) (p:Pool) (hn:NearP p) (h:checkP p ≠ 0):ACall Try.prog 27 [aPool f p] [] (fun r h=>r = .tup 2 (ofL [.nilp,AI (checkP p)]) ∧ h = []):=by
 have cC:=check_ok f p hn
 (refine fcall_of mixed Try.func27 rfl (by decide) (hs:={ pub:=[31] }) ?k (ac:=?ac) ?c (rs:=?rs) ?r ?l ?H;(case k=>kernel_rfl);(case c=>(conv=>(lhs;cbv)));(case r=>(conv=>(lhs;cbv)));(case l=>exact Nat.le_of_ble_eq_true rfl))
 (repeat' ((try conv=>whnf);first|(with_reducible first|refine wT ?_|refine wF ?_|(refine wI (fun hq=>?_) (fun hq=>?_) <;> try simp only [zA,zE,zD,zJ,zB,zI,wK,wL] at hq)|refine wA ?_|refine wB ?_|refine wC ?_|refine wD ?_|refine wE ?_)|((with_reducible refine wN ?_ ?_);focus exact needA)|(with_reducible refine wG ?_)|(refine FCall.pure (cC) ⟨Ln.sameB _ rfl,True.intro⟩ rfl ?_)|(with_reducible refine wP ?_)))
 all_goals (try conv=>whnf)
 (refine ⟨⟨_,[],[],Cut.nil _,Ln.sameB _ rfl,?_,rfl⟩⟩)
 rfl
theorem open_y (f:PoF) (p:Pool) (hn:NearP p) (h0:checkP p = 0):ACall Try.prog 27 [aPool f p] [] (fun r h=>r = .tup 2 (ofL [iOpen f p,AI 0]) ∧ h = []):=by
 have cC:=check_ok f p hn
 rw [h0] at cC
 have h:=pool_d (check_0.1 h0)
 have n8:=h.n8
 have s6:=h.s6
 have s1:=h.s1
 have hp5:=pow5 h.t5
 have t5:=h.t5
 have hnt:(p.needs.getD (0:Int).toNat []).length = p.nT:=rfl
 (refine fcall_of mixed Try.func27 rfl (by decide) (hs:={ pub:=[31] }) ?k (ac:=?ac) ?c (rs:=?rs) ?r ?l ?H;(case k=>kernel_rfl);(case c=>(conv=>(lhs;cbv)));(case r=>(conv=>(lhs;cbv)));(case l=>exact Nat.le_of_ble_eq_true rfl))
 (repeat' ((try conv=>whnf);first|(with_reducible first|refine wT ?_|refine wF ?_|(refine wI (fun hq=>?_) (fun hq=>?_) <;> try simp only [zA,zE,zD,zJ,zB,zI,wK,wL] at hq)|refine wA ?_|refine wB ?_|refine wC ?_|refine wD ?_|refine wE ?_)|((with_reducible refine wN ?_ ?_);focus exact needA)|(with_reducible first|refine FBit.hasT rfl (by assumption) ?_|refine FBit.hasF rfl (by assumption) ?_|refine FBit.shrN rfl (by omega) ?_|refine FBit.half rfl ?_|refine FBit.shl1 rfl (by omega) ?_|refine Fits.inU (by omega) ?_|refine FBit.shrNI rfl (by omega) ?_|refine FBit.shrIN rfl (by omega) (by omega) ?_|refine FBit.shrI rfl (by omega) (by omega) ?_|refine FBit.shl1I rfl (by omega) ?_)|(with_reducible refine FBit.has rfl (fun hq=>?_) (fun hq=>?_))|(with_reducible first|refine FBit.and1 rfl ?_|refine FBit.andN rfl (by omega) (by omega) ?_|refine FBit.orN rfl (by omega) (by omega) ?_|refine FBit.andNotN rfl (by omega) (by omega) ?_)|(with_reducible refine wG ?_)|(refine FCall.pure (cC) ⟨Ln.sameB _ rfl,True.intro⟩ rfl ?_)|(with_reducible refine wP ?_)))
 all_goals (try conv=>whnf)
 refine FLoop.of (ACalls.mono _) (X:=Nat) (fun T=>[(1,.ptr 0 0),(5,.ptr 1 0),(6,AI (2 ^ p.nT:Nat)),(31,AI (2 ^ p.nT:Nat)),(32,AI T)]) (fun T=>match T with
  | 0=>[.box 4 (cPool f p),.box 6 (cOp f p nilS nilS)]
  | T + 1=>[.box 4 (cPool f p),.box 6 (cOp f p (.own 2 (T + 1)) nilS),rowU (T + 1) (fun T=>whoSet p T p.folk.length)]) (fun T=>T ≤ 2 ^ p.nT) (fun T=>2 ^ p.nT - T) 0 ⟨Nat.zero_le _,[0,1],Cut.A,allA⟩ ?_
 intro T hT
 by_cases hlt:T < 2 ^ p.nT
 ·have inner:∀ i,i < p.folk.length → (p.folk.getD i fo0).tongues = (p.tg i:Nat) ∧ p.tg i < 2 ^ p.nT ∧ whoSet p T i < 256 ∧ 2 ^ i < 256 ∧ whoSet p T (i + 1) = whoSet p T i ||| if p.tg i &&& T ≠ 0 then 2 ^ i else 0:=fun i hi=>by
   have:=(h.folk i hi).1
   have:=whoSet_lt p T i
   have:=pow8 (n:=i) (by omega)
   have:2 ^ i < 2 ^ 8:=Nat.pow_lt_pow_right (by decide) (by omega)
   exact ⟨by unfold Pool.tg;omega,tg_lt h hi,by omega,by omega,rfl⟩
  rcases T with _|T
  ·(repeat' ((try conv=>whnf);first|(with_reducible first|refine wT ?_|refine wF ?_|(refine wI (fun hq=>?_) (fun hq=>?_) <;> try simp only [zA,zE,zD,zJ,zB,zI,wK,wL] at hq)|refine wA ?_|refine wB ?_|refine wC ?_|refine wD ?_|refine wE ?_)|((with_reducible refine wN ?_ ?_);focus exact needA)|(with_reducible refine wG ?_)|(with_reducible refine wP ?_)))
   all_goals (try conv=>whnf)
   refine FLoop.of (ACalls.mono _) (X:=Nat) (fun i=>[(1,.ptr 0 0),(5,.ptr 1 0),(6,AI (2 ^ p.nT:Nat)),(7,AI (0:Nat)),(8,AU (whoSet p 0 i)),(31,AI (2 ^ p.nT:Nat)),(32,AI (0:Nat)),(36,aFolks f.zf f.ef p.folk),(37,AI p.folk.length),(38,AI i)]) (fun _=>[.box 4 (cPool f p),.box 6 (cOp f p nilS nilS)]) (fun i=>i ≤ p.folk.length) (fun i=>p.folk.length - i) 0 ⟨Nat.zero_le _,[0,1],Cut.A,allA⟩ ?_
   intro i hi
   by_cases hlt2:i < p.folk.length
   ·obtain ⟨i1,i2,i3,i4,hst⟩:=inner i hlt2
    (repeat' ((try conv=>whnf);first|(with_reducible first|refine wT ?_|refine wF ?_|(refine wI (fun hq=>?_) (fun hq=>?_) <;> try simp only [zA,zE,zD,zJ,zB,zI,wK,wL] at hq)|refine wA ?_|refine wB ?_|refine wC ?_|refine wD ?_|refine wE ?_)|((with_reducible refine wN ?_ ?_);focus exact needA)|(with_reducible first|refine FBit.hasT rfl (by assumption) ?_|refine FBit.hasF rfl (by assumption) ?_|refine FBit.shrN rfl (by omega) ?_|refine FBit.half rfl ?_|refine FBit.shl1 rfl (by omega) ?_|refine Fits.inU (by omega) ?_|refine FBit.shrNI rfl (by omega) ?_|refine FBit.shrIN rfl (by omega) (by omega) ?_|refine FBit.shrI rfl (by omega) (by omega) ?_|refine FBit.shl1I rfl (by omega) ?_)|(with_reducible refine FBit.has rfl (fun hq=>?_) (fun hq=>?_))|(with_reducible first|refine FBit.and1 rfl ?_|refine FBit.andN rfl (by omega) (by omega) ?_|refine FBit.orN rfl (by omega) (by omega) ?_|refine FBit.andNotN rfl (by omega) (by omega) ?_)|(with_reducible refine wG ?_)|(refine FBit.orN rfl (by omega) (by omega) ?_)|(refine FBit.andI rfl i1 (b:=0) rfl (by omega) (by omega) ?_)|(with_reducible refine wP ?_)))
    all_goals (try conv=>whnf)
    ·rw [if_pos (by omega)] at hst
     (exact ⟨⟨(i + 1),hlt2,by show _ < _;omega,[0,1],Cut.A,allA⟩⟩)
    ·rw [if_neg (by omega),Nat.or_zero] at hst
     (exact ⟨⟨(i + 1),hlt2,by show _ < _;omega,[0,1],Cut.A,allA⟩⟩)
   ·obtain rfl:i = p.folk.length:=by omega
    (repeat' ((try conv=>whnf);first|(with_reducible first|refine wT ?_|refine wF ?_|(refine wI (fun hq=>?_) (fun hq=>?_) <;> try simp only [zA,zE,zD,zJ,zB,zI,wK,wL] at hq)|refine wA ?_|refine wB ?_|refine wC ?_|refine wD ?_|refine wE ?_)|((with_reducible refine wN ?_ ?_);focus exact needA)|(with_reducible refine wG ?_)|(with_reducible refine wP ?_)))
    all_goals (try conv=>whnf)
    (exact ⟨⟨1,hlt,by show _ < _;omega,[0,1,2],(by (refine wO rfl rfl rfl ?_;repeat (first|exact wX|(refine wV rfl (by first|exact LnB.rowS|exact LnB.app (fun k hk=>absurd hk (Nat.not_lt_zero k)) (fun _ _=>rfl)|exact LnB.A) ?_)|(refine CutL.gone (Nat.lt_of_lt_of_le (Nat.lt_succ_self _) (Nat.le_of_ble_eq_true rfl)) ?_)))),allA⟩⟩)
  ·(repeat' ((try conv=>whnf);first|(with_reducible first|refine wT ?_|refine wF ?_|(refine wI (fun hq=>?_) (fun hq=>?_) <;> try simp only [zA,zE,zD,zJ,zB,zI,wK,wL] at hq)|refine wA ?_|refine wB ?_|refine wC ?_|refine wD ?_|refine wE ?_)|((with_reducible refine wN ?_ ?_);focus exact needA)|(with_reducible refine wG ?_)|(with_reducible refine wP ?_)))
   all_goals (try conv=>whnf)
   refine FLoop.of (ACalls.mono _) (X:=Nat) (fun i=>[(1,.ptr 0 0),(5,.ptr 1 0),(6,AI (2 ^ p.nT:Nat)),(7,AI (T + 1:Nat)),(8,AU (whoSet p (T + 1) i)),(31,AI (2 ^ p.nT:Nat)),(32,AI (T + 1:Nat)),(36,aFolks f.zf f.ef p.folk),(37,AI p.folk.length),(38,AI i)]) (fun _=>[.box 4 (cPool f p),.box 6 (cOp f p (.own 2 (T + 1)) nilS),rowU (T + 1) (fun T=>whoSet p T p.folk.length)]) (fun i=>i ≤ p.folk.length) (fun i=>p.folk.length - i) 0 ⟨Nat.zero_le _,[0,1,2],Cut.A,allA⟩ ?_
   intro i hi
   by_cases hlt2:i < p.folk.length
   ·obtain ⟨i1,i2,i3,i4,hst⟩:=inner i hlt2
    (repeat' ((try conv=>whnf);first|(with_reducible first|refine wT ?_|refine wF ?_|(refine wI (fun hq=>?_) (fun hq=>?_) <;> try simp only [zA,zE,zD,zJ,zB,zI,wK,wL] at hq)|refine wA ?_|refine wB ?_|refine wC ?_|refine wD ?_|refine wE ?_)|((with_reducible refine wN ?_ ?_);focus exact needA)|(with_reducible first|refine FBit.hasT rfl (by assumption) ?_|refine FBit.hasF rfl (by assumption) ?_|refine FBit.shrN rfl (by omega) ?_|refine FBit.half rfl ?_|refine FBit.shl1 rfl (by omega) ?_|refine Fits.inU (by omega) ?_|refine FBit.shrNI rfl (by omega) ?_|refine FBit.shrIN rfl (by omega) (by omega) ?_|refine FBit.shrI rfl (by omega) (by omega) ?_|refine FBit.shl1I rfl (by omega) ?_)|(with_reducible refine FBit.has rfl (fun hq=>?_) (fun hq=>?_))|(with_reducible first|refine FBit.and1 rfl ?_|refine FBit.andN rfl (by omega) (by omega) ?_|refine FBit.orN rfl (by omega) (by omega) ?_|refine FBit.andNotN rfl (by omega) (by omega) ?_)|(with_reducible refine wG ?_)|(refine FBit.orN rfl (by omega) (by omega) ?_)|(refine FBit.andI rfl i1 (b:=T + 1) rfl (by omega) (by omega) ?_)|(with_reducible refine wP ?_)))
    all_goals (try conv=>whnf)
    ·rw [if_pos (by omega)] at hst
     (exact ⟨⟨(i + 1),hlt2,by show _ < _;omega,[0,1,2],Cut.A,allA⟩⟩)
    ·rw [if_neg (by omega),Nat.or_zero] at hst
     (exact ⟨⟨(i + 1),hlt2,by show _ < _;omega,[0,1,2],Cut.A,allA⟩⟩)
   ·obtain rfl:i = p.folk.length:=by omega
    (repeat' ((try conv=>whnf);first|(with_reducible first|refine wT ?_|refine wF ?_|(refine wI (fun hq=>?_) (fun hq=>?_) <;> try simp only [zA,zE,zD,zJ,zB,zI,wK,wL] at hq)|refine wA ?_|refine wB ?_|refine wC ?_|refine wD ?_|refine wE ?_)|((with_reducible refine wN ?_ ?_);focus exact needA)|(with_reducible refine wG ?_)|(with_reducible refine wP ?_)))
    all_goals (try conv=>whnf)
    (exact ⟨⟨(T + 2),hlt,by show _ < _;omega,[0,1,3],(by (refine wO rfl rfl rfl ?_;repeat (first|exact wX|(refine wV rfl (by first|exact LnB.rowS|exact LnB.app (fun _ _ _ _=>rfl) (fun _ _=>rfl)|exact LnB.A) ?_)|(refine CutL.gone (Nat.lt_of_lt_of_le (Nat.lt_succ_self _) (Nat.le_of_ble_eq_true rfl)) ?_)))),allA⟩⟩)
 ·obtain ⟨N,hN⟩:∃ N,2 ^ p.nT = N + 1:=⟨2 ^ p.nT - 1,by omega⟩
  obtain rfl:T = N + 1:=by omega
  (repeat' ((try conv=>whnf);first|(with_reducible first|refine wT ?_|refine wF ?_|(refine wI (fun hq=>?_) (fun hq=>?_) <;> try simp only [zA,zE,zD,zJ,zB,zI,wK,wL] at hq)|refine wA ?_|refine wB ?_|refine wC ?_|refine wD ?_|refine wE ?_)|((with_reducible refine wN ?_ ?_);focus exact needA)|(with_reducible refine wG ?_)|(with_reducible refine wP ?_)))
  all_goals (try conv=>whnf)
  have hrw:∀ s,s < p.needs.length → (p.row s).length = p.nT ∧ ∀ t,t < p.nT → 0 ≤ (p.row s).getD t 0 ∧ (p.row s).getD t 0 ≤ 8:=h.row
  refine FLoop.of (ACalls.mono _) (X:=Nat) (fun s=>[(5,.ptr 0 0),(6,AI (N + 1:Nat)),(65,aRows f.zn f.en f.rz f.re p.needs),(66,AI p.needs.length),(67,AI s)]) (fun s=>match s with
   | 0=>[.box 6 (cOp f p (.own 1 (N + 1)) nilS),rowU (N + 1) (fun T=>whoSet p T p.folk.length)]
   | s + 1=>[.box 6 (cOp f p (.own 1 (N + 1)) (.own 2 (s + 1))),rowU (N + 1) (fun T=>whoSet p T p.folk.length),rowL p (s + 1)]) (fun s=>s ≤ p.needs.length) (fun s=>p.needs.length - s) 0 ⟨Nat.zero_le _,[1,2],Cut.A,allA⟩ ?_
  intro s hs
  by_cases hlt:s < p.needs.length
  ·have hrow:=hrw s hlt
   clear hrw
   have hlen:(p.needs.getD s []).length = p.nT:=hrow.1
   rcases s with _|s
   ·(repeat' ((try conv=>whnf);first|(with_reducible first|refine wT ?_|refine wF ?_|(refine wI (fun hq=>?_) (fun hq=>?_) <;> try simp only [zA,zE,zD,zJ,zB,zI,wK,wL] at hq)|refine wA ?_|refine wB ?_|refine wC ?_|refine wD ?_|refine wE ?_)|((with_reducible refine wN ?_ ?_);focus exact needA)|(with_reducible refine wG ?_)|(with_reducible refine wP ?_)))
    all_goals (try conv=>whnf)
    refine FLoop.of (ACalls.mono _) (X:=Nat) (fun T=>[(5,.ptr 0 0),(6,AI (N + 1:Nat)),(12,aInts (f.rz (0)) (f.re (0)) (p.row (0))),(13,.own 2 (N + 1)),(65,aRows f.zn f.en f.rz f.re p.needs),(66,AI p.needs.length),(67,AI (0:Nat)),(74,AI (N + 1:Nat)),(75,AI T)]) (fun T=>[.box 6 (cOp f p (.own 1 (N + 1)) (nilS)),rowU (N + 1) (fun T=>whoSet p T p.folk.length),rowZ (N + 1) (lineAt p (0) T 0)]) (fun T=>T ≤ N + 1) (fun T=>N + 1 - T) 0 ⟨Nat.zero_le _,[0,1,2],wO rfl rfl rfl ((wV rfl LnB.A (wV rfl LnB.A (wV rfl (LnB.rowE (Nat.le_refl _) (fun k hk o ho=>by obtain rfl:o = 0:=(by omega);exact int_eq lineAt_0)) wX)))),allA⟩ ?_
    intro T hT2
    by_cases hlt2:T < N + 1
    ·(repeat' ((try conv=>whnf);first|(with_reducible first|refine wT ?_|refine wF ?_|(refine wI (fun hq=>?_) (fun hq=>?_) <;> try simp only [zA,zE,zD,zJ,zB,zI,wK,wL] at hq)|refine wA ?_|refine wB ?_|refine wC ?_|refine wD ?_|refine wE ?_)|((with_reducible refine wN ?_ ?_);focus exact needA)|(with_reducible refine wG ?_)|(with_reducible refine wP ?_)))
     all_goals (try conv=>whnf)
     refine FLoop.of (ACalls.mono _) (X:=Nat) (fun i=>[(5,.ptr 0 0),(6,AI (N + 1:Nat)),(12,aInts (f.rz (0)) (f.re (0)) (p.row (0))),(13,.own 2 (N + 1)),(65,aRows f.zn f.en f.rz f.re p.needs),(66,AI p.needs.length),(67,AI (0:Nat)),(14,AI T),(74,AI (N + 1:Nat)),(75,AI T),(78,aInts (f.rz (0)) (f.re (0)) (p.row (0))),(79,AI p.nT),(80,AI i)]) (fun i=>[.box 6 (cOp f p (.own 1 (N + 1)) (nilS)),rowU (N + 1) (fun T=>whoSet p T p.folk.length),rowZ (N + 1) (lineAt p (0) T i)]) (fun i=>i ≤ p.nT) (fun i=>p.nT - i) 0 ⟨Nat.zero_le _,[0,1,2],Cut.A,allA⟩ ?_
     intro i hi
     have hnb:=needTo_le (T:=T) hrow.2 i hi
     by_cases hlt3:i < p.nT
     ·have hr:=hrow.2 i hlt3
      have hst:needTo p (0) T (i + 1) = needTo p (0) T i + if T.testBit i then (p.row (0)).getD i 0 else 0:=rfl
      have hla:=lineAt_at (p:=p) (s:=0) (T:=T) (i:=i)
      have hrowN:∀ x,x = needTo p (0) T (i + 1) → ∀ k,k < N + 1 → ∀ o,o < 1 → AI (lineAt p (0) T (i + 1) k) = updRm (fun k x=>AI (lineAt p (0) T i k)) T (fun _=>AI x) k o:=fun x hx k hk o ho=>by
       subst hx
       simp only [updRm,lineAt_step]
       by_cases e:k = T
       ·rw [if_pos e,if_pos e]
       ·rw [if_neg e,if_neg e]
      (repeat' ((try conv=>whnf);first|(with_reducible first|refine wT ?_|refine wF ?_|(refine wI (fun hq=>?_) (fun hq=>?_) <;> try simp only [zA,zE,zD,zJ,zB,zI,wK,wL] at hq)|refine wA ?_|refine wB ?_|refine wC ?_|refine wD ?_|refine wE ?_)|((with_reducible refine wN ?_ ?_);focus exact needA)|(with_reducible first|refine FBit.hasT rfl (by assumption) ?_|refine FBit.hasF rfl (by assumption) ?_|refine FBit.shrN rfl (by omega) ?_|refine FBit.half rfl ?_|refine FBit.shl1 rfl (by omega) ?_|refine Fits.inU (by omega) ?_|refine FBit.shrNI rfl (by omega) ?_|refine FBit.shrIN rfl (by omega) (by omega) ?_|refine FBit.shrI rfl (by omega) (by omega) ?_|refine FBit.shl1I rfl (by omega) ?_)|(with_reducible refine FBit.has rfl (fun hq=>?_) (fun hq=>?_))|(with_reducible first|refine FBit.and1 rfl ?_|refine FBit.andN rfl (by omega) (by omega) ?_|refine FBit.orN rfl (by omega) (by omega) ?_|refine FBit.andNotN rfl (by omega) (by omega) ?_)|(with_reducible refine wG ?_)|(with_reducible refine wP ?_)))
      all_goals (try conv=>whnf)
      ·rw [hq,if_pos rfl] at hst
       (exact ⟨⟨(i + 1),hlt3,by show _ < _;omega,[0,1,2],(by (refine wO rfl rfl rfl ?_;repeat (first|exact wX|(refine wV rfl (by first|exact LnB.rowS|exact LnB.rowE (Nat.le_refl _) (hrowN _ (by omega))|exact LnB.A) ?_)|(refine CutL.gone (Nat.lt_of_lt_of_le (Nat.lt_succ_self _) (Nat.le_of_ble_eq_true rfl)) ?_)))),allA⟩⟩)
      ·rw [hq,if_neg (by decide)] at hst
       (exact ⟨⟨(i + 1),hlt3,by show _ < _;omega,[0,1,2],(by (refine wO rfl rfl rfl ?_;repeat (first|exact wX|(refine wV rfl (by first|exact LnB.rowS|exact LnB.rowE (Nat.le_refl _) (hrowN _ (by omega))|exact LnB.A) ?_)|(refine CutL.gone (Nat.lt_of_lt_of_le (Nat.lt_succ_self _) (Nat.le_of_ble_eq_true rfl)) ?_)))),allA⟩⟩)
     ·obtain rfl:i = p.nT:=by omega
      (repeat' ((try conv=>whnf);first|(with_reducible first|refine wT ?_|refine wF ?_|(refine wI (fun hq=>?_) (fun hq=>?_) <;> try simp only [zA,zE,zD,zJ,zB,zI,wK,wL] at hq)|refine wA ?_|refine wB ?_|refine wC ?_|refine wD ?_|refine wE ?_)|((with_reducible refine wN ?_ ?_);focus exact needA)|(with_reducible refine wG ?_)|(with_reducible refine wP ?_)))
      all_goals (try conv=>whnf)
      (exact ⟨⟨(T + 1),hlt2,by show _ < _;omega,[0,1,2],(by (refine wO rfl rfl rfl ?_;repeat (first|exact wX|(refine wV rfl (by first|exact LnB.rowS|exact LnB.rowE (Nat.le_refl _) (fun k hk o ho=>int_eq lineAt_next)|exact LnB.A) ?_)|(refine CutL.gone (Nat.lt_of_lt_of_le (Nat.lt_succ_self _) (Nat.le_of_ble_eq_true rfl)) ?_)))),allA⟩⟩)
    ·obtain rfl:T = N + 1:=by omega
     (repeat' ((try conv=>whnf);first|(with_reducible first|refine wT ?_|refine wF ?_|(refine wI (fun hq=>?_) (fun hq=>?_) <;> try simp only [zA,zE,zD,zJ,zB,zI,wK,wL] at hq)|refine wA ?_|refine wB ?_|refine wC ?_|refine wD ?_|refine wE ?_)|((with_reducible refine wN ?_ ?_);focus exact needA)|(with_reducible refine wG ?_)|(with_reducible refine wP ?_)))
     all_goals (try conv=>whnf)
     refine FWk.of [(5,.ptr 0 0),(6,AI (N + 1:Nat)),(13,.own 2 (N + 1)),(65,aRows f.zn f.en f.rz f.re p.needs),(66,AI p.needs.length),(67,AI (0:Nat))] [.box 6 (cOp f p (.own 1 (N + 1)) (nilS)),rowU (N + 1) (fun T=>whoSet p T p.folk.length),rowZ (N + 1) (fun T=>needT p (0) T)] [0,1,2] (wO rfl rfl rfl ((wV rfl LnB.A (wV rfl LnB.A (wV rfl (LnB.rowE (Nat.le_refl _) (fun k hk o ho=>int_eq (lineAt_end hk).symm)) wX))))) allA ?_
     (repeat' ((try conv=>whnf);first|(with_reducible first|refine wT ?_|refine wF ?_|(refine wI (fun hq=>?_) (fun hq=>?_) <;> try simp only [zA,zE,zD,zJ,zB,zI,wK,wL] at hq)|refine wA ?_|refine wB ?_|refine wC ?_|refine wD ?_|refine wE ?_)|((with_reducible refine wN ?_ ?_);focus exact needA)|(with_reducible refine wG ?_)|(with_reducible refine wP ?_)))
     all_goals (try conv=>whnf)
     (exact ⟨⟨1,hlt,by show _ < _;omega,[0,1,3],(by (refine wO rfl rfl rfl ?_;repeat (first|exact wX|(refine wV rfl (by first|exact LnB.rowS|exact LnB.app (fun k hk=>absurd hk (Nat.not_lt_zero k)) (fun o ho=>by show AV.sl false false (2 ^ p.nT) 1 _ = _;rw [hN];rfl)|exact LnB.A) ?_)|(refine CutL.gone (Nat.lt_of_lt_of_le (Nat.lt_succ_self _) (Nat.le_of_ble_eq_true rfl)) ?_)))),allA⟩⟩)
   ·(repeat' ((try conv=>whnf);first|(with_reducible first|refine wT ?_|refine wF ?_|(refine wI (fun hq=>?_) (fun hq=>?_) <;> try simp only [zA,zE,zD,zJ,zB,zI,wK,wL] at hq)|refine wA ?_|refine wB ?_|refine wC ?_|refine wD ?_|refine wE ?_)|((with_reducible refine wN ?_ ?_);focus exact needA)|(with_reducible refine wG ?_)|(with_reducible refine wP ?_)))
    all_goals (try conv=>whnf)
    refine FLoop.of (ACalls.mono _) (X:=Nat) (fun T=>[(5,.ptr 0 0),(6,AI (N + 1:Nat)),(12,aInts (f.rz (s + 1)) (f.re (s + 1)) (p.row (s + 1))),(13,.own 3 (N + 1)),(65,aRows f.zn f.en f.rz f.re p.needs),(66,AI p.needs.length),(67,AI (s + 1:Nat)),(74,AI (N + 1:Nat)),(75,AI T)]) (fun T=>[.box 6 (cOp f p (.own 1 (N + 1)) (.own 2 (s + 1))),rowU (N + 1) (fun T=>whoSet p T p.folk.length),rowL p (s + 1),rowZ (N + 1) (lineAt p (s + 1) T 0)]) (fun T=>T ≤ N + 1) (fun T=>N + 1 - T) 0 ⟨Nat.zero_le _,[0,1,2,3],wO rfl rfl rfl ((wV rfl LnB.A (wV rfl LnB.A (wV rfl LnB.A (wV rfl (LnB.rowE (Nat.le_refl _) (fun k hk o ho=>by obtain rfl:o = 0:=(by omega);exact int_eq lineAt_0)) wX))))),allA⟩ ?_
    intro T hT2
    by_cases hlt2:T < N + 1
    ·(repeat' ((try conv=>whnf);first|(with_reducible first|refine wT ?_|refine wF ?_|(refine wI (fun hq=>?_) (fun hq=>?_) <;> try simp only [zA,zE,zD,zJ,zB,zI,wK,wL] at hq)|refine wA ?_|refine wB ?_|refine wC ?_|refine wD ?_|refine wE ?_)|((with_reducible refine wN ?_ ?_);focus exact needA)|(with_reducible refine wG ?_)|(with_reducible refine wP ?_)))
     all_goals (try conv=>whnf)
     refine FLoop.of (ACalls.mono _) (X:=Nat) (fun i=>[(5,.ptr 0 0),(6,AI (N + 1:Nat)),(12,aInts (f.rz (s + 1)) (f.re (s + 1)) (p.row (s + 1))),(13,.own 3 (N + 1)),(65,aRows f.zn f.en f.rz f.re p.needs),(66,AI p.needs.length),(67,AI (s + 1:Nat)),(14,AI T),(74,AI (N + 1:Nat)),(75,AI T),(78,aInts (f.rz (s + 1)) (f.re (s + 1)) (p.row (s + 1))),(79,AI p.nT),(80,AI i)]) (fun i=>[.box 6 (cOp f p (.own 1 (N + 1)) (.own 2 (s + 1))),rowU (N + 1) (fun T=>whoSet p T p.folk.length),rowL p (s + 1),rowZ (N + 1) (lineAt p (s + 1) T i)]) (fun i=>i ≤ p.nT) (fun i=>p.nT - i) 0 ⟨Nat.zero_le _,[0,1,2,3],Cut.A,allA⟩ ?_
     intro i hi
     have hnb:=needTo_le (T:=T) hrow.2 i hi
     by_cases hlt3:i < p.nT
     ·have hr:=hrow.2 i hlt3
      have hst:needTo p (s + 1) T (i + 1) = needTo p (s + 1) T i + if T.testBit i then (p.row (s + 1)).getD i 0 else 0:=rfl
      have hla:=lineAt_at (p:=p) (s:=s + 1) (T:=T) (i:=i)
      have hrowN:∀ x,x = needTo p (s + 1) T (i + 1) → ∀ k,k < N + 1 → ∀ o,o < 1 → AI (lineAt p (s + 1) T (i + 1) k) = updRm (fun k x=>AI (lineAt p (s + 1) T i k)) T (fun _=>AI x) k o:=fun x hx k hk o ho=>by
       subst hx
       simp only [updRm,lineAt_step]
       by_cases e:k = T
       ·rw [if_pos e,if_pos e]
       ·rw [if_neg e,if_neg e]
      (repeat' ((try conv=>whnf);first|(with_reducible first|refine wT ?_|refine wF ?_|(refine wI (fun hq=>?_) (fun hq=>?_) <;> try simp only [zA,zE,zD,zJ,zB,zI,wK,wL] at hq)|refine wA ?_|refine wB ?_|refine wC ?_|refine wD ?_|refine wE ?_)|((with_reducible refine wN ?_ ?_);focus exact needA)|(with_reducible first|refine FBit.hasT rfl (by assumption) ?_|refine FBit.hasF rfl (by assumption) ?_|refine FBit.shrN rfl (by omega) ?_|refine FBit.half rfl ?_|refine FBit.shl1 rfl (by omega) ?_|refine Fits.inU (by omega) ?_|refine FBit.shrNI rfl (by omega) ?_|refine FBit.shrIN rfl (by omega) (by omega) ?_|refine FBit.shrI rfl (by omega) (by omega) ?_|refine FBit.shl1I rfl (by omega) ?_)|(with_reducible refine FBit.has rfl (fun hq=>?_) (fun hq=>?_))|(with_reducible first|refine FBit.and1 rfl ?_|refine FBit.andN rfl (by omega) (by omega) ?_|refine FBit.orN rfl (by omega) (by omega) ?_|refine FBit.andNotN rfl (by omega) (by omega) ?_)|(with_reducible refine wG ?_)|(with_reducible refine wP ?_)))
      all_goals (try conv=>whnf)
      ·rw [hq,if_pos rfl] at hst
       (exact ⟨⟨(i + 1),hlt3,by show _ < _;omega,[0,1,2,3],(by (refine wO rfl rfl rfl ?_;repeat (first|exact wX|(refine wV rfl (by first|exact LnB.rowS|exact LnB.rowE (Nat.le_refl _) (hrowN _ (by omega))|exact LnB.A) ?_)|(refine CutL.gone (Nat.lt_of_lt_of_le (Nat.lt_succ_self _) (Nat.le_of_ble_eq_true rfl)) ?_)))),allA⟩⟩)
      ·rw [hq,if_neg (by decide)] at hst
       (exact ⟨⟨(i + 1),hlt3,by show _ < _;omega,[0,1,2,3],(by (refine wO rfl rfl rfl ?_;repeat (first|exact wX|(refine wV rfl (by first|exact LnB.rowS|exact LnB.rowE (Nat.le_refl _) (hrowN _ (by omega))|exact LnB.A) ?_)|(refine CutL.gone (Nat.lt_of_lt_of_le (Nat.lt_succ_self _) (Nat.le_of_ble_eq_true rfl)) ?_)))),allA⟩⟩)
     ·obtain rfl:i = p.nT:=by omega
      (repeat' ((try conv=>whnf);first|(with_reducible first|refine wT ?_|refine wF ?_|(refine wI (fun hq=>?_) (fun hq=>?_) <;> try simp only [zA,zE,zD,zJ,zB,zI,wK,wL] at hq)|refine wA ?_|refine wB ?_|refine wC ?_|refine wD ?_|refine wE ?_)|((with_reducible refine wN ?_ ?_);focus exact needA)|(with_reducible refine wG ?_)|(with_reducible refine wP ?_)))
      all_goals (try conv=>whnf)
      (exact ⟨⟨(T + 1),hlt2,by show _ < _;omega,[0,1,2,3],(by (refine wO rfl rfl rfl ?_;repeat (first|exact wX|(refine wV rfl (by first|exact LnB.rowS|exact LnB.rowE (Nat.le_refl _) (fun k hk o ho=>int_eq lineAt_next)|exact LnB.A) ?_)|(refine CutL.gone (Nat.lt_of_lt_of_le (Nat.lt_succ_self _) (Nat.le_of_ble_eq_true rfl)) ?_)))),allA⟩⟩)
    ·obtain rfl:T = N + 1:=by omega
     (repeat' ((try conv=>whnf);first|(with_reducible first|refine wT ?_|refine wF ?_|(refine wI (fun hq=>?_) (fun hq=>?_) <;> try simp only [zA,zE,zD,zJ,zB,zI,wK,wL] at hq)|refine wA ?_|refine wB ?_|refine wC ?_|refine wD ?_|refine wE ?_)|((with_reducible refine wN ?_ ?_);focus exact needA)|(with_reducible refine wG ?_)|(with_reducible refine wP ?_)))
     all_goals (try conv=>whnf)
     refine FWk.of [(5,.ptr 0 0),(6,AI (N + 1:Nat)),(13,.own 3 (N + 1)),(65,aRows f.zn f.en f.rz f.re p.needs),(66,AI p.needs.length),(67,AI (s + 1:Nat))] [.box 6 (cOp f p (.own 1 (N + 1)) (.own 2 (s + 1))),rowU (N + 1) (fun T=>whoSet p T p.folk.length),rowL p (s + 1),rowZ (N + 1) (fun T=>needT p (s + 1) T)] [0,1,2,3] (wO rfl rfl rfl ((wV rfl LnB.A (wV rfl LnB.A (wV rfl LnB.A (wV rfl (LnB.rowE (Nat.le_refl _) (fun k hk o ho=>int_eq (lineAt_end hk).symm)) wX)))))) allA ?_
     (repeat' ((try conv=>whnf);first|(with_reducible first|refine wT ?_|refine wF ?_|(refine wI (fun hq=>?_) (fun hq=>?_) <;> try simp only [zA,zE,zD,zJ,zB,zI,wK,wL] at hq)|refine wA ?_|refine wB ?_|refine wC ?_|refine wD ?_|refine wE ?_)|((with_reducible refine wN ?_ ?_);focus exact needA)|(with_reducible refine wG ?_)|(with_reducible refine wP ?_)))
     all_goals (try conv=>whnf)
     (exact ⟨⟨(s + 2),hlt,by show _ < _;omega,[0,1,4],(by (refine wO rfl rfl rfl ?_;repeat (first|exact wX|(refine wV rfl (by first|exact LnB.rowS|exact LnB.app (fun _ _ _ _=>rfl) (fun o ho=>by show AV.sl false false (2 ^ p.nT) 1 _ = _;rw [hN];rfl)|exact LnB.A) ?_)|(refine CutL.gone (Nat.lt_of_lt_of_le (Nat.lt_succ_self _) (Nat.le_of_ble_eq_true rfl)) ?_)))),allA⟩⟩)
  ·obtain ⟨M,hM⟩:∃ M,p.needs.length = M + 1:=⟨p.needs.length - 1,by omega⟩
   obtain rfl:s = M + 1:=by omega
   (repeat' ((try conv=>whnf);first|(with_reducible first|refine wT ?_|refine wF ?_|(refine wI (fun hq=>?_) (fun hq=>?_) <;> try simp only [zA,zE,zD,zJ,zB,zI,wK,wL] at hq)|refine wA ?_|refine wB ?_|refine wC ?_|refine wD ?_|refine wE ?_)|((with_reducible refine wN ?_ ?_);focus exact needA)|(with_reducible refine wG ?_)|(with_reducible refine wP ?_)))
   all_goals (try conv=>whnf)
   refine ⟨⟨.tup 2 (ofL [iOpen f p,AI 0]),[],[],Cut.nil _,Ln.tupN ⟨⟨True.intro,Ln.boxP (m:=6) (goneB rfl) rfl ⟨⟨⟨⟨⟨⟨True.intro,Ln.A⟩,Ln.A⟩,Ln.A⟩,Ln.A⟩,Ln.pubE (goneB rfl) rfl (Nat.le_refl _) hN.symm (fun _ _ _ _=>rfl)⟩,Ln.pubE (goneB rfl) rfl (Nat.le_refl _) hM.symm (fun _ _ _ _=>rfl)⟩ rfl⟩,Ln.A⟩,rfl,rfl⟩⟩
end Go.Proofs.Ytjfldbkjfaopbaa
