/- Secrets: OnesCount of small sets, Compare, Or. / Secrets: covers, price, lone of the program. / Secrets: best, Least, Worth of the program. / Secrets: the best mask; the example / Secrets: sameInts, the example, works; Far, valid. / Secrets: what the laws ask of a sheet, a mask and a place. / Secrets: amounts that agree, as rows. -/
import Derived.Test.YtlffjnmbpoemnaaBs13
set_option linter.unusedSimpArgs false
set_option linter.unusedVariables false
namespace Go.Proofs.Ytlffjnmbpoemnaa
open Go.RowKit

theorem FBit.lit {op:BinOp} {k:IntKind} {x y:Int} {K:Int → Prop} (r:Int) (h:rawBit op k x y = r) (hK:K r):FBit op k x y K:=⟨h ▸ hK⟩
/-- How many elements a set of at most four has. -/
def pop (x:Nat):Nat:=x % 2 + x / 2 % 2 + x / 4 % 2 + x / 8 % 2
set_option maxHeartbeats 16000000
set_option maxRecDepth 100000
theorem ones64_ok (x:Nat) (hx:x < 16):ACall Try.prog 85 [AU x] [] (fun r h=>r = AI (pop x:Nat) ∧ h = []):=by
 (refine fcall_of mixed Try.func85 rfl (by decide) (hs:={}) ?k (ac:=?ac) ?c (rs:=?rs) ?r ?l ?H;(case k=>kernel_rfl);(case c=>(conv=>(lhs;cbv)));(case r=>(conv=>(lhs;cbv)));(case l=>exact Nat.le_of_ble_eq_true rfl))
 have hc:x = 0 ∨ x = 1 ∨ x = 2 ∨ x = 3 ∨ x = 4 ∨ x = 5 ∨ x = 6 ∨ x = 7 ∨ x = 8 ∨ x = 9 ∨ x = 10 ∨ x = 11 ∨ x = 12 ∨ x = 13 ∨ x = 14 ∨ x = 15:=by omega
 rcases hc with rfl|rfl|rfl|rfl|rfl|rfl|rfl|rfl|rfl|rfl|rfl|rfl|rfl|rfl|rfl|rfl
 all_goals
  (repeat' ((try conv=>whnf);first|(with_reducible first|refine wT ?_|refine wF ?_|(refine wI (fun hq=>?_) (fun hq=>?_) <;> try simp only [zA,zE,zD,zJ,zB,zI,wK,wL] at hq)|refine wA ?_|refine wB ?_|refine wC ?_|refine wD ?_|refine wE ?_)|((with_reducible refine wN ?_ ?_);focus exact needA)|(with_reducible refine wG ?_)|(refine Fits.inU (by decide) ?_)|(refine FBit.lit 0 (by decide +kernel) ?_)|(refine FBit.lit 1 (by decide +kernel) ?_)|(refine FBit.lit 2 (by decide +kernel) ?_)|(refine FBit.lit 3 (by decide +kernel) ?_)|(refine FBit.lit 4 (by decide +kernel) ?_)|(refine FBit.lit 5 (by decide +kernel) ?_)|(refine FBit.lit 6 (by decide +kernel) ?_)|(refine FBit.lit 7 (by decide +kernel) ?_)|(with_reducible refine wP ?_)))
  (try conv=>whnf)
  (refine ⟨⟨_,[],[],Cut.nil _,Ln.sameB _ rfl,?_,rfl⟩⟩)
  rfl
theorem ones_ok (x:Nat) (hx:x < 16):ACall Try.prog 78 [AU x] [] (fun r h=>r = AI (pop x:Nat) ∧ h = []):=by
 have c1:=ones64_ok x hx
 (refine fcall_of mixed Try.func78 rfl (by decide) (hs:={}) ?k (ac:=?ac) ?c (rs:=?rs) ?r ?l ?H;(case k=>kernel_rfl);(case c=>(conv=>(lhs;cbv)));(case r=>(conv=>(lhs;cbv)));(case l=>exact Nat.le_of_ble_eq_true rfl))
 (repeat' ((try conv=>whnf);first|(with_reducible first|refine wT ?_|refine wF ?_|(refine wI (fun hq=>?_) (fun hq=>?_) <;> try simp only [zA,zE,zD,zJ,zB,zI,wK,wL] at hq)|refine wA ?_|refine wB ?_|refine wC ?_|refine wD ?_|refine wE ?_)|((with_reducible refine wN ?_ ?_);focus exact needA)|(with_reducible refine wG ?_)|(refine FCall.pure (c1) ⟨Ln.sameB _ rfl,True.intro⟩ rfl ?_)|(with_reducible refine wP ?_)))
 all_goals (try conv=>whnf)
 (refine ⟨⟨_,[],[],Cut.nil _,Ln.sameB _ rfl,?_,rfl⟩⟩)
 rfl
/-- The first number that is not 0. -/
def orI (a b:Int):Int:=if a = 0 then b else a
def orL (a b:Int):Nat → Int
 | 0=>a
 | _=>b
theorem or2_ok (a b:Int):ACall Try.prog 46 [.sl false true 2 1 (fun k _=>AI (orL a b k))] [] (fun r h=>r = AI (orI a b) ∧ h = []):=by
 unfold orI
 (refine fcall_of mixed Try.func46 rfl (by decide) (hs:={}) ?k (ac:=?ac) ?c (rs:=?rs) ?r ?l ?H;(case k=>kernel_rfl);(case c=>(conv=>(lhs;cbv)));(case r=>(conv=>(lhs;cbv)));(case l=>exact Nat.le_of_ble_eq_true rfl))
 (repeat' ((try conv=>whnf);first|(with_reducible first|refine wT ?_|refine wF ?_|(refine wI (fun hq=>?_) (fun hq=>?_) <;> try simp only [zA,zE,zD,zJ,zB,zI,wK,wL] at hq)|refine wA ?_|refine wB ?_|refine wC ?_|refine wD ?_|refine wE ?_)|((with_reducible refine wN ?_ ?_);focus exact needA)|(with_reducible refine wG ?_)|(with_reducible refine wP ?_)))
 all_goals (try conv=>whnf)
 refine FLoop.of (ACalls.mono _) (X:=Nat) (fun k=>[(3,AI 0),(6,.sl false true 2 1 (fun k _=>AI (orL a b k))),(7,AI 2),(8,AI k)]) (fun _=>[]) (fun k=>k ≤ 2 ∧ (1 ≤ k → a = 0) ∧ (2 ≤ k → b = 0)) (fun k=>2 - k) 0 ⟨⟨Nat.zero_le _,fun h=>absurd h (by decide),fun h=>absurd h (by decide)⟩,[],Cut.A,allA⟩ ?_
 rintro k ⟨hk,ha,hb⟩
 have k3:k = 0 ∨ k = 1 ∨ k = 2:=by omega
 rcases k3 with rfl|rfl|rfl
 ·by_cases h:a = 0
  ·have h':orL a b 0 = 0:=h
   (repeat' ((try conv=>whnf);first|(with_reducible first|refine wT ?_|refine wF ?_|(refine wI (fun hq=>?_) (fun hq=>?_) <;> try simp only [zA,zE,zD,zJ,zB,zI,wK,wL] at hq)|refine wA ?_|refine wB ?_|refine wC ?_|refine wD ?_|refine wE ?_)|((with_reducible refine wN ?_ ?_);focus exact needA)|(with_reducible refine wG ?_)|(with_reducible refine wP ?_)))
   all_goals (try conv=>whnf)
   exact ⟨⟨1,⟨by decide,fun _=>h,fun h=>absurd h (by decide)⟩,by decide,[],Cut.nil _,allA⟩⟩
  ·have h':¬ orL a b 0 = 0:=h
   rw [if_neg h]
   (repeat' ((try conv=>whnf);first|(with_reducible first|refine wT ?_|refine wF ?_|(refine wI (fun hq=>?_) (fun hq=>?_) <;> try simp only [zA,zE,zD,zJ,zB,zI,wK,wL] at hq)|refine wA ?_|refine wB ?_|refine wC ?_|refine wD ?_|refine wE ?_)|((with_reducible refine wN ?_ ?_);focus exact needA)|(with_reducible refine wG ?_)|(with_reducible refine wP ?_)))
   all_goals (try conv=>whnf)
   (refine ⟨⟨_,[],[],Cut.nil _,Ln.sameB _ rfl,?_,rfl⟩⟩)
   rfl
 ·rw [if_pos (ha (by decide))]
  by_cases h:b = 0
  ·have h':orL a b 1 = 0:=h
   (repeat' ((try conv=>whnf);first|(with_reducible first|refine wT ?_|refine wF ?_|(refine wI (fun hq=>?_) (fun hq=>?_) <;> try simp only [zA,zE,zD,zJ,zB,zI,wK,wL] at hq)|refine wA ?_|refine wB ?_|refine wC ?_|refine wD ?_|refine wE ?_)|((with_reducible refine wN ?_ ?_);focus exact needA)|(with_reducible refine wG ?_)|(with_reducible refine wP ?_)))
   all_goals (try conv=>whnf)
   exact ⟨⟨2,⟨by decide,fun _=>ha (by decide),fun _=>h⟩,by decide,[],Cut.nil _,allA⟩⟩
  ·have h':¬ orL a b 1 = 0:=h
   (repeat' ((try conv=>whnf);first|(with_reducible first|refine wT ?_|refine wF ?_|(refine wI (fun hq=>?_) (fun hq=>?_) <;> try simp only [zA,zE,zD,zJ,zB,zI,wK,wL] at hq)|refine wA ?_|refine wB ?_|refine wC ?_|refine wD ?_|refine wE ?_)|((with_reducible refine wN ?_ ?_);focus exact needA)|(with_reducible refine wG ?_)|(with_reducible refine wP ?_)))
   all_goals (try conv=>whnf)
   (refine ⟨⟨_,[],[],Cut.nil _,Ln.sameB _ rfl,?_,rfl⟩⟩)
   rfl
 ·rw [if_pos (ha (by decide)),hb (by decide)]
  (repeat' ((try conv=>whnf);first|(with_reducible first|refine wT ?_|refine wF ?_|(refine wI (fun hq=>?_) (fun hq=>?_) <;> try simp only [zA,zE,zD,zJ,zB,zI,wK,wL] at hq)|refine wA ?_|refine wB ?_|refine wC ?_|refine wD ?_|refine wE ?_)|((with_reducible refine wN ?_ ?_);focus exact needA)|(with_reducible refine wG ?_)|(with_reducible refine wP ?_)))
  all_goals (try conv=>whnf)
  (refine ⟨⟨_,[],[],Cut.nil _,Ln.sameB _ rfl,?_,rfl⟩⟩)
  rfl
theorem nan_ok (x:Int):ACall Try.prog 87 [AI x] [] (fun r h=>r = .bool false ∧ h = []):=by
 (refine fcall_of mixed Try.func87 rfl (by decide) (hs:={}) ?k (ac:=?ac) ?c (rs:=?rs) ?r ?l ?H;(case k=>kernel_rfl);(case c=>(conv=>(lhs;cbv)));(case r=>(conv=>(lhs;cbv)));(case l=>exact Nat.le_of_ble_eq_true rfl))
 (repeat' ((try conv=>whnf);first|(with_reducible first|refine wT ?_|refine wF ?_|(refine wI (fun hq=>?_) (fun hq=>?_) <;> try simp only [zA,zE,zD,zJ,zB,zI,wK,wL] at hq)|refine wA ?_|refine wB ?_|refine wC ?_|refine wD ?_|refine wE ?_)|((with_reducible refine wN ?_ ?_);focus exact needA)|(with_reducible refine wG ?_)|(with_reducible refine wP ?_)))
 all_goals (try conv=>whnf)
 all_goals ((refine ⟨⟨_,[],[],Cut.nil _,Ln.sameB _ rfl,?_,rfl⟩⟩);first|rfl|simp)
def cmpI (a b:Int):Int:=if a < b then -1 else if b < a then 1 else 0
theorem cmp_ok (a b:Int):ACall Try.prog 80 [AI a,AI b] [] (fun r h=>r = AI (cmpI a b) ∧ h = []):=by
 unfold cmpI
 (refine fcall_of mixed Try.func80 rfl (by decide) (hs:={}) ?k (ac:=?ac) ?c (rs:=?rs) ?r ?l ?H;(case k=>kernel_rfl);(case c=>(conv=>(lhs;cbv)));(case r=>(conv=>(lhs;cbv)));(case l=>exact Nat.le_of_ble_eq_true rfl))
 by_cases h1:a < b
 ·rw [if_pos h1]
  (repeat' ((try conv=>whnf);first|(with_reducible first|refine wT ?_|refine wF ?_|(refine wI (fun hq=>?_) (fun hq=>?_) <;> try simp only [zA,zE,zD,zJ,zB,zI,wK,wL] at hq)|refine wA ?_|refine wB ?_|refine wC ?_|refine wD ?_|refine wE ?_)|((with_reducible refine wN ?_ ?_);focus exact needA)|(with_reducible refine wG ?_)|(refine FCall.pure ((nan_ok a)) ⟨Ln.sameB _ rfl,True.intro⟩ rfl ?_)|(refine FCall.pure ((nan_ok b)) ⟨Ln.sameB _ rfl,True.intro⟩ rfl ?_)|(with_reducible refine wP ?_)))
  all_goals (try conv=>whnf)
  all_goals ((refine ⟨⟨_,[],[],Cut.nil _,Ln.sameB _ rfl,?_,rfl⟩⟩);rfl)
 ·rw [if_neg h1]
  by_cases h2:b < a
  ·rw [if_pos h2]
   (repeat' ((try conv=>whnf);first|(with_reducible first|refine wT ?_|refine wF ?_|(refine wI (fun hq=>?_) (fun hq=>?_) <;> try simp only [zA,zE,zD,zJ,zB,zI,wK,wL] at hq)|refine wA ?_|refine wB ?_|refine wC ?_|refine wD ?_|refine wE ?_)|((with_reducible refine wN ?_ ?_);focus exact needA)|(with_reducible refine wG ?_)|(refine FCall.pure ((nan_ok a)) ⟨Ln.sameB _ rfl,True.intro⟩ rfl ?_)|(refine FCall.pure ((nan_ok b)) ⟨Ln.sameB _ rfl,True.intro⟩ rfl ?_)|(with_reducible refine wP ?_)))
   all_goals (try conv=>whnf)
   all_goals ((refine ⟨⟨_,[],[],Cut.nil _,Ln.sameB _ rfl,?_,rfl⟩⟩);rfl)
  ·rw [if_neg h2]
   (repeat' ((try conv=>whnf);first|(with_reducible first|refine wT ?_|refine wF ?_|(refine wI (fun hq=>?_) (fun hq=>?_) <;> try simp only [zA,zE,zD,zJ,zB,zI,wK,wL] at hq)|refine wA ?_|refine wB ?_|refine wC ?_|refine wD ?_|refine wE ?_)|((with_reducible refine wN ?_ ?_);focus exact needA)|(with_reducible refine wG ?_)|(refine FCall.pure ((nan_ok a)) ⟨Ln.sameB _ rfl,True.intro⟩ rfl ?_)|(refine FCall.pure ((nan_ok b)) ⟨Ln.sameB _ rfl,True.intro⟩ rfl ?_)|(with_reducible refine wP ?_)))
   all_goals (try conv=>whnf)
   all_goals ((refine ⟨⟨_,[],[],Cut.nil _,Ln.sameB _ rfl,?_,rfl⟩⟩);rfl)
/-- How two lists of one length compare, from their k-th elements on. -/
def lexK (l1 l2:List Int):Nat → Nat → Int
 | 0,_=>0
 | n + 1,k=>if l1.getD k 0 = l2.getD k 0 then lexK l1 l2 n (k + 1) else cmpI (l1.getD k 0) (l2.getD k 0)
theorem compare_ok (z e z2 e2:Bool) (l1 l2:List Int) (hl:l1.length = l2.length) (h1:l1.length ≤ 1000):ACall Try.prog 70 [aInts z e l1,aInts z2 e2 l2] [] (fun r h=>r = AI (lexK l1 l2 l1.length 0) ∧ h = []):=by
 (refine fcall_of mixed Try.func70 rfl (by decide) (hs:={}) ?k (ac:=?ac) ?c (rs:=?rs) ?r ?l ?H;(case k=>kernel_rfl);(case c=>(conv=>(lhs;cbv)));(case r=>(conv=>(lhs;cbv)));(case l=>exact Nat.le_of_ble_eq_true rfl))
 (repeat' ((try conv=>whnf);first|(with_reducible first|refine wT ?_|refine wF ?_|(refine wI (fun hq=>?_) (fun hq=>?_) <;> try simp only [zA,zE,zD,zJ,zB,zI,wK,wL] at hq)|refine wA ?_|refine wB ?_|refine wC ?_|refine wD ?_|refine wE ?_)|((with_reducible refine wN ?_ ?_);focus exact needA)|(with_reducible refine wG ?_)|(with_reducible refine wP ?_)))
 all_goals (try conv=>whnf)
 refine FLoop.of (ACalls.mono _) (X:=Nat) (fun k=>[(0,aInts z e l1),(1,aInts z2 e2 l2),(9,aInts z e l1),(10,AI l1.length),(11,AI k)]) (fun _=>[]) (fun k=>k ≤ l1.length ∧ lexK l1 l2 l1.length 0 = lexK l1 l2 (l1.length - k) k) (fun k=>l1.length - k) 0 ⟨⟨Nat.zero_le _,rfl⟩,[],Cut.A,allA⟩ ?_
 rintro k ⟨hk,hL⟩
 by_cases hlt:k < l1.length
 ·obtain ⟨m,hm⟩:∃ m,l1.length - k = m + 1:=⟨l1.length - k - 1,by omega⟩
  rw [hm,lexK] at hL
  have cC:=cmp_ok (l1.getD k 0) (l2.getD k 0)
  by_cases he:l1.getD k 0 = l2.getD k 0
  ·rw [if_pos he] at hL
   have hz:cmpI (l1.getD k 0) (l2.getD k 0) = 0:=by unfold cmpI;rw [if_neg (by omega),if_neg (by omega)]
   rw [hz] at cC
   (repeat' ((try conv=>whnf);first|(with_reducible first|refine wT ?_|refine wF ?_|(refine wI (fun hq=>?_) (fun hq=>?_) <;> try simp only [zA,zE,zD,zJ,zB,zI,wK,wL] at hq)|refine wA ?_|refine wB ?_|refine wC ?_|refine wD ?_|refine wE ?_)|((with_reducible refine wN ?_ ?_);focus exact needA)|(with_reducible refine wG ?_)|(refine FCall.pure (cC) ⟨Ln.sameB _ rfl,Ln.sameB _ rfl,True.intro⟩ rfl ?_)|(with_reducible refine wP ?_)))
   all_goals (try conv=>whnf)
   exact ⟨⟨k + 1,⟨hlt,by rw [hL,show l1.length - (k + 1) = m by omega]⟩,by show _ - (k + 1) < _ - k;omega,[],Cut.nil _,allA⟩⟩
  ·rw [if_neg he] at hL
   rw [hL]
   have hz:¬ cmpI (l1.getD k 0) (l2.getD k 0) = 0:=by unfold cmpI;split <;> (try split) <;> omega
   (repeat' ((try conv=>whnf);first|(with_reducible first|refine wT ?_|refine wF ?_|(refine wI (fun hq=>?_) (fun hq=>?_) <;> try simp only [zA,zE,zD,zJ,zB,zI,wK,wL] at hq)|refine wA ?_|refine wB ?_|refine wC ?_|refine wD ?_|refine wE ?_)|((with_reducible refine wN ?_ ?_);focus exact needA)|(with_reducible refine wG ?_)|(refine FCall.pure (cC) ⟨Ln.sameB _ rfl,Ln.sameB _ rfl,True.intro⟩ rfl ?_)|(with_reducible refine wP ?_)))
   all_goals (try conv=>whnf)
   (refine ⟨⟨_,[],[],Cut.nil _,Ln.sameB _ rfl,?_,rfl⟩⟩)
   rfl
 ·rw [show l1.length - k = 0 by omega,lexK] at hL
  rw [hL]
  (repeat' ((try conv=>whnf);first|(with_reducible first|refine wT ?_|refine wF ?_|(refine wI (fun hq=>?_) (fun hq=>?_) <;> try simp only [zA,zE,zD,zJ,zB,zI,wK,wL] at hq)|refine wA ?_|refine wB ?_|refine wC ?_|refine wD ?_|refine wE ?_)|((with_reducible refine wN ?_ ?_);focus exact needA)|(with_reducible refine wG ?_)|(with_reducible refine wP ?_)))
  all_goals (try conv=>whnf)
  (refine ⟨⟨_,[],[],Cut.nil _,Ln.sameB _ rfl,?_,rfl⟩⟩)
  rfl
end Go.Proofs.Ytlffjnmbpoemnaa

namespace Go.Proofs.Ytlffjnmbpoemnaa
open Go.RowKit

/-- All secret amounts are left out. -/
def coverR (s:Sheet) (m:List Int) (r:Nat):Bool:=decide (sdiff (s.secret.getD r 0).toNat (m.getD r 0).toNat = 0)
def coversS (s:Sheet) (m:List Int):Bool:=(List.range s.R).all (coverR s m)
def manyTo (m:List Int) (r:Nat):Int:=sumTo (fun i=>(pop (m.getD i 0).toNat:Nat)) r
def outTo (s:Sheet) (m:List Int) (r c:Nat):Int:=sumTo (fun i=>if outS m r i then s.A r i else 0) c
def leftTo (s:Sheet) (m:List Int) (r:Nat):Int:=sumTo (fun i=>outTo s m i s.C) r
theorem pop_le (x:Nat):pop x ≤ 4:=by unfold pop;omega
theorem outTo_bd {s:Sheet} (hs:SheetOk s) (m:List Int) {r c:Nat} (hr:r < s.R) (hc:c ≤ s.C):0 ≤ outTo s m r c ∧ outTo s m r c ≤ 40000:=by
 have h1:=sumTo_bd (f:=fun i=>if outS m r i then s.A r i else 0) (B:=10000) (by decide) (k:=c) fun i hi=>by
  have:=hs.amt r i hr (by omega)
  split <;> omega
 have h2:0 ≤ outTo s m r c:=sumTo_nn fun i hi=>by
  have:=hs.amt r i hr (by omega)
  split <;> omega
 have:=hs.c4
 unfold outTo at h2 ⊢
 omega
theorem leftTo_bd {s:Sheet} (hs:SheetOk s) (m:List Int) {r:Nat} (hr:r ≤ s.R):0 ≤ leftTo s m r ∧ leftTo s m r ≤ 160000:=by
 have h1:=sumTo_bd (f:=fun i=>outTo s m i s.C) (B:=40000) (by decide) (k:=r) fun i hi=>by
  have:=outTo_bd hs m (show i < s.R by omega) (Nat.le_refl s.C);omega
 have h2:0 ≤ leftTo s m r:=sumTo_nn fun i hi=>(outTo_bd hs m (show i < s.R by omega) (Nat.le_refl s.C)).1
 have:=hs.r4
 unfold leftTo at h2 ⊢
 omega
theorem manyTo_bd (m:List Int) {r:Nat} (hr:r ≤ 4):0 ≤ manyTo m r ∧ manyTo m r ≤ 16:=by
 have h1:=sumTo_bd (f:=fun i=>((pop (m.getD i 0).toNat:Nat):Int)) (B:=4) (by decide) (k:=r) fun i hi=>by
  have:=pop_le (m.getD i 0).toNat;omega
 have h2:0 ≤ manyTo m r:=sumTo_nn fun i hi=>by omega
 unfold manyTo at h2 ⊢
 omega
theorem mask_16 {s:Sheet} (hs:SheetOk s) {m:List Int} (hm:MaskOk s m) {r:Nat} (hr:r < s.R):∃ k:Nat,m.getD r 0 = k ∧ k < 16 ∧ k < 2 ^ s.C:=by
 have h:=hm.bd r hr
 have:=Nat.pow_le_pow_right (show 0 < 2 by decide) hs.c4
 exact ⟨(m.getD r 0).toNat,by omega,by omega,by omega⟩
set_option maxHeartbeats 16000000
set_option maxRecDepth 100000
theorem covers_ok (f:ShF) (s:Sheet) (hs:SheetOk s) (z e:Bool) (m:List Int) (hm:MaskOk s m):ACall Try.prog 67 [iSt f s z e m] [] (fun v h=>v = .bool (coversS s m) ∧ h = []):=by
 have r4:=hs.r4
 have hml:=hm.len
 have hsl:=hs.sec.len
 (refine fcall_of mixed Try.func67 rfl (by decide) (hs:={}) ?k (ac:=?ac) ?c (rs:=?rs) ?r ?l ?H;(case k=>kernel_rfl);(case c=>(conv=>(lhs;cbv)));(case r=>(conv=>(lhs;cbv)));(case l=>exact Nat.le_of_ble_eq_true rfl))
 (repeat' ((try conv=>whnf);first|(with_reducible first|refine wT ?_|refine wF ?_|(refine wI (fun hq=>?_) (fun hq=>?_) <;> try simp only [zA,zE,zD,zJ,zB,zI,wK,wL] at hq)|refine wA ?_|refine wB ?_|refine wC ?_|refine wD ?_|refine wE ?_)|((with_reducible refine wN ?_ ?_);focus exact needA)|(with_reducible refine wG ?_)|(with_reducible refine wP ?_)))
 all_goals (try conv=>whnf)
 refine FLoop.of (ACalls.mono _) (X:=Nat) (fun r=>[(0,iSt f s z e m),(9,aInts f.zs f.es s.secret),(10,AI s.secret.length),(11,AI r)]) (fun _=>[]) (fun r=>r ≤ s.R ∧ ∀ k,k < r → coverR s m k = true) (fun r=>s.R - r) 0 ⟨⟨Nat.zero_le _,fun k hk=>absurd hk (Nat.not_lt_zero k)⟩,[],Cut.A,allA⟩ ?_
 rintro r ⟨hr,hup⟩
 by_cases hlt:r < s.R
 ·obtain ⟨a,ha,ha16,_⟩:=mask_16 hs hs.sec hlt
  obtain ⟨b,hb,hb16,_⟩:=mask_16 hs hm hlt
  have e1:coverR s m r = decide (sdiff a b = 0):=by unfold coverR;rw [ha,hb];rfl
  by_cases hz:sdiff a b = 0
  ·(repeat' ((try conv=>whnf);first|(with_reducible first|refine wT ?_|refine wF ?_|(refine wI (fun hq=>?_) (fun hq=>?_) <;> try simp only [zA,zE,zD,zJ,zB,zI,wK,wL] at hq)|refine wA ?_|refine wB ?_|refine wC ?_|refine wD ?_|refine wE ?_)|((with_reducible refine wN ?_ ?_);focus exact needA)|(with_reducible refine wG ?_)|(rw [ha,hb];refine FBit.andNotN rfl (by omega) (by omega) ?_)|(with_reducible refine wP ?_)))
   all_goals (try conv=>whnf)
   all_goals exact ⟨⟨r + 1,⟨hlt,below_step hup (by rw [e1,decide_eq_true hz])⟩,by show s.R - (r + 1) < s.R - r;omega,[],Cut.nil _,allA⟩⟩
  ·rw [show coversS s m = false from rall_no hlt (by rw [e1,decide_eq_false hz])]
   (repeat' ((try conv=>whnf);first|(with_reducible first|refine wT ?_|refine wF ?_|(refine wI (fun hq=>?_) (fun hq=>?_) <;> try simp only [zA,zE,zD,zJ,zB,zI,wK,wL] at hq)|refine wA ?_|refine wB ?_|refine wC ?_|refine wD ?_|refine wE ?_)|((with_reducible refine wN ?_ ?_);focus exact needA)|(with_reducible refine wG ?_)|(rw [ha,hb];refine FBit.andNotN rfl (by omega) (by omega) ?_)|(with_reducible refine wP ?_)))
   all_goals (try conv=>whnf)
   all_goals ((refine ⟨⟨_,[],[],Cut.nil _,Ln.sameB _ rfl,?_,rfl⟩⟩);rfl)
 ·have hrE:s.R = r:=by omega
  rw [show coversS s m = true from by unfold coversS;rw [hrE];exact rall_yes hup]
  (repeat' ((try conv=>whnf);first|(with_reducible first|refine wT ?_|refine wF ?_|(refine wI (fun hq=>?_) (fun hq=>?_) <;> try simp only [zA,zE,zD,zJ,zB,zI,wK,wL] at hq)|refine wA ?_|refine wB ?_|refine wC ?_|refine wD ?_|refine wE ?_)|((with_reducible refine wN ?_ ?_);focus exact needA)|(with_reducible refine wG ?_)|(with_reducible refine wP ?_)))
  all_goals (try conv=>whnf)
  all_goals ((refine ⟨⟨_,[],[],Cut.nil _,Ln.sameB _ rfl,?_,rfl⟩⟩);rfl)
theorem price_ok (f:ShF) (s:Sheet) (hs:SheetOk s) (z e:Bool) (m:List Int) (hm:MaskOk s m):ACall Try.prog 69 [iSt f s z e m] [] (fun v h=>v = .agg 2 (ofL [AI (manyTo m s.R),AI (leftTo s m s.R)]) ∧ h = []):=by
 have r4:=hs.r4
 have c4:=hs.c4
 have hR:s.R = s.amounts.length:=rfl
 have hml:=hm.len
 (refine fcall_of mixed Try.func69 rfl (by decide) (hs:={ ord:=[(4,[(0,[]),(1,[]),(2,[]),(3,[]),(4,[]),(5,[]),(6,[]),(7,[]),(8,[]),(9,[]),(10,[1]),(11,[]),(12,[]),(13,[])])] }) ?k (ac:=?ac) ?c (rs:=?rs) ?r ?l ?H;(case k=>kernel_rfl);(case c=>(conv=>(lhs;cbv)));(case r=>(conv=>(lhs;cbv)));(case l=>exact Nat.le_of_ble_eq_true rfl))
 (repeat' ((try conv=>whnf);first|(with_reducible first|refine wT ?_|refine wF ?_|(refine wI (fun hq=>?_) (fun hq=>?_) <;> try simp only [zA,zE,zD,zJ,zB,zI,wK,wL] at hq)|refine wA ?_|refine wB ?_|refine wC ?_|refine wD ?_|refine wE ?_)|((with_reducible refine wN ?_ ?_);focus exact needA)|(with_reducible refine wG ?_)|(with_reducible refine wP ?_)))
 all_goals (try conv=>whnf)
 refine FLoop.of (ACalls.mono _) (X:=Nat) (fun r=>[(0,iSt f s z e m),(2,.ptr 0 0),(11,aRows f.za f.ea f.rz f.re s.amounts),(12,AI s.R),(13,AI r)]) (fun r=>[.box 2 (ofL [AI (manyTo m r),AI (leftTo s m r)])]) (fun r=>r ≤ s.R) (fun r=>s.R - r) 0 ⟨Nat.zero_le _,[0],Cut.A,allA⟩ ?_
 intro r hr
 have b1:=manyTo_bd m (show r ≤ 4 by omega)
 have b2:=leftTo_bd hs m hr
 by_cases hlt:r < s.R
 ·obtain ⟨b,hb,hb16,_⟩:=mask_16 hs hm hlt
  have cN:=ones_ok b hb16
  have hp:=pop_le b
  have hrow:=hs.row r hlt
  have hm1:manyTo m (r + 1) = manyTo m r + (pop b:Nat):=by unfold manyTo;simp only [sumTo];rw [hb];rfl
  (repeat' ((try conv=>whnf);first|(with_reducible first|refine wT ?_|refine wF ?_|(refine wI (fun hq=>?_) (fun hq=>?_) <;> try simp only [zA,zE,zD,zJ,zB,zI,wK,wL] at hq)|refine wA ?_|refine wB ?_|refine wC ?_|refine wD ?_|refine wE ?_)|((with_reducible refine wN ?_ ?_);focus exact needA)|(with_reducible refine wG ?_)|(rw [hb];refine Fits.inU (by omega) ?_)|(refine FCall.pure (cN) ⟨Ln.sameB _ rfl,True.intro⟩ rfl ?_)|(with_reducible refine wP ?_)))
  all_goals (try conv=>whnf)
  refine FLoop.of (ACalls.mono _) (X:=Nat) (fun c=>[(0,iSt f s z e m),(2,.ptr 0 0),(3,AI r),(11,aRows f.za f.ea f.rz f.re s.amounts),(12,AI s.R),(13,AI r),(31,aInts (f.rz r) (f.re r) (s.amounts.getD r [])),(32,AI s.C),(33,AI c)]) (fun c=>[.box 2 (ofL [AI (manyTo m (r + 1)),AI (leftTo s m r + outTo s m r c)])]) (fun c=>c ≤ s.C) (fun c=>s.C - c) 0
   ⟨Nat.zero_le _,[0],wO rfl rfl rfl (wV rfl (LnB.boxN ⟨⟨True.intro,Ln.int (by rw [hm1])⟩,Ln.int (by show _ = leftTo s m r + 0;omega)⟩) wX),⟨Ln.A,Ln.A,Ln.A,Ln.A,Ln.A,Ln.A,Ln.A,Ln.int (by rw [hrow]),Ln.A,True.intro⟩⟩ ?_
  intro c hc
  have b3:=outTo_bd hs m hlt hc
  by_cases hltc:c < s.C
  ·have hA:0 ≤ (s.amounts.getD r []).getD c 0 ∧ (s.amounts.getD r []).getD c 0 ≤ 10000:=hs.amt r c hlt hltc
   have cO:=outP_ok f s z e m r c (by omega) (by omega) (by omega)
   cases ho:outS m r c
   ·rw [ho] at cO
    have e1:outTo s m r (c + 1) = outTo s m r c:=by unfold outTo;simp only [sumTo];rw [ho];simp
    (repeat' ((try conv=>whnf);first|(with_reducible first|refine wT ?_|refine wF ?_|(refine wI (fun hq=>?_) (fun hq=>?_) <;> try simp only [zA,zE,zD,zJ,zB,zI,wK,wL] at hq)|refine wA ?_|refine wB ?_|refine wC ?_|refine wD ?_|refine wE ?_)|((with_reducible refine wN ?_ ?_);focus exact needA)|(with_reducible refine wG ?_)|(refine FCall.pure (cO) ⟨Ln.sameB _ rfl,Ln.sameB _ rfl,Ln.sameB _ rfl,True.intro⟩ rfl ?_)|(with_reducible refine wP ?_)))
    all_goals (try conv=>whnf)
    exact ⟨⟨c + 1,hltc,by show s.C - (c + 1) < s.C - c;omega,[0],wO rfl rfl rfl (wV rfl (LnB.boxN ⟨⟨True.intro,Ln.A⟩,Ln.int (by rw [e1])⟩) wX),allA⟩⟩
   ·rw [ho] at cO
    have e1:outTo s m r (c + 1) = outTo s m r c + (s.amounts.getD r []).getD c 0:=by unfold outTo;simp only [sumTo];rw [ho];rfl
    (repeat' ((try conv=>whnf);first|(with_reducible first|refine wT ?_|refine wF ?_|(refine wI (fun hq=>?_) (fun hq=>?_) <;> try simp only [zA,zE,zD,zJ,zB,zI,wK,wL] at hq)|refine wA ?_|refine wB ?_|refine wC ?_|refine wD ?_|refine wE ?_)|((with_reducible refine wN ?_ ?_);focus exact needA)|(with_reducible refine wG ?_)|(refine FCall.pure (cO) ⟨Ln.sameB _ rfl,Ln.sameB _ rfl,Ln.sameB _ rfl,True.intro⟩ rfl ?_)|(with_reducible refine wP ?_)))
    all_goals (try conv=>whnf)
    exact ⟨⟨c + 1,hltc,by show s.C - (c + 1) < s.C - c;omega,[0],wO rfl rfl rfl (wV rfl (LnB.boxN ⟨⟨True.intro,Ln.A⟩,Ln.int (by rw [e1];omega)⟩) wX),allA⟩⟩
  ·have hcE:c = s.C:=by omega
   subst hcE
   have e1:leftTo s m (r + 1) = leftTo s m r + outTo s m r s.C:=rfl
   (repeat' ((try conv=>whnf);first|(with_reducible first|refine wT ?_|refine wF ?_|(refine wI (fun hq=>?_) (fun hq=>?_) <;> try simp only [zA,zE,zD,zJ,zB,zI,wK,wL] at hq)|refine wA ?_|refine wB ?_|refine wC ?_|refine wD ?_|refine wE ?_)|((with_reducible refine wN ?_ ?_);focus exact needA)|(with_reducible refine wG ?_)|(with_reducible refine wP ?_)))
   all_goals (try conv=>whnf)
   exact ⟨⟨r + 1,hlt,by show s.R - (r + 1) < s.R - r;omega,[0],wO rfl rfl rfl (wV rfl (LnB.boxN ⟨⟨True.intro,Ln.A⟩,Ln.int (by rw [e1])⟩) wX),allA⟩⟩
 ·have hrE:r = s.R:=by omega
  subst hrE
  (repeat' ((try conv=>whnf);first|(with_reducible first|refine wT ?_|refine wF ?_|(refine wI (fun hq=>?_) (fun hq=>?_) <;> try simp only [zA,zE,zD,zJ,zB,zI,wK,wL] at hq)|refine wA ?_|refine wB ?_|refine wC ?_|refine wD ?_|refine wE ?_)|((with_reducible refine wN ?_ ?_);focus exact needA)|(with_reducible refine wG ?_)|(with_reducible refine wP ?_)))
  all_goals (try conv=>whnf)
  all_goals ((refine ⟨⟨_,[],[],Cut.nil _,Ln.sameB _ rfl,?_,rfl⟩⟩);rfl)
/-- How many amounts of a column are left out, in the first rows. -/
def cntC (m:List Int) (c r:Nat):Int:=sumTo (fun i=>if outS m i c then 1 else 0) r
/-- Some amount is the only one that is left out in its row or column. -/
def loneS (s:Sheet) (m:List Int):Bool:=(List.range s.R).any (fun r=>decide (pop (m.getD r 0).toNat = 1)) || (List.range s.C).any (fun c=>decide (cntC m c s.R = 1))
theorem cntC_bd (m:List Int) (c:Nat) {r:Nat} (hr:r ≤ 4):0 ≤ cntC m c r ∧ cntC m c r ≤ 4:=by
 have h1:=sumTo_bd (f:=fun i=>if outS m i c then 1 else 0) (B:=1) (by decide) (k:=r) fun i hi=>by split <;> omega
 have h2:0 ≤ cntC m c r:=sumTo_nn fun i hi=>by split <;> omega
 unfold cntC at h2 ⊢
 omega
theorem index_ok (n:Nat) (g:Nat → Int) (v:Int) (hn:n ≤ 1000):ACall Try.prog 86 [aFun n g,AI v] [] (fun r h=>r = AI (idxP n (fun k=>decide (v = g k)) n 0) ∧ h = []):=by
 (refine fcall_of mixed Try.func86 rfl (by decide) (hs:={}) ?k (ac:=?ac) ?c (rs:=?rs) ?r ?l ?H;(case k=>kernel_rfl);(case c=>(conv=>(lhs;cbv)));(case r=>(conv=>(lhs;cbv)));(case l=>exact Nat.le_of_ble_eq_true rfl))
 (repeat' ((try conv=>whnf);first|(with_reducible first|refine wT ?_|refine wF ?_|(refine wI (fun hq=>?_) (fun hq=>?_) <;> try simp only [zA,zE,zD,zJ,zB,zI,wK,wL] at hq)|refine wA ?_|refine wB ?_|refine wC ?_|refine wD ?_|refine wE ?_)|((with_reducible refine wN ?_ ?_);focus exact needA)|(with_reducible refine wG ?_)|(with_reducible refine wP ?_)))
 all_goals (try conv=>whnf)
 refine FLoop.of (ACalls.mono _) (X:=Nat) (fun k=>[(0,aFun n g),(1,AI v),(7,AI n),(8,AI k)]) (fun _=>[]) (fun k=>k ≤ n ∧ idxP n (fun k=>decide (v = g k)) n 0 = idxP n (fun k=>decide (v = g k)) (n - k) k) (fun k=>n - k) 0 ⟨⟨Nat.zero_le _,rfl⟩,[],Cut.A,allA⟩ ?_
 rintro k ⟨hk,hL⟩
 by_cases hlt:k < n
 ·obtain ⟨m,hm⟩:∃ m,n - k = m + 1:=⟨n - k - 1,by omega⟩
  rw [hm,idxP] at hL
  by_cases he:v = g k
  ·rw [if_pos (decide_eq_true he)] at hL
   rw [hL]
   (repeat' ((try conv=>whnf);first|(with_reducible first|refine wT ?_|refine wF ?_|(refine wI (fun hq=>?_) (fun hq=>?_) <;> try simp only [zA,zE,zD,zJ,zB,zI,wK,wL] at hq)|refine wA ?_|refine wB ?_|refine wC ?_|refine wD ?_|refine wE ?_)|((with_reducible refine wN ?_ ?_);focus exact needA)|(with_reducible refine wG ?_)|(with_reducible refine wP ?_)))
   all_goals (try conv=>whnf)
   (refine ⟨⟨_,[],[],Cut.nil _,Ln.sameB _ rfl,?_,rfl⟩⟩)
   rfl
  ·rw [if_neg (by simpa using he)] at hL
   (repeat' ((try conv=>whnf);first|(with_reducible first|refine wT ?_|refine wF ?_|(refine wI (fun hq=>?_) (fun hq=>?_) <;> try simp only [zA,zE,zD,zJ,zB,zI,wK,wL] at hq)|refine wA ?_|refine wB ?_|refine wC ?_|refine wD ?_|refine wE ?_)|((with_reducible refine wN ?_ ?_);focus exact needA)|(with_reducible refine wG ?_)|(with_reducible refine wP ?_)))
   all_goals (try conv=>whnf)
   exact ⟨⟨k + 1,⟨hlt,by rw [hL,show n - (k + 1) = m by omega]⟩,by show n - (k + 1) < n - k;omega,[],Cut.nil _,allA⟩⟩
 ·rw [show n - k = 0 by omega,idxP] at hL
  rw [hL]
  (repeat' ((try conv=>whnf);first|(with_reducible first|refine wT ?_|refine wF ?_|(refine wI (fun hq=>?_) (fun hq=>?_) <;> try simp only [zA,zE,zD,zJ,zB,zI,wK,wL] at hq)|refine wA ?_|refine wB ?_|refine wC ?_|refine wD ?_|refine wE ?_)|((with_reducible refine wN ?_ ?_);focus exact needA)|(with_reducible refine wG ?_)|(with_reducible refine wP ?_)))
  all_goals (try conv=>whnf)
  (refine ⟨⟨_,[],[],Cut.nil _,Ln.sameB _ rfl,?_,rfl⟩⟩)
  rfl
theorem contains_ok (n:Nat) (g:Nat → Int) (v:Int) (hn:n ≤ 1000):ACall Try.prog 79 [aFun n g,AI v] [] (fun r h=>r = .bool ((List.range n).any fun k=>decide (g k = v)) ∧ h = []):=by
 have hI:=index_ok n g v hn
 have e1:decide (0 ≤ idxP n (fun k=>decide (v = g k)) n 0) = (List.range n).any fun k=>decide (g k = v):=by
  rw [Bool.eq_iff_iff,decide_eq_true_eq,idxP_any,List.any_eq_true]
  constructor
  ·rintro ⟨j,_,hj,h⟩
   exact ⟨j,List.mem_range.2 (by omega),decide_eq_true (of_decide_eq_true h).symm⟩
  ·rintro ⟨k,hk,h⟩
   exact ⟨k,by omega,by have:=List.mem_range.1 hk;omega,decide_eq_true (of_decide_eq_true h).symm⟩
 rw [← e1]
 (refine fcall_of mixed Try.func79 rfl (by decide) (hs:={}) ?k (ac:=?ac) ?c (rs:=?rs) ?r ?l ?H;(case k=>kernel_rfl);(case c=>(conv=>(lhs;cbv)));(case r=>(conv=>(lhs;cbv)));(case l=>exact Nat.le_of_ble_eq_true rfl))
 (repeat' ((try conv=>whnf);first|(with_reducible first|refine wT ?_|refine wF ?_|(refine wI (fun hq=>?_) (fun hq=>?_) <;> try simp only [zA,zE,zD,zJ,zB,zI,wK,wL] at hq)|refine wA ?_|refine wB ?_|refine wC ?_|refine wD ?_|refine wE ?_)|((with_reducible refine wN ?_ ?_);focus exact needA)|(with_reducible refine wG ?_)|(refine FCall.pure (hI) ⟨Ln.sameB _ rfl,Ln.sameB _ rfl,True.intro⟩ rfl ?_)|(with_reducible refine wP ?_)))
 all_goals (try conv=>whnf)
 all_goals ((refine ⟨⟨_,[],[],Cut.nil _,Ln.sameB _ rfl,?_,rfl⟩⟩);rfl)
def midN (m:List Int) (r c k:Nat):Int:=if k < c then cntC m k (r + 1) else cntC m k r
theorem any_no {p:Nat → Bool} {n:Nat} (h:∀ i,i < n → p i = false):(List.range n).any p = false:=by
 rw [List.any_eq_false];exact fun i hi=>by rw [h i (List.mem_range.1 hi)];decide
theorem any_yes {p:Nat → Bool} {n i:Nat} (hi:i < n) (h:p i = true):(List.range n).any p = true:=List.any_eq_true.2 ⟨i,List.mem_range.2 hi,h⟩
theorem lone_ok (f:ShF) (s:Sheet) (hs:SheetOk s) (z e:Bool) (m:List Int) (hm:MaskOk s m):ACall Try.prog 68 [iSt f s z e m] [] (fun v h=>v = .bool (loneS s m) ∧ h = []):=by
 have r4:=hs.r4
 have c4:=hs.c4
 have hml:=hm.len
 have cC:=colsP_ok f s (by have:=hs.r1;omega) z e m
 (refine fcall_of mixed Try.func68 rfl (by decide) (hs:={}) ?k (ac:=?ac) ?c (rs:=?rs) ?r ?l ?H;(case k=>kernel_rfl);(case c=>(conv=>(lhs;cbv)));(case r=>(conv=>(lhs;cbv)));(case l=>exact Nat.le_of_ble_eq_true rfl))
 (repeat' ((try conv=>whnf);first|(with_reducible first|refine wT ?_|refine wF ?_|(refine wI (fun hq=>?_) (fun hq=>?_) <;> try simp only [zA,zE,zD,zJ,zB,zI,wK,wL] at hq)|refine wA ?_|refine wB ?_|refine wC ?_|refine wD ?_|refine wE ?_)|((with_reducible refine wN ?_ ?_);focus exact needA)|(with_reducible refine wG ?_)|(refine FCall.pure (cC) ⟨Ln.sameB _ rfl,True.intro⟩ rfl ?_)|(with_reducible refine wP ?_)))
 all_goals (try conv=>whnf)
 refine FLoop.of (ACalls.mono _) (X:=Nat) (fun r=>[(3,.own 0 s.C),(13,aInts z e m),(14,AI m.length),(15,AI r)]) (fun r=>[rowF s.C (fun c=>cntC m c r)]) (fun r=>r ≤ s.R ∧ ∀ k,k < r → decide (pop (m.getD k 0).toNat = 1) = false) (fun r=>s.R - r) 0
  ⟨⟨Nat.zero_le _,fun k hk=>absurd hk (Nat.not_lt_zero k)⟩,[0],wO rfl rfl rfl (wV rfl (LnB.rowE (by simp) fun k hk o ho=>by obtain rfl:o = 0:=(by omega);rfl) wX),⟨Ln.ownE rfl (by simp),Ln.A,Ln.A,Ln.A,True.intro⟩⟩ ?_
 rintro r ⟨hr,hup⟩
 by_cases hlt:r < s.R
 ·obtain ⟨b,hb,hb16,_⟩:=mask_16 hs hm hlt
  have cN:=ones_ok b hb16
  have hbN:(m.getD r 0).toNat = b:=by rw [hb];rfl
  by_cases h1:pop b = 1
  ·rw [show loneS s m = true from by unfold loneS;rw [any_yes hlt (by rw [hbN];exact decide_eq_true h1)];rfl]
   (repeat' ((try conv=>whnf);first|(with_reducible first|refine wT ?_|refine wF ?_|(refine wI (fun hq=>?_) (fun hq=>?_) <;> try simp only [zA,zE,zD,zJ,zB,zI,wK,wL] at hq)|refine wA ?_|refine wB ?_|refine wC ?_|refine wD ?_|refine wE ?_)|((with_reducible refine wN ?_ ?_);focus exact needA)|(with_reducible refine wG ?_)|(rw [hb];refine Fits.inU (by omega) ?_)|(refine FCall.pure (cN) ⟨Ln.sameB _ rfl,True.intro⟩ rfl ?_)|(with_reducible refine wP ?_)))
   all_goals (try conv=>whnf)
   all_goals ((refine ⟨⟨_,[],[],Cut.nil _,Ln.sameB _ rfl,?_,rfl⟩⟩);rfl)
  ·(repeat' ((try conv=>whnf);first|(with_reducible first|refine wT ?_|refine wF ?_|(refine wI (fun hq=>?_) (fun hq=>?_) <;> try simp only [zA,zE,zD,zJ,zB,zI,wK,wL] at hq)|refine wA ?_|refine wB ?_|refine wC ?_|refine wD ?_|refine wE ?_)|((with_reducible refine wN ?_ ?_);focus exact needA)|(with_reducible refine wG ?_)|(rw [hb];refine Fits.inU (by omega) ?_)|(refine FCall.pure (cN) ⟨Ln.sameB _ rfl,True.intro⟩ rfl ?_)|(with_reducible refine wP ?_)))
   all_goals (try conv=>whnf)
   refine FLoop.of (ACalls.mono _) (X:=Nat) (fun c=>[(3,.own 0 s.C),(5,AI (b:Nat)),(13,aInts z e m),(14,AI m.length),(15,AI r),(24,AI s.C),(25,AI c)]) (fun c=>[rowF s.C (midN m r c)]) (fun c=>c ≤ s.C) (fun c=>s.C - c) 0
    ⟨Nat.zero_le _,[0],wO rfl rfl rfl (wV rfl (LnB.rowE (Nat.le_refl _) fun k hk o ho=>by show AI (midN m r 0 k) = AI _;unfold midN;rw [if_neg (Nat.not_lt_zero k)]) wX),⟨Ln.A,Ln.A,Ln.A,Ln.A,Ln.A,Ln.A,Ln.A,True.intro⟩⟩ ?_
   intro c hc
   by_cases hltc:c < s.C
   ·have bc:=cntC_bd m c (show r ≤ 4 by omega)
    have hmc:midN m r c c = cntC m c r:=by unfold midN;rw [if_neg (Nat.lt_irrefl c)]
    have hmb:0 ≤ midN m r c c ∧ midN m r c c ≤ 4:=by rw [hmc];exact bc
    have eo:outS m r c = b.testBit c:=by unfold outS;rw [hbN]
    cases hq7:b.testBit c
    ·rw [hq7] at eo
     have hst:∀ j,midN m r (c + 1) j = if j = c then midN m r c c + 0 else midN m r c j:=fun j=>by
      unfold midN
      by_cases ej:j = c
      ·subst ej;rw [if_pos (Nat.lt_succ_self _),if_pos rfl,if_neg (Nat.lt_irrefl _)];show cntC m j r + (if outS m r j then 1 else 0) = _;rw [eo];simp
      ·rw [if_neg ej]
       by_cases h:j < c
       ·rw [if_pos h,if_pos (by omega)]
       ·rw [if_neg h,if_neg (by omega)]
     (repeat' ((try conv=>whnf);first|(with_reducible first|refine wT ?_|refine wF ?_|(refine wI (fun hq=>?_) (fun hq=>?_) <;> try simp only [zA,zE,zD,zJ,zB,zI,wK,wL] at hq)|refine wA ?_|refine wB ?_|refine wC ?_|refine wD ?_|refine wE ?_)|((with_reducible refine wN ?_ ?_);focus exact needA)|(with_reducible refine wG ?_)|(refine FBit.shrN rfl (by omega) ?_)|(refine FBit.hasF rfl hq7 ?_)|(with_reducible refine wP ?_)))
     all_goals (try conv=>whnf)
     exact ⟨⟨c + 1,hltc,by show s.C - (c + 1) < s.C - c;omega,[0],wO rfl rfl rfl (wV rfl (LnB.hitR hst) wX),allA⟩⟩
    ·rw [hq7] at eo
     have hst:∀ j,midN m r (c + 1) j = if j = c then midN m r c c + 1 else midN m r c j:=fun j=>by
      unfold midN
      by_cases ej:j = c
      ·subst ej;rw [if_pos (Nat.lt_succ_self _),if_pos rfl,if_neg (Nat.lt_irrefl _)];show cntC m j r + (if outS m r j then 1 else 0) = _;rw [eo];simp
      ·rw [if_neg ej]
       by_cases h:j < c
       ·rw [if_pos h,if_pos (by omega)]
       ·rw [if_neg h,if_neg (by omega)]
     (repeat' ((try conv=>whnf);first|(with_reducible first|refine wT ?_|refine wF ?_|(refine wI (fun hq=>?_) (fun hq=>?_) <;> try simp only [zA,zE,zD,zJ,zB,zI,wK,wL] at hq)|refine wA ?_|refine wB ?_|refine wC ?_|refine wD ?_|refine wE ?_)|((with_reducible refine wN ?_ ?_);focus exact needA)|(with_reducible refine wG ?_)|(refine FBit.shrN rfl (by omega) ?_)|(refine FBit.hasT rfl hq7 ?_)|(with_reducible refine wP ?_)))
     all_goals (try conv=>whnf)
     exact ⟨⟨c + 1,hltc,by show s.C - (c + 1) < s.C - c;omega,[0],wO rfl rfl rfl (wV rfl (LnB.hitR hst) wX),allA⟩⟩
   ·have hcE:c = s.C:=by omega
    subst hcE
    (repeat' ((try conv=>whnf);first|(with_reducible first|refine wT ?_|refine wF ?_|(refine wI (fun hq=>?_) (fun hq=>?_) <;> try simp only [zA,zE,zD,zJ,zB,zI,wK,wL] at hq)|refine wA ?_|refine wB ?_|refine wC ?_|refine wD ?_|refine wE ?_)|((with_reducible refine wN ?_ ?_);focus exact needA)|(with_reducible refine wG ?_)|(with_reducible refine wP ?_)))
    all_goals (try conv=>whnf)
    exact ⟨⟨r + 1,⟨hlt,below_step hup (by rw [hbN];exact decide_eq_false h1)⟩,by show s.R - (r + 1) < s.R - r;omega,[0],wO rfl rfl rfl (wV rfl (LnB.rowE (Nat.le_refl _) fun k hk o ho=>by show AI (cntC m k (r + 1)) = AI (midN m r s.C k);unfold midN;rw [if_pos hk]) wX),allA⟩⟩
 ·have hrE:r = s.R:=by omega
  subst hrE
  have cK:=contains_ok s.C (fun c=>cntC m c s.R) 1 (by omega)
  rw [show loneS s m = (List.range s.C).any (fun c=>decide (cntC m c s.R = 1)) from by unfold loneS;rw [any_no hup,Bool.false_or]]
  (repeat' ((try conv=>whnf);first|(with_reducible first|refine wT ?_|refine wF ?_|(refine wI (fun hq=>?_) (fun hq=>?_) <;> try simp only [zA,zE,zD,zJ,zB,zI,wK,wL] at hq)|refine wA ?_|refine wB ?_|refine wC ?_|refine wD ?_|refine wE ?_)|((with_reducible refine wN ?_ ?_);focus exact needA)|(with_reducible refine wG ?_)|(refine FCall.pure cK ⟨Ln.pubE (by decide) rfl (Nat.le_refl _) rfl (fun _ _ _ _=>rfl),Ln.A,True.intro⟩ rfl ?_)|(refine FCall.lend [0] cK ⟨Ln.pubE (by decide) rfl (Nat.le_refl _) rfl (fun _ _ _ _=>rfl),Ln.A,True.intro⟩ rfl trivial ?_)|(with_reducible refine wP ?_)))
  all_goals (try conv=>whnf)
  all_goals ((refine ⟨⟨_,[],[],Cut.nil _,Ln.sameB _ rfl,?_,rfl⟩⟩);rfl)
end Go.Proofs.Ytlffjnmbpoemnaa

namespace Go.Proofs.Ytlffjnmbpoemnaa
open Go.RowKit

/-- The n-th mask of a sheet. -/
def mkS (s:Sheet) (n:Nat):List Int:=(List.range s.R).map fun r=>(((n >>> (s.C * r)) &&& (2 ^ s.C - 1):Nat):Int)
theorem mkS_len (s:Sheet) (n:Nat):(mkS s n).length = s.R:=by simp [mkS]
theorem mkS_get {s:Sheet} {n r:Nat} (hr:r < s.R):(mkS s n).getD r 0 = (((n >>> (s.C * r)) &&& (2 ^ s.C - 1):Nat):Int):=by
 unfold mkS;simp [List.getD,hr]
theorem mkS_ok (s:Sheet) (n:Nat):MaskOk s (mkS s n):=⟨mkS_len s n,fun r hr=>by
 rw [mkS_get hr]
 have h1:=Nat.and_le_right (n:=n >>> (s.C * r)) (m:=2 ^ s.C - 1)
 have:=Nat.two_pow_pos s.C
 omega⟩
/-- The order of two prices: by the number, or by the sum first. -/
def ordI (w:Bool) (a b c d:Int):Int:=if w then orI (b - d) (a - c) else orI (a - c) (b - d)
def cmpM (w:Bool) (s:Sheet) (a b:List Int):Int:=orI (ordI w (manyTo a s.R) (leftTo s a s.R) (manyTo b s.R) (leftTo s b s.R)) (lexK a b a.length 0)
noncomputable def takeS (w:Bool) (s:Sheet) (m:List Int) (b:Option (List Int)):Bool:=(coversS s m && !loneS s m) && (match b with|none=>true|some b=>decide (cmpM w s m b < 0)) && safeS s m
noncomputable def bstS (w:Bool) (s:Sheet):Nat → Option (List Int)
 | 0=>none
 | n + 1=>if takeS w s (mkS s n) (bstS w s n) then some (mkS s n) else bstS w s n
theorem bst_no {w:Bool} {s:Sheet} {n:Nat} (h:takeS w s (mkS s n) (bstS w s n) = false):bstS w s (n + 1) = bstS w s n:=by
 simp only [bstS];rw [if_neg (by rw [h];decide)]
theorem bst_yes {w:Bool} {s:Sheet} {n:Nat} (h:takeS w s (mkS s n) (bstS w s n) = true):bstS w s (n + 1) = some (mkS s n):=by
 simp only [bstS];rw [if_pos h]
theorem bstS_mk {w:Bool} {s:Sheet} {b:List Int}:∀ {n:Nat},bstS w s n = some b → ∃ k,k < n ∧ b = mkS s k
 | 0,h=>by cases h
 | n + 1,h=>by
  simp only [bstS] at h
  split at h
  ·injection h with h;exact ⟨n,by omega,h.symm⟩
  ·obtain ⟨k,hk,e⟩:=bstS_mk h;exact ⟨k,by omega,e⟩
def fndV (f:ShF) (s:Sheet):Option (List Int) → AV
 | none=>.nilp
 | some m=>iSt f s false false m
def mskV : Nat → AV
 | 0=>nilS
 | i + 1=>.own 2 (i + 1)
def mskB (m:List Int):Nat → List AB
 | 0=>[]
 | i + 1=>[.row (i + 1) 1 (fun k _=>AI (m.getD k 0))]
noncomputable def bestO (w:Bool) (s:Sheet):Option (List Int):=bstS w s (2 ^ (s.C * s.R))
noncomputable def bestV (w:Bool) (s:Sheet):AV:=if s.ok then (match bestO w s with|none=>.tup 2 (ofL [nilS,AI 3])|some m=>.tup 2 (ofL [aInts false false m,AI 0])) else .tup 2 (ofL [nilS,AI 80])
abbrev prA (a b:Int):AV:=.agg 2 (ofL [AI a,AI b])
set_option maxHeartbeats 16000000
set_option maxRecDepth 100000
theorem ordL_ok (a b c d:Int) (h:(0 ≤ a ∧ a ≤ 1000) ∧ (0 ≤ b ∧ b ≤ 1000000) ∧ (0 ≤ c ∧ c ≤ 1000) ∧ (0 ≤ d ∧ d ≤ 1000000)):ACall Try.prog 45 [prA a b,prA c d] [] (fun r h=>r = AI (ordI false a b c d) ∧ h = []):=by
 (refine fcall_of mixed Try.func45 rfl (by decide) (hs:={}) ?k (ac:=?ac) ?c (rs:=?rs) ?r ?l ?H;(case k=>kernel_rfl);(case c=>(conv=>(lhs;cbv)));(case r=>(conv=>(lhs;cbv)));(case l=>exact Nat.le_of_ble_eq_true rfl))
 (repeat' ((try conv=>whnf);first|(with_reducible first|refine wT ?_|refine wF ?_|(refine wI (fun hq=>?_) (fun hq=>?_) <;> try simp only [zA,zE,zD,zJ,zB,zI,wK,wL] at hq)|refine wA ?_|refine wB ?_|refine wC ?_|refine wD ?_|refine wE ?_)|((with_reducible refine wN ?_ ?_);focus exact needA)|(with_reducible refine wG ?_)|(refine FCall.pure (or2_ok (a - c) (b - d)) ⟨Ln.sl _ _ _ _ _ _ _ (fun h=>h) (fun k hk o ho=>by have:k = 0 ∨ k = 1:=(by omega);obtain rfl:o = 0:=(by omega);rcases this with rfl|rfl <;> rfl),True.intro⟩ rfl ?_)|(with_reducible refine wP ?_)))
 all_goals (try conv=>whnf)
 all_goals ((refine ⟨⟨_,[],[],Cut.nil _,Ln.sameB _ rfl,?_,rfl⟩⟩);rfl)
theorem ordW_ok (a b c d:Int) (h:(0 ≤ a ∧ a ≤ 1000) ∧ (0 ≤ b ∧ b ≤ 1000000) ∧ (0 ≤ c ∧ c ≤ 1000) ∧ (0 ≤ d ∧ d ≤ 1000000)):ACall Try.prog 47 [prA a b,prA c d] [] (fun r h=>r = AI (ordI true a b c d) ∧ h = []):=by
 (refine fcall_of mixed Try.func47 rfl (by decide) (hs:={}) ?k (ac:=?ac) ?c (rs:=?rs) ?r ?l ?H;(case k=>kernel_rfl);(case c=>(conv=>(lhs;cbv)));(case r=>(conv=>(lhs;cbv)));(case l=>exact Nat.le_of_ble_eq_true rfl))
 (repeat' ((try conv=>whnf);first|(with_reducible first|refine wT ?_|refine wF ?_|(refine wI (fun hq=>?_) (fun hq=>?_) <;> try simp only [zA,zE,zD,zJ,zB,zI,wK,wL] at hq)|refine wA ?_|refine wB ?_|refine wC ?_|refine wD ?_|refine wE ?_)|((with_reducible refine wN ?_ ?_);focus exact needA)|(with_reducible refine wG ?_)|(refine FCall.pure (or2_ok (b - d) (a - c)) ⟨Ln.sl _ _ _ _ _ _ _ (fun h=>h) (fun k hk o ho=>by have:k = 0 ∨ k = 1:=(by omega);obtain rfl:o = 0:=(by omega);rcases this with rfl|rfl <;> rfl),True.intro⟩ rfl ?_)|(with_reducible refine wP ?_)))
 all_goals (try conv=>whnf)
 all_goals ((refine ⟨⟨_,[],[],Cut.nil _,Ln.sameB _ rfl,?_,rfl⟩⟩);rfl)
theorem best_ok (fo:FuncId) (w:Bool) (hord:∀ (a b c d:Int),((0 ≤ a ∧ a ≤ 1000) ∧ (0 ≤ b ∧ b ≤ 1000000) ∧ (0 ≤ c ∧ c ≤ 1000) ∧ (0 ≤ d ∧ d ≤ 1000000)) → ACall Try.prog fo [prA a b,prA c d] [] (fun r h=>r = AI (ordI w a b c d) ∧ h = [])) (f:ShF) (s:Sheet) (hn:Near s) (h3:s.ok = true → s.R ≤ 3):ACall Try.prog 44 [aSh f s,.fn fo 0 (ofL [])] [] (fun r h=>r = bestV w s ∧ h = []):=by
 have cK:=check_ok f s hn
 (refine fcall_of mixed Try.func44 rfl (by decide) (hs:={ ord:=[(16,[(0,[]),(1,[]),(2,[]),(3,[]),(4,[]),(6,[]),(9,[]),(10,[]),(11,[]),(12,[]),(13,[]),(14,[]),(15,[]),(16,[]),(5,[12,16]),(7,[12,16]),(8,[12,16]),(17,[]),(18,[]),(19,[]),(20,[]),(21,[])])],pub:=[15] }) ?k (ac:=?ac) ?c (rs:=?rs) ?r ?l ?H;(case k=>kernel_rfl);(case c=>(conv=>(lhs;cbv)));(case r=>(conv=>(lhs;cbv)));(case l=>exact Nat.le_of_ble_eq_true rfl))
 cases hk:s.ok
 ·rw [check_80 hk] at cK
  rw [show bestV w s = .tup 2 (ofL [nilS,AI 80]) from by unfold bestV;rw [hk];rfl]
  (repeat' ((try conv=>whnf);first|(with_reducible first|refine wT ?_|refine wF ?_|(refine wI (fun hq=>?_) (fun hq=>?_) <;> try simp only [zA,zE,zD,zJ,zB,zI,wK,wL] at hq)|refine wA ?_|refine wB ?_|refine wC ?_|refine wD ?_|refine wE ?_)|((with_reducible refine wN ?_ ?_);focus exact needA)|(with_reducible refine wG ?_)|(refine FCall.pure (cK) ⟨Ln.sameB _ rfl,True.intro⟩ rfl ?_)|(with_reducible refine wP ?_)))
  all_goals (try conv=>whnf)
  all_goals ((refine ⟨⟨_,[],[],Cut.nil _,Ln.sameB _ rfl,?_,rfl⟩⟩);rfl)
 rw [check_ok' hk] at cK
 have hs:=sheet_d hk
 have hR3:=h3 hk
 have r1:=hs.r1
 have c4:=hs.c4
 have c1:=hs.c1
 have hR:s.R = s.amounts.length:=rfl
 have hC:s.C = (s.amounts.getD 0 []).length:=rfl
 have hC2:(s.amounts.getD (Int.toNat 0) []).length = s.C:=rfl
 have hCR:s.C * s.R ≤ 12:=Nat.le_trans (Nat.mul_le_mul c4 hR3) (by decide)
 have hT:=Nat.pow_le_pow_right (show 0 < 2 by decide) hCR
 have hTp:=Nat.two_pow_pos (s.C * s.R)
 have hCi:(s.C:Int) * (s.amounts.length:Int) = ((s.C * s.R:Nat):Int):=by rw [hR,Int.natCast_mul]
 rw [show bestV w s = (match bestO w s with|none=>AV.tup 2 (ofL [nilS,AI 3])|some m=>AV.tup 2 (ofL [aInts false false m,AI 0])) from by unfold bestV;rw [hk];rfl]
 (repeat' ((try conv=>whnf);first|(with_reducible first|refine wT ?_|refine wF ?_|(refine wI (fun hq=>?_) (fun hq=>?_) <;> try simp only [zA,zE,zD,zJ,zB,zI,wK,wL] at hq)|refine wA ?_|refine wB ?_|refine wC ?_|refine wD ?_|refine wE ?_)|((with_reducible refine wN ?_ ?_);focus exact needA)|(with_reducible refine wG ?_)|(refine FCall.pure (cK) ⟨Ln.sameB _ rfl,True.intro⟩ rfl ?_)|(rw [hC2,hCi];refine Fits.in64 (by omega) ?_)|(refine FBit.shl1 (j:=s.C * s.R) rfl (by omega) ?_)|(with_reducible refine wP ?_)))
 all_goals (try conv=>whnf)
 refine FLoop.of (ACalls.mono _) (X:=Nat) (fun n=>[(1,.fn fo 0 (ofL [])),(2,.ptr 0 0),(7,fndV f s (bstS w s n)),(8,AI s.C),(27,AI (2 ^ (s.C * s.R):Nat)),(28,AI n)]) (fun n=>[.box 3 (cSh f s)]) (fun n=>n ≤ 2 ^ (s.C * s.R)) (fun n=>2 ^ (s.C * s.R) - n) 0 ⟨Nat.zero_le _,[0],Cut.A,allA⟩ ?_
 intro n hn'
 have hfp:(fndV f s (bstS w s n)).pureB = true:=by cases bstS w s n <;> rfl
 by_cases hlt:n < 2 ^ (s.C * s.R)
 ·have hmk:=mkS_ok s n
  have hml:=mkS_len s n
  have cV:=covers_ok f s hs false false (mkS s n) hmk
  have cL:=lone_ok f s hs false false (mkS s n) hmk
  have cP:=price_ok f s hs false false (mkS s n) hmk
  have cS:=safeP_ok f s hs hR3 false false (mkS s n) hmk
  (repeat' ((try conv=>whnf);first|(with_reducible first|refine wT ?_|refine wF ?_|(refine wI (fun hq=>?_) (fun hq=>?_) <;> try simp only [zA,zE,zD,zJ,zB,zI,wK,wL] at hq)|refine wA ?_|refine wB ?_|refine wC ?_|refine wD ?_|refine wE ?_)|((with_reducible refine wN ?_ ?_);focus exact needA)|(with_reducible refine wG ?_)|(with_reducible refine wP ?_)))
  all_goals (try conv=>whnf)
  refine FLoop.of (ACalls.mono _) (X:=Nat) (fun r=>[(1,.fn fo 0 (ofL [])),(2,.ptr 0 0),(7,fndV f s (bstS w s n)),(8,AI s.C),(9,AI n),(10,.ptr 1 0),(27,AI (2 ^ (s.C * s.R):Nat)),(28,AI n),(36,AI s.R),(37,AI r)]) (fun r=>.box 3 (cSh f s) :: .box 4 (ofL [aRows f.za f.ea f.rz f.re s.amounts,aInts f.zs f.es s.secret,AI s.gap,mskV r]) :: mskB (mkS s n) r) (fun r=>r ≤ s.R) (fun r=>s.R - r) 0 ⟨Nat.zero_le _,[0,1],Cut.A,allA⟩ ?_
  intro r hr
  by_cases hltr:r < s.R
  ·have hcr:(s.C:Int) * (r:Int) = ((s.C * r:Nat):Int):=by rw [Int.natCast_mul]
   have hcr2:s.C * r ≤ 12:=Nat.le_trans (Nat.mul_le_mul c4 (show r ≤ 3 by omega)) (by decide)
   have hp1:((2 ^ s.C:Nat):Int) - 1 = ((2 ^ s.C - 1:Nat):Int):=by have:=Nat.two_pow_pos s.C;omega
   have hpc:=Nat.pow_le_pow_right (show 0 < 2 by decide) c4
   have hsh:=Nat.shiftRight_le n (s.C * r)
   have hget:=mkS_get (n:=n) hltr
   rcases r with _|r
   ·(repeat' ((try conv=>whnf);first|(with_reducible first|refine wT ?_|refine wF ?_|(refine wI (fun hq=>?_) (fun hq=>?_) <;> try simp only [zA,zE,zD,zJ,zB,zI,wK,wL] at hq)|refine wA ?_|refine wB ?_|refine wC ?_|refine wD ?_|refine wE ?_)|((with_reducible refine wN ?_ ?_);focus exact needA)|(with_reducible refine wG ?_)|(rw [hcr];refine Fits.in64 (by omega) ?_)|(refine FBit.shrN rfl (by omega) ?_)|(refine FBit.shl1 (j:=s.C) rfl (by omega) ?_)|(refine FBit.andI (a:=n >>> (s.C * 0)) (b:=2 ^ s.C - 1) rfl rfl hp1 (by omega) (by omega) ?_)|(with_reducible refine wP ?_)))
    all_goals (try conv=>whnf)
    exact ⟨⟨0 + 1,hltr,by show s.R - (0 + 1) < s.R - 0;omega,[0,1,2],wO rfl rfl rfl (wV rfl LnB.A (wV rfl (LnB.boxN ⟨⟨⟨⟨True.intro,Ln.A⟩,Ln.A⟩,Ln.A⟩,Ln.ownE rfl rfl⟩) (wV rfl (LnB.rowE (Nat.le_refl _) fun k hk o ho=>by obtain rfl:k = 0:=Nat.lt_one_iff.1 hk;obtain rfl:o = 0:=Nat.lt_one_iff.1 ho;exact int_eq hget) wX))),allA⟩⟩
   ·(repeat' ((try conv=>whnf);first|(with_reducible first|refine wT ?_|refine wF ?_|(refine wI (fun hq=>?_) (fun hq=>?_) <;> try simp only [zA,zE,zD,zJ,zB,zI,wK,wL] at hq)|refine wA ?_|refine wB ?_|refine wC ?_|refine wD ?_|refine wE ?_)|((with_reducible refine wN ?_ ?_);focus exact needA)|(with_reducible refine wG ?_)|(rw [hcr];refine Fits.in64 (by omega) ?_)|(refine FBit.shrN rfl (by omega) ?_)|(refine FBit.shl1 (j:=s.C) rfl (by omega) ?_)|(refine FBit.andI (a:=n >>> (s.C * (r + 1))) (b:=2 ^ s.C - 1) rfl rfl hp1 (by omega) (by omega) ?_)|(with_reducible refine wP ?_)))
    all_goals (try conv=>whnf)
    exact ⟨⟨r + 1 + 1,hltr,by show s.R - (r + 1 + 1) < s.R - (r + 1);omega,[0,1,3],wO rfl rfl rfl (wV rfl LnB.A (wV rfl (LnB.boxN ⟨⟨⟨⟨True.intro,Ln.A⟩,Ln.A⟩,Ln.A⟩,Ln.ownE rfl rfl⟩) (wV rfl (LnB.app (sz:=1) (fun k hk o ho=>rfl) (fun o ho=>by obtain rfl:o = 0:=Nat.lt_one_iff.1 ho;exact int_eq hget)) wX))),allA⟩⟩
  ·obtain ⟨R',hR'⟩:∃ R',s.R = R' + 1:=⟨s.R - 1,by omega⟩
   have hrE:r = R' + 1:=by omega
   subst hrE
   (repeat' ((try conv=>whnf);first|(with_reducible first|refine wT ?_|refine wF ?_|(refine wI (fun hq=>?_) (fun hq=>?_) <;> try simp only [zA,zE,zD,zJ,zB,zI,wK,wL] at hq)|refine wA ?_|refine wB ?_|refine wC ?_|refine wD ?_|refine wE ?_)|((with_reducible refine wN ?_ ?_);focus exact needA)|(with_reducible refine wG ?_)|(with_reducible refine wP ?_)))
   all_goals (try conv=>whnf)
   refine FWk.of [(1,.fn fo 0 (ofL [])),(2,.ptr 0 0),(7,fndV f s (bstS w s n)),(8,AI s.C),(10,iSt f s false false (mkS s n)),(27,AI (2 ^ (s.C * s.R):Nat)),(28,AI n)] [.box 3 (cSh f s)] [0] Cut.A ⟨Ln.A,Ln.A,Ln.A,Ln.A,Ln.boxP (goneB rfl) rfl ⟨⟨⟨⟨True.intro,Ln.A⟩,Ln.A⟩,Ln.A⟩,Ln.pubE (goneB rfl) rfl (Nat.le_refl _) (by rw [hml];exact hR'.symm) (fun _ _ _ _=>rfl)⟩ rfl,Ln.A,Ln.A,True.intro⟩ ?_
   cases q1:coversS s (mkS s n)
   ·rw [q1] at cV
    have e1:bstS w s (n + 1) = bstS w s n:=bst_no (by unfold takeS;rw [q1];rfl)
    (repeat' ((try conv=>whnf);first|(with_reducible first|refine wT ?_|refine wF ?_|(refine wI (fun hq=>?_) (fun hq=>?_) <;> try simp only [zA,zE,zD,zJ,zB,zI,wK,wL] at hq)|refine wA ?_|refine wB ?_|refine wC ?_|refine wD ?_|refine wE ?_)|((with_reducible refine wN ?_ ?_);focus exact needA)|(with_reducible refine wG ?_)|(refine FCall.pure (cV) ⟨Ln.sameB _ rfl,True.intro⟩ rfl ?_)|(with_reducible refine wP ?_)))
    all_goals (try conv=>whnf)
    exact ⟨⟨n + 1,hlt,by show _ - (n + 1) < _ - n;omega,[0],Cut.A,⟨Ln.A,Ln.A,by rw [e1];exact Ln.A,Ln.A,Ln.A,Ln.A,True.intro⟩⟩⟩
   rw [q1] at cV
   rcases Bool.eq_false_or_eq_true (loneS s (mkS s n)) with q2|q2
   ·rw [q2] at cL
    have e1:bstS w s (n + 1) = bstS w s n:=bst_no (by unfold takeS;rw [q1,q2];rfl)
    (repeat' ((try conv=>whnf);first|(with_reducible first|refine wT ?_|refine wF ?_|(refine wI (fun hq=>?_) (fun hq=>?_) <;> try simp only [zA,zE,zD,zJ,zB,zI,wK,wL] at hq)|refine wA ?_|refine wB ?_|refine wC ?_|refine wD ?_|refine wE ?_)|((with_reducible refine wN ?_ ?_);focus exact needA)|(with_reducible refine wG ?_)|(refine FCall.pure (cV) ⟨Ln.sameB _ rfl,True.intro⟩ rfl ?_)|(refine FCall.pure (cL) ⟨Ln.sameB _ rfl,True.intro⟩ rfl ?_)|(with_reducible refine wP ?_)))
    all_goals (try conv=>whnf)
    exact ⟨⟨n + 1,hlt,by show _ - (n + 1) < _ - n;omega,[0],Cut.A,⟨Ln.A,Ln.A,by rw [e1];exact Ln.A,Ln.A,Ln.A,Ln.A,True.intro⟩⟩⟩
   rw [q2] at cL
   have NO:∀ {X:Prop},(bstS w s (n + 1) = bstS w s n → X) → takeS w s (mkS s n) (bstS w s n) = false → X:=fun h k=>h (bst_no k)
   cases hb:bstS w s n with
   | none =>
    cases q3:safeS s (mkS s n)
    ·rw [q3] at cS
     have e1:bstS w s (n + 1) = none:=by rw [bst_no (by unfold takeS;rw [q1,q2,q3];simp),hb]
     (repeat' ((try conv=>whnf);first|(with_reducible first|refine wT ?_|refine wF ?_|(refine wI (fun hq=>?_) (fun hq=>?_) <;> try simp only [zA,zE,zD,zJ,zB,zI,wK,wL] at hq)|refine wA ?_|refine wB ?_|refine wC ?_|refine wD ?_|refine wE ?_)|((with_reducible refine wN ?_ ?_);focus exact needA)|(with_reducible refine wG ?_)|(refine FCall.pure (cV) ⟨Ln.sameB _ rfl,True.intro⟩ rfl ?_)|(refine FCall.pure (cL) ⟨Ln.sameB _ rfl,True.intro⟩ rfl ?_)|(refine FCall.pure (cS) ⟨Ln.sameB _ rfl,True.intro⟩ rfl ?_)|(with_reducible refine wP ?_)))
     all_goals (try conv=>whnf)
     exact ⟨⟨n + 1,hlt,by show _ - (n + 1) < _ - n;omega,[0],Cut.A,⟨Ln.A,Ln.A,by rw [e1];exact Ln.A,Ln.A,Ln.A,Ln.A,True.intro⟩⟩⟩
    ·rw [q3] at cS
     have e1:bstS w s (n + 1) = some (mkS s n):=bst_yes (by unfold takeS;rw [q1,q2,q3,hb];rfl)
     (repeat' ((try conv=>whnf);first|(with_reducible first|refine wT ?_|refine wF ?_|(refine wI (fun hq=>?_) (fun hq=>?_) <;> try simp only [zA,zE,zD,zJ,zB,zI,wK,wL] at hq)|refine wA ?_|refine wB ?_|refine wC ?_|refine wD ?_|refine wE ?_)|((with_reducible refine wN ?_ ?_);focus exact needA)|(with_reducible refine wG ?_)|(refine FCall.pure (cV) ⟨Ln.sameB _ rfl,True.intro⟩ rfl ?_)|(refine FCall.pure (cL) ⟨Ln.sameB _ rfl,True.intro⟩ rfl ?_)|(refine FCall.pure (cS) ⟨Ln.sameB _ rfl,True.intro⟩ rfl ?_)|(with_reducible refine wP ?_)))
     all_goals (try conv=>whnf)
     exact ⟨⟨n + 1,hlt,by show _ - (n + 1) < _ - n;omega,[0],Cut.A,⟨Ln.A,Ln.A,by rw [e1];exact Ln.A,Ln.A,Ln.A,Ln.A,True.intro⟩⟩⟩
   | some b =>
    obtain ⟨k,hkn,rfl⟩:=bstS_mk hb
    have hmk2:=mkS_ok s k
    have cP2:=price_ok f s hs false false (mkS s k) hmk2
    have b1:=manyTo_bd (mkS s n) (show s.R ≤ 4 by omega)
    have b2:=leftTo_bd hs (mkS s n) (Nat.le_refl s.R)
    have b3:=manyTo_bd (mkS s k) (show s.R ≤ 4 by omega)
    have b4:=leftTo_bd hs (mkS s k) (Nat.le_refl s.R)
    have cF:=hord (manyTo (mkS s n) s.R) (leftTo s (mkS s n) s.R) (manyTo (mkS s k) s.R) (leftTo s (mkS s k) s.R) (by omega)
    have cX:=compare_ok false false false false (mkS s n) (mkS s k) (by rw [mkS_len,mkS_len]) (by rw [mkS_len];omega)
    have hor:∀ {σ:Nat → Nat → Prop} {Bp:Nat → Prop} {H:List AB} {z:Nat → Nat → AV},Ln σ Bp H (.sl false true 2 1 (bslC z [(0,AI (ordI w (manyTo (mkS s n) s.R) (leftTo s (mkS s n) s.R) (manyTo (mkS s k) s.R) (leftTo s (mkS s k) s.R))),(1,AI (lexK (mkS s n) (mkS s k) (mkS s n).length 0))])) (.sl false true 2 1 (fun j _=>AI (orL (ordI w (manyTo (mkS s n) s.R) (leftTo s (mkS s n) s.R) (manyTo (mkS s k) s.R) (leftTo s (mkS s k) s.R)) (lexK (mkS s n) (mkS s k) (mkS s n).length 0) j))):=Ln.sl _ _ _ _ _ _ _ (fun h=>h) (fun j hj o ho=>by
     have:j = 0 ∨ j = 1:=by omega
     obtain rfl:o = 0:=by omega
     rcases this with rfl|rfl <;> rfl)
    have cO:=or2_ok (ordI w (manyTo (mkS s n) s.R) (leftTo s (mkS s n) s.R) (manyTo (mkS s k) s.R) (leftTo s (mkS s k) s.R)) (lexK (mkS s n) (mkS s k) (mkS s n).length 0)
    rw [show orI (ordI w (manyTo (mkS s n) s.R) (leftTo s (mkS s n) s.R) (manyTo (mkS s k) s.R) (leftTo s (mkS s k) s.R)) (lexK (mkS s n) (mkS s k) (mkS s n).length 0) = cmpM w s (mkS s n) (mkS s k) from rfl] at cO
    by_cases hc:cmpM w s (mkS s n) (mkS s k) < 0
    ·cases q3:safeS s (mkS s n)
     ·rw [q3] at cS
      have e1:bstS w s (n + 1) = some (mkS s k):=by rw [bst_no (by unfold takeS;rw [q3];simp),hb]
      (repeat' ((try conv=>whnf);first|(with_reducible first|refine wT ?_|refine wF ?_|(refine wI (fun hq=>?_) (fun hq=>?_) <;> try simp only [zA,zE,zD,zJ,zB,zI,wK,wL] at hq)|refine wA ?_|refine wB ?_|refine wC ?_|refine wD ?_|refine wE ?_)|((with_reducible refine wN ?_ ?_);focus exact needA)|(with_reducible refine wG ?_)|(refine FCall.pure (cV) ⟨Ln.sameB _ rfl,True.intro⟩ rfl ?_)|(refine FCall.pure (cL) ⟨Ln.sameB _ rfl,True.intro⟩ rfl ?_)|(refine FCall.pure (cP) ⟨Ln.sameB _ rfl,True.intro⟩ rfl ?_)|(refine FCall.pure (cP2) ⟨Ln.sameB _ rfl,True.intro⟩ rfl ?_)|(refine FCall.pure (cF) ⟨Ln.sameB _ rfl,Ln.sameB _ rfl,True.intro⟩ rfl ?_)|(refine FCall.pure (cX) ⟨Ln.sameB _ rfl,Ln.sameB _ rfl,True.intro⟩ rfl ?_)|(refine FCall.pure cO ⟨hor,True.intro⟩ rfl ?_)|(refine FCall.pure (cS) ⟨Ln.sameB _ rfl,True.intro⟩ rfl ?_)|(with_reducible refine wP ?_)))
      all_goals (try conv=>whnf)
      exact ⟨⟨n + 1,hlt,by show _ - (n + 1) < _ - n;omega,[0],Cut.A,⟨Ln.A,Ln.A,by rw [e1];exact Ln.A,Ln.A,Ln.A,Ln.A,True.intro⟩⟩⟩
     ·rw [q3] at cS
      have e1:bstS w s (n + 1) = some (mkS s n):=bst_yes (by unfold takeS;rw [q1,q2,q3,hb];simp;exact hc)
      (repeat' ((try conv=>whnf);first|(with_reducible first|refine wT ?_|refine wF ?_|(refine wI (fun hq=>?_) (fun hq=>?_) <;> try simp only [zA,zE,zD,zJ,zB,zI,wK,wL] at hq)|refine wA ?_|refine wB ?_|refine wC ?_|refine wD ?_|refine wE ?_)|((with_reducible refine wN ?_ ?_);focus exact needA)|(with_reducible refine wG ?_)|(refine FCall.pure (cV) ⟨Ln.sameB _ rfl,True.intro⟩ rfl ?_)|(refine FCall.pure (cL) ⟨Ln.sameB _ rfl,True.intro⟩ rfl ?_)|(refine FCall.pure (cP) ⟨Ln.sameB _ rfl,True.intro⟩ rfl ?_)|(refine FCall.pure (cP2) ⟨Ln.sameB _ rfl,True.intro⟩ rfl ?_)|(refine FCall.pure (cF) ⟨Ln.sameB _ rfl,Ln.sameB _ rfl,True.intro⟩ rfl ?_)|(refine FCall.pure (cX) ⟨Ln.sameB _ rfl,Ln.sameB _ rfl,True.intro⟩ rfl ?_)|(refine FCall.pure cO ⟨hor,True.intro⟩ rfl ?_)|(refine FCall.pure (cS) ⟨Ln.sameB _ rfl,True.intro⟩ rfl ?_)|(with_reducible refine wP ?_)))
      all_goals (try conv=>whnf)
      exact ⟨⟨n + 1,hlt,by show _ - (n + 1) < _ - n;omega,[0],Cut.A,⟨Ln.A,Ln.A,by rw [e1];exact Ln.A,Ln.A,Ln.A,Ln.A,True.intro⟩⟩⟩
    ·have e1:bstS w s (n + 1) = some (mkS s k):=by rw [bst_no (by unfold takeS;rw [hb];simp [hc]),hb]
     (repeat' ((try conv=>whnf);first|(with_reducible first|refine wT ?_|refine wF ?_|(refine wI (fun hq=>?_) (fun hq=>?_) <;> try simp only [zA,zE,zD,zJ,zB,zI,wK,wL] at hq)|refine wA ?_|refine wB ?_|refine wC ?_|refine wD ?_|refine wE ?_)|((with_reducible refine wN ?_ ?_);focus exact needA)|(with_reducible refine wG ?_)|(refine FCall.pure (cV) ⟨Ln.sameB _ rfl,True.intro⟩ rfl ?_)|(refine FCall.pure (cL) ⟨Ln.sameB _ rfl,True.intro⟩ rfl ?_)|(refine FCall.pure (cP) ⟨Ln.sameB _ rfl,True.intro⟩ rfl ?_)|(refine FCall.pure (cP2) ⟨Ln.sameB _ rfl,True.intro⟩ rfl ?_)|(refine FCall.pure (cF) ⟨Ln.sameB _ rfl,Ln.sameB _ rfl,True.intro⟩ rfl ?_)|(refine FCall.pure (cX) ⟨Ln.sameB _ rfl,Ln.sameB _ rfl,True.intro⟩ rfl ?_)|(refine FCall.pure cO ⟨hor,True.intro⟩ rfl ?_)|(with_reducible refine wP ?_)))
     all_goals (try conv=>whnf)
     exact ⟨⟨n + 1,hlt,by show _ - (n + 1) < _ - n;omega,[0],Cut.A,⟨Ln.A,Ln.A,by rw [e1];exact Ln.A,Ln.A,Ln.A,Ln.A,True.intro⟩⟩⟩
 ·have hnE:2 ^ (s.C * s.R) = n:=by omega
  have hbo:bestO w s = bstS w s n:=by unfold bestO;rw [hnE]
  rw [hbo]
  cases hb:bstS w s n with
  | none =>
   (repeat' ((try conv=>whnf);first|(with_reducible first|refine wT ?_|refine wF ?_|(refine wI (fun hq=>?_) (fun hq=>?_) <;> try simp only [zA,zE,zD,zJ,zB,zI,wK,wL] at hq)|refine wA ?_|refine wB ?_|refine wC ?_|refine wD ?_|refine wE ?_)|((with_reducible refine wN ?_ ?_);focus exact needA)|(with_reducible refine wG ?_)|(with_reducible refine wP ?_)))
   all_goals (try conv=>whnf)
   (refine ⟨⟨_,[],[],Cut.nil _,Ln.sameB _ rfl,?_,rfl⟩⟩)
   rfl
  | some b =>
   (repeat' ((try conv=>whnf);first|(with_reducible first|refine wT ?_|refine wF ?_|(refine wI (fun hq=>?_) (fun hq=>?_) <;> try simp only [zA,zE,zD,zJ,zB,zI,wK,wL] at hq)|refine wA ?_|refine wB ?_|refine wC ?_|refine wD ?_|refine wE ?_)|((with_reducible refine wN ?_ ?_);focus exact needA)|(with_reducible refine wG ?_)|(with_reducible refine wP ?_)))
   all_goals (try conv=>whnf)
   (refine ⟨⟨_,[],[],Cut.nil _,Ln.sameB _ rfl,?_,rfl⟩⟩)
   rfl
theorem least_ok (f:ShF) (s:Sheet) (hn:Near s) (h3:s.ok = true → s.R ≤ 3):ACall Try.prog 16 [aSh f s] [] (fun r h=>r = bestV false s ∧ h = []):=by
 have cB:=best_ok 45 false ordL_ok f s hn h3
 unfold bestV at cB ⊢
 (refine fcall_of mixed Try.func16 rfl (by decide) (hs:={}) ?k (ac:=?ac) ?c (rs:=?rs) ?r ?l ?H;(case k=>kernel_rfl);(case c=>(conv=>(lhs;cbv)));(case r=>(conv=>(lhs;cbv)));(case l=>exact Nat.le_of_ble_eq_true rfl))
 cases hk:s.ok
 ·rw [hk,if_neg (by decide)] at cB
  (repeat' ((try conv=>whnf);first|(with_reducible first|refine wT ?_|refine wF ?_|(refine wI (fun hq=>?_) (fun hq=>?_) <;> try simp only [zA,zE,zD,zJ,zB,zI,wK,wL] at hq)|refine wA ?_|refine wB ?_|refine wC ?_|refine wD ?_|refine wE ?_)|((with_reducible refine wN ?_ ?_);focus exact needA)|(with_reducible refine wG ?_)|(refine FCall.pure (cB) ⟨Ln.sameB _ rfl,Ln.sameB _ rfl,True.intro⟩ rfl ?_)|(with_reducible refine wP ?_)))
  all_goals (try conv=>whnf)
  all_goals ((refine ⟨⟨_,[],[],Cut.nil _,Ln.sameB _ rfl,?_,rfl⟩⟩);rfl)
 ·rw [hk,if_pos rfl] at cB
  cases hb:bestO false s with
  | none =>
   rw [hb] at cB
   (repeat' ((try conv=>whnf);first|(with_reducible first|refine wT ?_|refine wF ?_|(refine wI (fun hq=>?_) (fun hq=>?_) <;> try simp only [zA,zE,zD,zJ,zB,zI,wK,wL] at hq)|refine wA ?_|refine wB ?_|refine wC ?_|refine wD ?_|refine wE ?_)|((with_reducible refine wN ?_ ?_);focus exact needA)|(with_reducible refine wG ?_)|(refine FCall.pure (cB) ⟨Ln.sameB _ rfl,Ln.sameB _ rfl,True.intro⟩ rfl ?_)|(with_reducible refine wP ?_)))
   all_goals (try conv=>whnf)
   all_goals ((refine ⟨⟨_,[],[],Cut.nil _,Ln.sameB _ rfl,?_,rfl⟩⟩);rfl)
  | some b =>
   rw [hb] at cB
   (repeat' ((try conv=>whnf);first|(with_reducible first|refine wT ?_|refine wF ?_|(refine wI (fun hq=>?_) (fun hq=>?_) <;> try simp only [zA,zE,zD,zJ,zB,zI,wK,wL] at hq)|refine wA ?_|refine wB ?_|refine wC ?_|refine wD ?_|refine wE ?_)|((with_reducible refine wN ?_ ?_);focus exact needA)|(with_reducible refine wG ?_)|(refine FCall.pure (cB) ⟨Ln.sameB _ rfl,Ln.sameB _ rfl,True.intro⟩ rfl ?_)|(with_reducible refine wP ?_)))
   all_goals (try conv=>whnf)
   all_goals ((refine ⟨⟨_,[],[],Cut.nil _,Ln.sameB _ rfl,?_,rfl⟩⟩);rfl)
theorem worth_ok (f:ShF) (s:Sheet) (hn:Near s) (h3:s.ok = true → s.R ≤ 3):ACall Try.prog 17 [aSh f s] [] (fun r h=>r = bestV true s ∧ h = []):=by
 have cB:=best_ok 47 true ordW_ok f s hn h3
 unfold bestV at cB ⊢
 (refine fcall_of mixed Try.func17 rfl (by decide) (hs:={}) ?k (ac:=?ac) ?c (rs:=?rs) ?r ?l ?H;(case k=>kernel_rfl);(case c=>(conv=>(lhs;cbv)));(case r=>(conv=>(lhs;cbv)));(case l=>exact Nat.le_of_ble_eq_true rfl))
 cases hk:s.ok
 ·rw [hk,if_neg (by decide)] at cB
  (repeat' ((try conv=>whnf);first|(with_reducible first|refine wT ?_|refine wF ?_|(refine wI (fun hq=>?_) (fun hq=>?_) <;> try simp only [zA,zE,zD,zJ,zB,zI,wK,wL] at hq)|refine wA ?_|refine wB ?_|refine wC ?_|refine wD ?_|refine wE ?_)|((with_reducible refine wN ?_ ?_);focus exact needA)|(with_reducible refine wG ?_)|(refine FCall.pure (cB) ⟨Ln.sameB _ rfl,Ln.sameB _ rfl,True.intro⟩ rfl ?_)|(with_reducible refine wP ?_)))
  all_goals (try conv=>whnf)
  all_goals ((refine ⟨⟨_,[],[],Cut.nil _,Ln.sameB _ rfl,?_,rfl⟩⟩);rfl)
 ·rw [hk,if_pos rfl] at cB
  cases hb:bestO true s with
  | none =>
   rw [hb] at cB
   (repeat' ((try conv=>whnf);first|(with_reducible first|refine wT ?_|refine wF ?_|(refine wI (fun hq=>?_) (fun hq=>?_) <;> try simp only [zA,zE,zD,zJ,zB,zI,wK,wL] at hq)|refine wA ?_|refine wB ?_|refine wC ?_|refine wD ?_|refine wE ?_)|((with_reducible refine wN ?_ ?_);focus exact needA)|(with_reducible refine wG ?_)|(refine FCall.pure (cB) ⟨Ln.sameB _ rfl,Ln.sameB _ rfl,True.intro⟩ rfl ?_)|(with_reducible refine wP ?_)))
   all_goals (try conv=>whnf)
   all_goals ((refine ⟨⟨_,[],[],Cut.nil _,Ln.sameB _ rfl,?_,rfl⟩⟩);rfl)
  | some b =>
   rw [hb] at cB
   (repeat' ((try conv=>whnf);first|(with_reducible first|refine wT ?_|refine wF ?_|(refine wI (fun hq=>?_) (fun hq=>?_) <;> try simp only [zA,zE,zD,zJ,zB,zI,wK,wL] at hq)|refine wA ?_|refine wB ?_|refine wC ?_|refine wD ?_|refine wE ?_)|((with_reducible refine wN ?_ ?_);focus exact needA)|(with_reducible refine wG ?_)|(refine FCall.pure (cB) ⟨Ln.sameB _ rfl,Ln.sameB _ rfl,True.intro⟩ rfl ?_)|(with_reducible refine wP ?_)))
   all_goals (try conv=>whnf)
   all_goals ((refine ⟨⟨_,[],[],Cut.nil _,Ln.sameB _ rfl,?_,rfl⟩⟩);rfl)
end Go.Proofs.Ytlffjnmbpoemnaa

namespace Go.Proofs.Ytlffjnmbpoemnaa

theorem lexK_trans {a b c:List Int}:∀ {n k:Nat},lexK a b n k < 0 → lexK b c n k < 0 → lexK a c n k < 0
 | 0,_,h,_=>by simp [lexK] at h
 | n + 1,k,h1,h2=>by
  simp only [lexK] at h1 h2 ⊢
  by_cases e1:a.getD k 0 = b.getD k 0
  ·rw [if_pos e1] at h1
   by_cases e2:b.getD k 0 = c.getD k 0
   ·rw [if_pos e2] at h2;rw [if_pos (e1.trans e2)];exact lexK_trans h1 h2
   ·rw [if_neg e2] at h2;rw [if_neg (by omega),e1];exact h2
  ·rw [if_neg e1] at h1
   have l1:a.getD k 0 < b.getD k 0:=by unfold cmpI at h1;split at h1;assumption;split at h1 <;> omega
   by_cases e2:b.getD k 0 = c.getD k 0
   ·rw [if_neg (by omega),← e2];exact h1
   ·rw [if_neg e2] at h2
    have l2:b.getD k 0 < c.getD k 0:=by unfold cmpI at h2;split at h2;assumption;split at h2 <;> omega
    rw [if_neg (by omega)];unfold cmpI;rw [if_pos (by omega)];decide
def p1 (w:Bool) (s:Sheet) (m:List Int):Int:=if w then leftTo s m s.R else manyTo m s.R
def p2 (w:Bool) (s:Sheet) (m:List Int):Int:=if w then manyTo m s.R else leftTo s m s.R
theorem cmpM_lt {w:Bool} {s:Sheet} {a b:List Int}:cmpM w s a b < 0 ↔ p1 w s a < p1 w s b ∨ (p1 w s a = p1 w s b ∧ (p2 w s a < p2 w s b ∨ (p2 w s a = p2 w s b ∧ lexK a b a.length 0 < 0))):=by
 unfold cmpM ordI orI p1 p2
 cases w
 ·simp only [Bool.false_eq_true,if_false]
  split <;> (try split) <;> omega
 ·simp only [if_true]
  split <;> (try split) <;> omega
theorem cmpM_trans {w:Bool} {s:Sheet} {a b c:List Int} (hl:a.length = b.length) (h1:cmpM w s a b < 0) (h2:cmpM w s b c < 0):cmpM w s a c < 0:=by
 rw [cmpM_lt] at h1 h2 ⊢
 rcases h1 with h1|⟨h1,h1'|⟨h1',h1''⟩⟩ <;> rcases h2 with h2|⟨h2,h2'|⟨h2',h2''⟩⟩
 any_goals (left;omega)
 any_goals (right;refine ⟨by omega,?_⟩;left;omega)
 right
 refine ⟨by omega,.inr ⟨by omega,?_⟩⟩
 rw [← hl] at h2''
 exact lexK_trans h1'' h2''
/-- Masks that the search looks at. -/
noncomputable def goodS (s:Sheet) (m:List Int):Bool:=coversS s m && !loneS s m && safeS s m
theorem bst_inv (w:Bool) (s:Sheet):∀ n,match bstS w s n with
  | none=>∀ k,k < n → goodS s (mkS s k) = false
  | some b=>goodS s b = true ∧ (∃ k,k < n ∧ b = mkS s k) ∧ ∀ k,k < n → goodS s (mkS s k) = true → ¬ cmpM w s (mkS s k) b < 0
 | 0=>fun k hk=>absurd hk (Nat.not_lt_zero k)
 | n + 1=>by
  have ih:=bst_inv w s n
  have hgt:∀ b,takeS w s (mkS s n) b = (goodS s (mkS s n) && (match b with|none=>true|some b=>decide (cmpM w s (mkS s n) b < 0))):=fun b=>by
   unfold takeS goodS
   cases b <;> cases coversS s (mkS s n) <;> cases loneS s (mkS s n) <;> cases safeS s (mkS s n) <;> simp
  cases hb:bstS w s n with
  | none =>
   rw [hb] at ih
   cases hg:goodS s (mkS s n)
   ·rw [bst_no (by rw [hgt,hg];rfl),hb]
    intro k hk
    by_cases e:k = n
    ·subst e;exact hg
    ·exact ih k (by omega)
   ·rw [bst_yes (by rw [hgt,hg,hb];rfl)]
    refine ⟨hg,⟨n,Nat.lt_succ_self n,rfl⟩,fun k hk hgk=>?_⟩
    by_cases e:k = n
    ·subst e
     rw [cmpM_lt]
     have hirr:∀ (l:List Int) (n k:Nat),lexK l l n k = 0:=by
      intro l n
      induction n with
      | zero=>intro k;rfl
      | succ n ih=>intro k;simp only [lexK,if_true];exact ih _
     rw [hirr];omega
    ·have:=ih k (by omega);rw [this] at hgk;cases hgk
  | some b =>
   rw [hb] at ih
   obtain ⟨i1,⟨k0,hk0,i2⟩,i3⟩:=ih
   cases hg:goodS s (mkS s n)
   ·rw [bst_no (by rw [hgt,hg];rfl),hb]
    refine ⟨i1,⟨k0,by omega,i2⟩,fun k hk hgk=>?_⟩
    by_cases e:k = n
    ·subst e;rw [hg] at hgk;cases hgk
    ·exact i3 k (by omega) hgk
   ·by_cases hc:cmpM w s (mkS s n) b < 0
    ·rw [bst_yes (by rw [hgt,hg,hb];simpa using hc)]
     refine ⟨hg,⟨n,Nat.lt_succ_self n,rfl⟩,fun k hk hgk=>?_⟩
     by_cases e:k = n
     ·subst e
      intro h
      have hirr:∀ (l:List Int) (n k:Nat),lexK l l n k = 0:=by
       intro l n
       induction n with
       | zero=>intro k;rfl
       | succ n ih=>intro k;simp only [lexK,if_true];exact ih _
      rw [cmpM_lt,hirr] at h;omega
     ·intro h
      exact i3 k (by omega) hgk (cmpM_trans (by rw [mkS_len,mkS_len]) h hc)
    ·rw [bst_no (by rw [hgt,hg,hb];simpa using hc),hb]
     refine ⟨i1,⟨k0,by omega,i2⟩,fun k hk hgk=>?_⟩
     by_cases e:k = n
     ·subst e;exact hc
     ·exact i3 k (by omega) hgk
/-- The sheet of the examples. -/
def exS : Sheet:=⟨[[20,50,10],[8,19,22],[17,32,12]],[0,0,2],10⟩
def exM : List Int:=[0,3,3]
theorem exS_ok : exS.ok = true:=by decide
theorem ex_pair {r c:Nat} (hr:r < 3) (hc:c < 3):(r = 0 ∨ r = 1 ∨ r = 2) ∧ (c = 0 ∨ c = 1 ∨ c = 2):=by omega
def ofM (l:List (List Int)):Nat → Nat → Int:=fun r c=>at2 l r c
theorem ex_ag {l:List (List Int)} (h:∀ r,r < 3 → ∀ c,c < 3 → 0 ≤ at2 l r c ∧ (outS exM r c = false → at2 l r c = exS.A r c)) (h1:∀ r,r < 3 → sumTo (at2 l r) 3 = sumTo (exS.A r) 3) (h2:∀ c,c < 3 → sumTo (fun r=>at2 l r c) 3 = sumTo (fun r=>exS.A r c) 3):Ag exS exM (ofM l) :=
 ⟨fun r c hr hc=>(h r hr c hc).1,fun r c hr hc=>(h r hr c hc).2,h1,h2⟩
theorem ex_hi : IsHi exS exM 2 1 49:=by
 refine ⟨⟨ofM [[20,50,10],[25,2,22],[0,49,12]],ex_ag (by decide) (by decide) (by decide),by decide⟩,fun x hx=>?_⟩
 have h1:=hx.row 2 (show 2 < exS.R by decide)
 have h2:=hx.nn 2 0 (show 2 < exS.R by decide) (show 0 < exS.C by decide)
 have h3:=hx.un 2 2 (show 2 < exS.R by decide) (show 2 < exS.C by decide) (by decide)
 have e1:sumTo (x 2) exS.C = 0 + x 2 0 + x 2 1 + x 2 2:=rfl
 have e2:sumTo (exS.A 2) exS.C = 61:=by decide
 have e3:exS.A 2 2 = 12:=by decide
 omega
theorem ex_lo : IsLo exS exM 2 1 24:=by
 refine ⟨⟨ofM [[20,50,10],[0,27,22],[25,24,12]],ex_ag (by decide) (by decide) (by decide),by decide⟩,fun x hx=>?_⟩
 have h1:=hx.row 2 (show 2 < exS.R by decide)
 have h2:=hx.nn 1 0 (show 1 < exS.R by decide) (show 0 < exS.C by decide)
 have h3:=hx.un 2 2 (show 2 < exS.R by decide) (show 2 < exS.C by decide) (by decide)
 have h4:=hx.un 0 0 (show 0 < exS.R by decide) (show 0 < exS.C by decide) (by decide)
 have h5:=hx.col 0 (show 0 < exS.C by decide)
 have e1:sumTo (x 2) exS.C = 0 + x 2 0 + x 2 1 + x 2 2:=rfl
 have e2:sumTo (exS.A 2) exS.C = 61:=by decide
 have e3:exS.A 2 2 = 12:=by decide
 have e4:sumTo (fun r=>x r 0) exS.R = 0 + x 0 0 + x 1 0 + x 2 0:=rfl
 have e5:sumTo (fun r=>exS.A r 0) exS.R = 45:=by decide
 have e6:exS.A 0 0 = 20:=by decide
 omega
theorem ex_safe : safeS exS exM = true:=by
 unfold safeS rowSafe
 refine rall_yes fun r hr=>rall_yes fun c hc=>?_
 have hr:r < 3:=hr
 have hc:c < 3:=hc
 unfold cellSafe
 by_cases h:r = 2 ∧ c = 1
 ·obtain ⟨rfl,rfl⟩:=h
  rw [ex_hi.eq,ex_lo.eq];decide
 ·have:outS exS.secret r c = false:=by
   obtain ⟨h1,h2⟩:=ex_pair hr hc
   rcases h1 with rfl|rfl|rfl <;> rcases h2 with rfl|rfl|rfl <;> first|decide|(exact absurd ⟨rfl,rfl⟩ h)
  rw [this];rfl
theorem ex_key : ∀ k,k < 512 → (coversS exS (mkS exS k) && !loneS exS (mkS exS k)) = true → cmpM false exS exM (mkS exS k) < 0 ∨ mkS exS k = exM:=by decide +kernel
theorem ex_mk : mkS exS 216 = exM:=by decide
theorem ex_best : bestO false exS = some exM:=by
 obtain ⟨N,hN⟩:∃ N,2 ^ (exS.C * exS.R) = N:=⟨_,rfl⟩
 have hN5:N = 512:=by rw [← hN];decide
 have h:=bst_inv false exS N
 have hg:goodS exS (mkS exS 216) = true:=by unfold goodS;rw [ex_mk,ex_safe];decide
 have e:bestO false exS = bstS false exS N:=by unfold bestO;rw [hN]
 rw [e]
 cases hb:bstS false exS N with
 | none=>rw [hb] at h;have:=h 216 (by omega);rw [hg] at this;cases this
 | some b =>
  rw [hb] at h
  obtain ⟨h1,⟨k,hk,rfl⟩,h3⟩:=h
  have h4:=h3 216 (by omega) hg
  rw [ex_mk] at h4
  have h5:(coversS exS (mkS exS k) && !loneS exS (mkS exS k)) = true:=by unfold goodS at h1;simp only [Bool.and_eq_true] at h1 ⊢;exact h1.1
  rcases ex_key k (by omega) h5 with h6|h6
  ·exact (h4 h6).elim
  ·rw [h6]
end Go.Proofs.Ytlffjnmbpoemnaa

namespace Go.Proofs.Ytlffjnmbpoemnaa
open Go.RowKit

theorem same_step {a b:List Int} {i:Nat} (hl:a.length = b.length) (hi:i < a.length) (h:a.take i = b.take i) (e:a.getD i 0 = b.getD i 0):a.take (i + 1) = b.take (i + 1):=by
 have hb:i < b.length:=by omega
 rw [List.take_add_one,List.take_add_one,h]
 simp only [List.getD,List.getElem?_eq_getElem hi,List.getElem?_eq_getElem hb,Option.getD_some] at e
 rw [List.getElem?_eq_getElem hi,List.getElem?_eq_getElem hb,e]
theorem Ln.lits {σ:Nat → Nat → Prop} {Bp:Nat → Prop} {H:List AB} {c:Nat → Nat → AV} {n:Nat} {l:List Int} (hn:n = l.length) (h:∀ k,k < n → c k 0 = AI (l.getD k 0)):Ln σ Bp H (.sl false true n 1 c) (aInts false true l):=by
 subst hn
 exact Ln.sl _ _ _ _ _ _ _ (fun h=>h) fun k hk o ho=>by
  obtain rfl:o = 0:=by omega
  exact (h k hk).symm
theorem k3 {p:Nat → Prop} (h0:p 0) (h1:p 1) (h2:p 2):∀ k,k < 3 → p k:=below3 h0 h1 h2
set_option maxHeartbeats 8000000
set_option maxRecDepth 100000
theorem sameInts_ok (z e z2 e2:Bool) (a b:List Int) (h1:a.length ≤ 1000000):ACall Try.prog 18 [aInts z e a,aInts z2 e2 b] [] (fun r h=>r = .bool (decide (a = b)) ∧ h = []):=by
 (refine fcall_of mixed Try.func18 rfl (by decide) (hs:={}) ?k (ac:=?ac) ?c (rs:=?rs) ?r ?l ?H;(case k=>kernel_rfl);(case c=>(conv=>(lhs;cbv)));(case r=>(conv=>(lhs;cbv)));(case l=>exact Nat.le_of_ble_eq_true rfl))
 (repeat' ((try conv=>whnf);first|(with_reducible first|refine wT ?_|refine wF ?_|(refine wI (fun hq=>?_) (fun hq=>?_) <;> try simp only [zA,zE,zD,zJ,zB,zI,wK,wL] at hq)|refine wA ?_|refine wB ?_|refine wC ?_|refine wD ?_|refine wE ?_)|((with_reducible refine wN ?_ ?_);focus exact needA)|(with_reducible refine wG ?_)|(with_reducible refine wP ?_)))
 all_goals (try conv=>whnf)
 ·(refine ⟨⟨_,[],[],Cut.nil _,Ln.sameB _ rfl,?_,rfl⟩⟩)
  rw [decide_eq_false fun h=>hq (by rw [h])]
 ·have hl:a.length = b.length:=by omega
  refine FLoop.of (ACalls.mono _) (X:=Nat) (fun i=>[(0,aInts z e a),(1,aInts z2 e2 b),(5,AI i)]) (fun _=>[]) (fun i=>i ≤ a.length ∧ a.take i = b.take i) (fun i=>a.length - i) 0 ⟨⟨by omega,rfl⟩,[],Cut.A,allA⟩ ?_
  rintro i ⟨hi,hL⟩
  by_cases hlt:i < a.length
  ·(repeat' ((try conv=>whnf);first|(with_reducible first|refine wT ?_|refine wF ?_|(refine wI (fun hq=>?_) (fun hq=>?_) <;> try simp only [zA,zE,zD,zJ,zB,zI,wK,wL] at hq)|refine wA ?_|refine wB ?_|refine wC ?_|refine wD ?_|refine wE ?_)|((with_reducible refine wN ?_ ?_);focus exact needA)|(with_reducible refine wG ?_)|(with_reducible refine wP ?_)))
   all_goals (try conv=>whnf)
   ·(refine ⟨⟨_,[],[],Cut.nil _,Ln.sameB _ rfl,?_,rfl⟩⟩)
    rw [decide_eq_false fun h=>hq (by rw [h])]
   ·(exact ⟨⟨(i + 1),⟨by omega,same_step hl hlt hL hq⟩,by show _ < _;omega,[],Cut.A,allA⟩⟩)
  ·(repeat' ((try conv=>whnf);first|(with_reducible first|refine wT ?_|refine wF ?_|(refine wI (fun hq=>?_) (fun hq=>?_) <;> try simp only [zA,zE,zD,zJ,zB,zI,wK,wL] at hq)|refine wA ?_|refine wB ?_|refine wC ?_|refine wD ?_|refine wE ?_)|((with_reducible refine wN ?_ ?_);focus exact needA)|(with_reducible refine wG ?_)|(with_reducible refine wP ?_)))
   all_goals (try conv=>whnf)
   (refine ⟨⟨_,[],[],Cut.nil _,Ln.sameB _ rfl,?_,rfl⟩⟩)
   rw [List.take_of_length_le (by omega),List.take_of_length_le (by omega)] at hL
   rw [decide_eq_true hL]
def exF : ShF:=⟨false,true,fun _=>false,fun _=>true,false,true⟩
theorem example_ok : ACall Try.prog 43 [] [] (fun r h'=>r = aSh exF exS ∧ h' = []):=by
 (refine fcall_of mixed Try.func43 rfl (by decide) (hs:={}) ?k (ac:=?ac) ?c (rs:=?rs) ?r ?l ?H;(case k=>kernel_rfl);(case c=>(conv=>(lhs;cbv)));(case r=>(conv=>(lhs;cbv)));(case l=>exact Nat.le_of_ble_eq_true rfl))
 (repeat' ((try conv=>whnf);first|(with_reducible first|refine wT ?_|refine wF ?_|(refine wI (fun hq=>?_) (fun hq=>?_) <;> try simp only [zA,zE,zD,zJ,zB,zI,wK,wL] at hq)|refine wA ?_|refine wB ?_|refine wC ?_|refine wD ?_|refine wE ?_)|((with_reducible refine wN ?_ ?_);focus exact needA)|(with_reducible refine wG ?_)|(with_reducible refine wP ?_)))
 all_goals (try conv=>whnf)
 have lit:∀ (c:Nat → Nat → AV) (l:List Int),l.length = 3 → (∀ k,k < 3 → c k 0 = AI (l.getD k 0)) → LeV (.sl false true 3 1 c) (aInts false true l):=fun c l hl h=>by
  show LeV _ (.sl false true l.length 1 _)
  rw [hl]
  exact LeV.sl (fun h=>h) fun k hk o ho=>by obtain rfl:o = 0:=(by omega);exact LeV.of (h k hk).symm
 refine ⟨⟨aSh exF exS,[],[],Cut.nil _,Ln.aggN ⟨⟨⟨True.intro,Ln.le _ _ True.intro (LeV.sl (fun h=>h) ?am)⟩,Ln.sl _ _ _ _ _ _ _ (fun h=>h) ?sec⟩,Ln.A⟩,rfl,rfl⟩⟩
 case am =>
  exact below3 (fun o ho=>by obtain rfl:o = 0:=(by omega);exact lit _ [20,50,10] rfl (k3 rfl rfl rfl)) (fun o ho=>by obtain rfl:o = 0:=(by omega);exact lit _ [8,19,22] rfl (k3 rfl rfl rfl)) (fun o ho=>by obtain rfl:o = 0:=(by omega);exact lit _ [17,32,12] rfl (k3 rfl rfl rfl))
 case sec=>exact below3 (fun o ho=>by obtain rfl:o = 0:=(by omega);rfl) (fun o ho=>by obtain rfl:o = 0:=(by omega);rfl) (fun o ho=>by obtain rfl:o = 0:=(by omega);rfl)
theorem ex_near : Near exS:=⟨by decide,by decide,fun r=>by
 show ((exS.amounts).getD r []).length ≤ 20
 rcases r with _|_|_|r <;> simp [exS]⟩
theorem ex_leastC : ACall Try.prog 16 [aSh exF exS] [] (fun r h=>r = .tup 2 (ofL [aInts false false exM,AI 0]) ∧ h = []):=by
 have:=least_ok exF exS ex_near (fun _=>by decide)
 unfold bestV at this
 rw [exS_ok,ex_best] at this
 exact this
theorem ex_rangeC : ACall Try.prog 20 [aSh exF exS,aInts false true exM,AI 2,AI 1] [] (fun r h=>r = .tup 2 (ofL [spanA 24 49,AI 0]) ∧ h = []):=by
 have:=pRange_ok exF exS ex_near (fun _=>by decide) false true exM (by decide) 2 1
 unfold rangeV at this
 rw [show checkP exS exM 2 1 = 0 from by decide,if_pos rfl,show loV exS exM (2:Int).toNat (1:Int).toNat = 24 from ex_lo.eq,show hiV exS exM (2:Int).toNat (1:Int).toNat = 49 from ex_hi.eq] at this
 exact this
theorem ex_same : ACall Try.prog 18 [aInts false false exM,aInts false true exM] [] (fun r h=>r = .bool true ∧ h = []):=sameInts_ok false false false true exM exM (by decide)
theorem works_ok : ACall Try.prog 14 [] [] (fun r h'=>r = .bool true ∧ h' = []):=by
 (refine fcall_of mixed Try.func14 rfl (by decide) (hs:={}) ?k (ac:=?ac) ?c (rs:=?rs) ?r ?l ?H;(case k=>kernel_rfl);(case c=>(conv=>(lhs;cbv)));(case r=>(conv=>(lhs;cbv)));(case l=>exact Nat.le_of_ble_eq_true rfl))
 (repeat' ((try conv=>whnf);first|(with_reducible first|refine wT ?_|refine wF ?_|(refine wI (fun hq=>?_) (fun hq=>?_) <;> try simp only [zA,zE,zD,zJ,zB,zI,wK,wL] at hq)|refine wA ?_|refine wB ?_|refine wC ?_|refine wD ?_|refine wE ?_)|((with_reducible refine wN ?_ ?_);focus exact needA)|(with_reducible refine wG ?_)|(refine FCall.pure example_ok True.intro rfl ?_)|(refine FCall.pure (ex_leastC) ⟨Ln.sameB _ rfl,True.intro⟩ rfl ?_)|(refine FCall.pure ex_rangeC ⟨Ln.sameB _ rfl,Ln.lits rfl (k3 rfl rfl rfl),Ln.A,Ln.A,True.intro⟩ rfl ?_)|(refine FCall.pure ex_same ⟨Ln.sameB _ rfl,Ln.lits rfl (k3 rfl rfl rfl),True.intro⟩ rfl ?_)|(with_reducible refine And.intro rfl ?_)|(with_reducible refine wP ?_)))
 all_goals (try conv=>whnf)
 all_goals (refine ⟨⟨_,[],[],Cut.nil _,Ln.sameB _ rfl,?_,rfl⟩⟩)
 all_goals rfl
/-- Larger than the statements look at. -/
def bigS (s:Sheet):Bool:=decide (20 < s.R) || decide (20 < s.secret.length) || (List.range s.R).any fun r=>decide (20 < (s.amounts.getD r []).length)
def rowBig (s:Sheet) (r:Nat):Bool:=(List.range s.C).any fun c=>decide (30 < s.A r c)
def farS (s:Sheet):Bool:=bigS s || (s.ok && ((List.range s.R).any (rowBig s) || decide (3 < s.R) || decide (3 < s.C)))
theorem far_near {s:Sheet} (h:bigS s = false):Near s:=by
 unfold bigS at h
 simp only [Bool.or_eq_false_iff,decide_eq_false_iff_not,List.any_eq_false,List.mem_range,decide_eq_true_eq] at h
 refine ⟨by omega,by omega,fun r=>?_⟩
 by_cases hr:r < s.R
 ·have:=h.2 r hr;omega
 ·rw [show s.amounts.getD r [] = [] from by simp [List.getD,List.getElem?_eq_none (show s.amounts.length ≤ r from by have:s.R = s.amounts.length:=rfl;omega)]];simp
theorem far_d {s:Sheet} (h:farS s = false):Near s ∧ (s.ok = true → s.R ≤ 3 ∧ s.C ≤ 3):=by
 unfold farS at h
 rw [Bool.or_eq_false_iff] at h
 refine ⟨far_near h.1,fun hk=>?_⟩
 have h2:=h.2
 rw [hk] at h2
 simp only [Bool.true_and,Bool.or_eq_false_iff,decide_eq_false_iff_not] at h2
 omega
theorem far_ok (f:ShF) (s:Sheet):ACall Try.prog 21 [aSh f s] [] (fun r h=>r = .bool (farS s) ∧ h = []):=by
 have hR:s.R = s.amounts.length:=rfl
 have hC2:(s.amounts.getD (Int.toNat 0) []).length = s.C:=rfl
 (refine fcall_of mixed Try.func21 rfl (by decide) (hs:={}) ?k (ac:=?ac) ?c (rs:=?rs) ?r ?l ?H;(case k=>kernel_rfl);(case c=>(conv=>(lhs;cbv)));(case r=>(conv=>(lhs;cbv)));(case l=>exact Nat.le_of_ble_eq_true rfl))
 by_cases h20:s.amounts.length ≤ 20 ∧ s.secret.length ≤ 20
 ·(repeat' ((try conv=>whnf);first|(with_reducible first|refine wT ?_|refine wF ?_|(refine wI (fun hq=>?_) (fun hq=>?_) <;> try simp only [zA,zE,zD,zJ,zB,zI,wK,wL] at hq)|refine wA ?_|refine wB ?_|refine wC ?_|refine wD ?_|refine wE ?_)|((with_reducible refine wN ?_ ?_);focus exact needA)|(with_reducible refine wG ?_)|(with_reducible refine wP ?_)))
  all_goals (try conv=>whnf)
  refine FLoop.of (ACalls.mono _) (X:=Nat) (fun r=>[(1,.ptr 0 0),(3,AI r)]) (fun r=>[.box 3 (cSh f s)]) (fun r=>r ≤ s.R ∧ ∀ k,k < r → (s.amounts.getD k []).length ≤ 20) (fun r=>s.R - r) 0 ⟨⟨Nat.zero_le _,fun k hk=>absurd hk (Nat.not_lt_zero k)⟩,[0],Cut.A,allA⟩ ?_
  rintro r ⟨hr,hup⟩
  by_cases hlt:r < s.R
  ·by_cases hl:(s.amounts.getD r []).length ≤ 20
   ·(repeat' ((try conv=>whnf);first|(with_reducible first|refine wT ?_|refine wF ?_|(refine wI (fun hq=>?_) (fun hq=>?_) <;> try simp only [zA,zE,zD,zJ,zB,zI,wK,wL] at hq)|refine wA ?_|refine wB ?_|refine wC ?_|refine wD ?_|refine wE ?_)|((with_reducible refine wN ?_ ?_);focus exact needA)|(with_reducible refine wG ?_)|(with_reducible refine wP ?_)))
    all_goals (try conv=>whnf)
    exact ⟨⟨r + 1,⟨hlt,below_step hup hl⟩,by show s.R - (r + 1) < s.R - r;omega,[0],Cut.A,allA⟩⟩
   ·rw [show farS s = true from by unfold farS bigS;rw [any_yes (p:=fun r=>decide (20 < (s.amounts.getD r []).length)) hlt (decide_eq_true (by omega))];simp]
    (repeat' ((try conv=>whnf);first|(with_reducible first|refine wT ?_|refine wF ?_|(refine wI (fun hq=>?_) (fun hq=>?_) <;> try simp only [zA,zE,zD,zJ,zB,zI,wK,wL] at hq)|refine wA ?_|refine wB ?_|refine wC ?_|refine wD ?_|refine wE ?_)|((with_reducible refine wN ?_ ?_);focus exact needA)|(with_reducible refine wG ?_)|(with_reducible refine wP ?_)))
    all_goals (try conv=>whnf)
    all_goals ((refine ⟨⟨_,[],[],Cut.nil _,Ln.sameB _ rfl,?_,rfl⟩⟩);rfl)
  ·have hb:bigS s = false:=by
    unfold bigS
    rw [decide_eq_false (show ¬ 20 < s.R by omega),decide_eq_false (show ¬ 20 < s.secret.length by omega),any_no fun i hi=>decide_eq_false (by have:=hup i (by omega);omega)];rfl
   have hn:=far_near hb
   have cK:=refCheck_ok f s hn
   have hf:farS s = (s.ok && ((List.range s.R).any (rowBig s) || decide (3 < s.R) || decide (3 < s.C))):=by unfold farS;rw [hb,Bool.false_or]
   rw [hf]
   cases hk:s.ok
   ·rw [check_80 hk] at cK
    (repeat' ((try conv=>whnf);first|(with_reducible first|refine wT ?_|refine wF ?_|(refine wI (fun hq=>?_) (fun hq=>?_) <;> try simp only [zA,zE,zD,zJ,zB,zI,wK,wL] at hq)|refine wA ?_|refine wB ?_|refine wC ?_|refine wD ?_|refine wE ?_)|((with_reducible refine wN ?_ ?_);focus exact needA)|(with_reducible refine wG ?_)|(refine FCall.pure (cK) ⟨Ln.sameB _ rfl,True.intro⟩ rfl ?_)|(with_reducible refine wP ?_)))
    all_goals (try conv=>whnf)
    all_goals ((refine ⟨⟨_,[],[],Cut.nil _,Ln.sameB _ rfl,?_,rfl⟩⟩);rfl)
   ·rw [check_ok' hk] at cK
    have hs:=sheet_d hk
    have c4:=hs.c4
    have cC:=columns_ok f s (by have:=hs.r1;omega)
    rw [Bool.true_and]
    (repeat' ((try conv=>whnf);first|(with_reducible first|refine wT ?_|refine wF ?_|(refine wI (fun hq=>?_) (fun hq=>?_) <;> try simp only [zA,zE,zD,zJ,zB,zI,wK,wL] at hq)|refine wA ?_|refine wB ?_|refine wC ?_|refine wD ?_|refine wE ?_)|((with_reducible refine wN ?_ ?_);focus exact needA)|(with_reducible refine wG ?_)|(refine FCall.pure (cK) ⟨Ln.sameB _ rfl,True.intro⟩ rfl ?_)|(with_reducible refine wP ?_)))
    all_goals (try conv=>whnf)
    clear hup
    refine FLoop.of (ACalls.mono _) (X:=Nat) (fun r=>[(1,.ptr 0 0),(4,AI r)]) (fun r=>[.box 3 (cSh f s)]) (fun r=>r ≤ s.R ∧ ∀ k,k < r → rowBig s k = false) (fun r=>s.R - r) 0 ⟨⟨Nat.zero_le _,fun k hk=>absurd hk (Nat.not_lt_zero k)⟩,[0],Cut.A,allA⟩ ?_
    rintro r ⟨hr,hup⟩
    by_cases hlt:r < s.R
    ·have hrow:=hs.row r hlt
     (repeat' ((try conv=>whnf);first|(with_reducible first|refine wT ?_|refine wF ?_|(refine wI (fun hq=>?_) (fun hq=>?_) <;> try simp only [zA,zE,zD,zJ,zB,zI,wK,wL] at hq)|refine wA ?_|refine wB ?_|refine wC ?_|refine wD ?_|refine wE ?_)|((with_reducible refine wN ?_ ?_);focus exact needA)|(with_reducible refine wG ?_)|(with_reducible refine wP ?_)))
     all_goals (try conv=>whnf)
     refine FLoop.of (ACalls.mono _) (X:=Nat) (fun c=>[(1,.ptr 0 0),(4,AI r),(5,AI c)]) (fun c=>[.box 3 (cSh f s)]) (fun c=>c ≤ s.C ∧ ∀ k,k < c → decide (30 < s.A r k) = false) (fun c=>s.C - c) 0 ⟨⟨Nat.zero_le _,fun k hk=>absurd hk (Nat.not_lt_zero k)⟩,[0],Cut.A,allA⟩ ?_
     rintro c ⟨hc,hupc⟩
     by_cases hltc:c < s.C
     ·have hA:s.A r c = (s.amounts.getD r []).getD c 0:=rfl
      by_cases h30:30 < (s.amounts.getD r []).getD c 0
      ·rw [any_yes hlt (show rowBig s r = true from any_yes (p:=fun c=>decide (30 < s.A r c)) hltc (decide_eq_true h30)),Bool.true_or,Bool.true_or]
       (repeat' ((try conv=>whnf);first|(with_reducible first|refine wT ?_|refine wF ?_|(refine wI (fun hq=>?_) (fun hq=>?_) <;> try simp only [zA,zE,zD,zJ,zB,zI,wK,wL] at hq)|refine wA ?_|refine wB ?_|refine wC ?_|refine wD ?_|refine wE ?_)|((with_reducible refine wN ?_ ?_);focus exact needA)|(with_reducible refine wG ?_)|(with_reducible refine wP ?_)))
       all_goals (try conv=>whnf)
       all_goals ((refine ⟨⟨_,[],[],Cut.nil _,Ln.sameB _ rfl,?_,rfl⟩⟩);rfl)
      ·(repeat' ((try conv=>whnf);first|(with_reducible first|refine wT ?_|refine wF ?_|(refine wI (fun hq=>?_) (fun hq=>?_) <;> try simp only [zA,zE,zD,zJ,zB,zI,wK,wL] at hq)|refine wA ?_|refine wB ?_|refine wC ?_|refine wD ?_|refine wE ?_)|((with_reducible refine wN ?_ ?_);focus exact needA)|(with_reducible refine wG ?_)|(with_reducible refine wP ?_)))
       all_goals (try conv=>whnf)
       exact ⟨⟨c + 1,⟨hltc,below_step hupc (decide_eq_false h30)⟩,by show s.C - (c + 1) < s.C - c;omega,[0],Cut.A,allA⟩⟩
     ·have hcE:s.C = c:=by omega
      (repeat' ((try conv=>whnf);first|(with_reducible first|refine wT ?_|refine wF ?_|(refine wI (fun hq=>?_) (fun hq=>?_) <;> try simp only [zA,zE,zD,zJ,zB,zI,wK,wL] at hq)|refine wA ?_|refine wB ?_|refine wC ?_|refine wD ?_|refine wE ?_)|((with_reducible refine wN ?_ ?_);focus exact needA)|(with_reducible refine wG ?_)|(with_reducible refine wP ?_)))
      all_goals (try conv=>whnf)
      exact ⟨⟨r + 1,⟨hlt,below_step hup (by unfold rowBig;rw [hcE];exact any_no hupc)⟩,by show s.R - (r + 1) < s.R - r;omega,[0],Cut.A,allA⟩⟩
    ·rw [any_no (n:=s.R) fun i hi=>hup i (by omega),Bool.false_or]
     by_cases h3:3 < s.R
     ·rw [decide_eq_true h3,Bool.true_or]
      (repeat' ((try conv=>whnf);first|(with_reducible first|refine wT ?_|refine wF ?_|(refine wI (fun hq=>?_) (fun hq=>?_) <;> try simp only [zA,zE,zD,zJ,zB,zI,wK,wL] at hq)|refine wA ?_|refine wB ?_|refine wC ?_|refine wD ?_|refine wE ?_)|((with_reducible refine wN ?_ ?_);focus exact needA)|(with_reducible refine wG ?_)|(with_reducible refine wP ?_)))
      all_goals (try conv=>whnf)
      all_goals ((refine ⟨⟨_,[],[],Cut.nil _,Ln.sameB _ rfl,?_,rfl⟩⟩);rfl)
     ·rw [decide_eq_false h3,Bool.false_or]
      (repeat' ((try conv=>whnf);first|(with_reducible first|refine wT ?_|refine wF ?_|(refine wI (fun hq=>?_) (fun hq=>?_) <;> try simp only [zA,zE,zD,zJ,zB,zI,wK,wL] at hq)|refine wA ?_|refine wB ?_|refine wC ?_|refine wD ?_|refine wE ?_)|((with_reducible refine wN ?_ ?_);focus exact needA)|(with_reducible refine wG ?_)|(refine FCall.pure (cC) ⟨Ln.sameB _ rfl,True.intro⟩ rfl ?_)|(with_reducible refine wP ?_)))
      all_goals (try conv=>whnf)
      all_goals ((refine ⟨⟨_,[],[],Cut.nil _,Ln.sameB _ rfl,?_,rfl⟩⟩);exact bool_eq (decide_eq_decide.2 (by omega)))
 ·rw [show farS s = true from by unfold farS bigS;rcases (show 20 < s.R ∨ 20 < s.secret.length by omega) with h|h <;> rw [decide_eq_true h] <;> simp]
  by_cases h:s.amounts.length ≤ 20
  ·(repeat' ((try conv=>whnf);first|(with_reducible first|refine wT ?_|refine wF ?_|(refine wI (fun hq=>?_) (fun hq=>?_) <;> try simp only [zA,zE,zD,zJ,zB,zI,wK,wL] at hq)|refine wA ?_|refine wB ?_|refine wC ?_|refine wD ?_|refine wE ?_)|((with_reducible refine wN ?_ ?_);focus exact needA)|(with_reducible refine wG ?_)|(with_reducible refine wP ?_)))
   all_goals (try conv=>whnf)
   all_goals ((refine ⟨⟨_,[],[],Cut.nil _,Ln.sameB _ rfl,?_,rfl⟩⟩);rfl)
  ·(repeat' ((try conv=>whnf);first|(with_reducible first|refine wT ?_|refine wF ?_|(refine wI (fun hq=>?_) (fun hq=>?_) <;> try simp only [zA,zE,zD,zJ,zB,zI,wK,wL] at hq)|refine wA ?_|refine wB ?_|refine wC ?_|refine wD ?_|refine wE ?_)|((with_reducible refine wN ?_ ?_);focus exact needA)|(with_reducible refine wG ?_)|(with_reducible refine wP ?_)))
   all_goals (try conv=>whnf)
   all_goals ((refine ⟨⟨_,[],[],Cut.nil _,Ln.sameB _ rfl,?_,rfl⟩⟩);rfl)
def validS (s:Sheet) (m:List Int):Bool:=!farS s && decide (m.length ≤ 20) && decide (checkM s m = 0)
theorem valid_ok (f:ShF) (s:Sheet) (z e:Bool) (m:List Int):ACall Try.prog 12 [aSh f s,aInts z e m] [] (fun r h=>r = .bool (validS s m) ∧ h = []):=by
 have cF:=far_ok f s
 (refine fcall_of mixed Try.func12 rfl (by decide) (hs:={}) ?k (ac:=?ac) ?c (rs:=?rs) ?r ?l ?H;(case k=>kernel_rfl);(case c=>(conv=>(lhs;cbv)));(case r=>(conv=>(lhs;cbv)));(case l=>exact Nat.le_of_ble_eq_true rfl))
 unfold validS
 cases hf:farS s
 ·rw [hf] at cF
  by_cases hl:m.length ≤ 20
  ·have cM:=refCheckM_ok f s (far_d hf).1 z e m (by omega)
   rw [decide_eq_true hl]
   by_cases h0:checkM s m = 0
   ·(repeat' ((try conv=>whnf);first|(with_reducible first|refine wT ?_|refine wF ?_|(refine wI (fun hq=>?_) (fun hq=>?_) <;> try simp only [zA,zE,zD,zJ,zB,zI,wK,wL] at hq)|refine wA ?_|refine wB ?_|refine wC ?_|refine wD ?_|refine wE ?_)|((with_reducible refine wN ?_ ?_);focus exact needA)|(with_reducible refine wG ?_)|(refine FCall.pure (cF) ⟨Ln.sameB _ rfl,True.intro⟩ rfl ?_)|(refine FCall.pure (cM) ⟨Ln.sameB _ rfl,Ln.sameB _ rfl,True.intro⟩ rfl ?_)|(with_reducible refine wP ?_)))
    all_goals (try conv=>whnf)
    all_goals ((refine ⟨⟨_,[],[],Cut.nil _,Ln.sameB _ rfl,?_,rfl⟩⟩);rfl)
   ·(repeat' ((try conv=>whnf);first|(with_reducible first|refine wT ?_|refine wF ?_|(refine wI (fun hq=>?_) (fun hq=>?_) <;> try simp only [zA,zE,zD,zJ,zB,zI,wK,wL] at hq)|refine wA ?_|refine wB ?_|refine wC ?_|refine wD ?_|refine wE ?_)|((with_reducible refine wN ?_ ?_);focus exact needA)|(with_reducible refine wG ?_)|(refine FCall.pure (cF) ⟨Ln.sameB _ rfl,True.intro⟩ rfl ?_)|(refine FCall.pure (cM) ⟨Ln.sameB _ rfl,Ln.sameB _ rfl,True.intro⟩ rfl ?_)|(with_reducible refine wP ?_)))
    all_goals (try conv=>whnf)
    all_goals ((refine ⟨⟨_,[],[],Cut.nil _,Ln.sameB _ rfl,?_,rfl⟩⟩);rfl)
  ·rw [decide_eq_false hl]
   (repeat' ((try conv=>whnf);first|(with_reducible first|refine wT ?_|refine wF ?_|(refine wI (fun hq=>?_) (fun hq=>?_) <;> try simp only [zA,zE,zD,zJ,zB,zI,wK,wL] at hq)|refine wA ?_|refine wB ?_|refine wC ?_|refine wD ?_|refine wE ?_)|((with_reducible refine wN ?_ ?_);focus exact needA)|(with_reducible refine wG ?_)|(refine FCall.pure (cF) ⟨Ln.sameB _ rfl,True.intro⟩ rfl ?_)|(with_reducible refine wP ?_)))
   all_goals (try conv=>whnf)
   all_goals ((refine ⟨⟨_,[],[],Cut.nil _,Ln.sameB _ rfl,?_,rfl⟩⟩);rfl)
 ·rw [hf] at cF
  (repeat' ((try conv=>whnf);first|(with_reducible first|refine wT ?_|refine wF ?_|(refine wI (fun hq=>?_) (fun hq=>?_) <;> try simp only [zA,zE,zD,zJ,zB,zI,wK,wL] at hq)|refine wA ?_|refine wB ?_|refine wC ?_|refine wD ?_|refine wE ?_)|((with_reducible refine wN ?_ ?_);focus exact needA)|(with_reducible refine wG ?_)|(refine FCall.pure (cF) ⟨Ln.sameB _ rfl,True.intro⟩ rfl ?_)|(with_reducible refine wP ?_)))
  all_goals (try conv=>whnf)
  all_goals ((refine ⟨⟨_,[],[],Cut.nil _,Ln.sameB _ rfl,?_,rfl⟩⟩);rfl)
end Go.Proofs.Ytlffjnmbpoemnaa

namespace Go.Proofs.Ytlffjnmbpoemnaa
open Go.RowKit

theorem mask_of {s:Sheet} {m:List Int} (h:MaskOk s m):maskS s m = true:=by
 unfold maskS
 simp only [Bool.and_eq_true,decide_eq_true_eq,List.all_eq_true]
 refine ⟨fun x hx=>?_,h.len⟩
 obtain ⟨k,hk,rfl⟩:=List.getElem_of_mem hx
 have:=h.bd k (by rw [← h.len];exact hk)
 simp only [List.getD,List.getElem?_eq_getElem hk,Option.getD_some] at this
 omega
theorem checkM_of {s:Sheet} {m:List Int} (hk:s.ok = true) (h:MaskOk s m):checkM s m = 0:=by
 unfold checkM;rw [hk,mask_of h];rfl
theorem checkP_of {s:Sheet} {m:List Int} {r c:Int} (hk:s.ok = true) (h:MaskOk s m) (hp:placeOk s r c = true):checkP s m r c = 0:=by
 unfold checkP;rw [if_pos (checkM_of hk h),hp];rfl
theorem placeOk_of {s:Sheet} {m:List Int} {r c:Int} (h:checkP s m r c = 0):placeOk s r c = true:=by
 have hp:=checkP_0 h
 unfold placeOk
 rw [show inB r 0 ((s.R:Int) - 1) = true from decide_eq_true (by have:=hp.r;omega),show inB c 0 ((s.C:Int) - 1) = true from decide_eq_true (by have:=hp.c;omega)];rfl
theorem valid_d {s:Sheet} {m:List Int} (h:validS s m = true):Near s ∧ s.ok = true ∧ SheetOk s ∧ MaskOk s m ∧ m.length ≤ 20 ∧ s.R ≤ 3 ∧ s.C ≤ 3:=by
 unfold validS at h
 simp only [Bool.and_eq_true,Bool.not_eq_true',decide_eq_true_eq] at h
 obtain ⟨⟨h1,h2⟩,h3⟩:=h
 obtain ⟨hk,hm⟩:=checkM_0 h3
 have hf:=far_d h1
 exact ⟨hf.1,hk,sheet_d hk,mask_d hm,h2,hf.2 hk⟩
theorem rangeV_0 {s:Sheet} {m:List Int} {r c:Nat} (h:checkP s m r c = 0):rangeV s m r c = .tup 2 (ofL [spanA (loV s m r c) (hiV s m r c),AI 0]):=by
 unfold rangeV;rw [if_pos h,h];rfl
theorem safeV_0 {s:Sheet} {m:List Int} (h:checkM s m = 0):safeV s m = .tup 2 (ofL [.bool (safeS s m),AI 0]):=by
 unfold safeV;rw [h];rfl
end Go.Proofs.Ytlffjnmbpoemnaa

namespace Go.Proofs.Ytlffjnmbpoemnaa
open Go.RowKit

/-- Amounts as rows. -/
def mkL (R C:Nat) (y:Nat → Nat → Int):List (List Int):=(List.range R).map fun r=>(List.range C).map (y r)
theorem mkL_len (R C:Nat) (y:Nat → Nat → Int):(mkL R C y).length = R:=by simp [mkL]
theorem mkL_row {R C r:Nat} (y:Nat → Nat → Int) (hr:r < R):(mkL R C y).getD r [] = (List.range C).map (y r):=by unfold mkL;simp [List.getD,hr]
theorem mkL_at {R C r c:Nat} (y:Nat → Nat → Int) (hr:r < R) (hc:c < C):at2 (mkL R C y) r c = y r c:=by
 unfold at2;rw [mkL_row y hr];simp [List.getD,hc]
theorem Ln.matL {σ:Nat → Nat → Prop} {Bp:Nat → Prop} {H:List AB} (R C:Nat) (y:Nat → Nat → Int):Ln σ Bp H (aMat R C y) (aRows false false (fun _=>false) (fun _=>false) (mkL R C y)):=by
 refine Ln.le _ _ True.intro ?_
 show LeV _ (.sl false false (mkL R C y).length 1 _)
 rw [mkL_len]
 refine LeV.sl (fun h=>h) fun k hk o ho=>?_
 show LeV (.sl false false C 1 _) (.sl false false ((mkL R C y).getD k []).length 1 _)
 have hl:((mkL R C y).getD k []).length = C:=by rw [mkL_row y hk];simp
 rw [hl]
 exact LeV.sl (fun h=>h) fun j hj o ho=>LeV.of (int_eq (mkL_at y hk hj))
theorem agree_ag {s:Sheet} {m:List Int} {l:List (List Int)} (h:agreeB s m l = true):Ag s m (at2 l) ∧ l.length = s.R ∧ ∀ r,r < s.R → (l.getD r []).length = s.C:=by
 unfold agreeB at h
 simp only [Bool.and_eq_true,decide_eq_true_eq] at h
 obtain ⟨⟨⟨h1,h2⟩,h3⟩,h4⟩:=h
 have line:∀ r,r < s.R → lineB s m l r = true:=fun r hr=>List.all_eq_true.1 h2 r (List.mem_range.2 hr)
 have cell:∀ r c,r < s.R → c < s.C → cellB s m l r c = true:=fun r c hr hc=>by
  have:=line r hr
  unfold lineB at this
  simp only [Bool.and_eq_true] at this
  exact List.all_eq_true.1 this.2 c (List.mem_range.2 hc)
 refine ⟨⟨fun r c hr hc=>?_,fun r c hr hc ho=>?_,fun r hr=>?_,fun c hc=>?_⟩,h1,fun r hr=>?_⟩
 ·have:=cell r c hr hc
  unfold cellB at this
  simp only [Bool.and_eq_true,inB,decide_eq_true_eq] at this
  exact this.1.1
 ·have:=cell r c hr hc
  unfold cellB at this
  rw [ho] at this
  simp only [Bool.and_eq_true,Bool.false_or,decide_eq_true_eq] at this
  exact this.2
 ·exact ((eqTo_iff.1 h3) r hr).symm
 ·exact ((eqTo_iff.1 h4) c hc).symm
 ·have:=line r hr
  unfold lineB at this
  simp only [Bool.and_eq_true,decide_eq_true_eq] at this
  exact this.1
theorem ag_agree {s:Sheet} (hs:SheetOk s) {m:List Int} {y:Nat → Nat → Int} (h:Ag s m y):agreeB s m (mkL s.R s.C y) = true:=by
 unfold agreeB
 rw [decide_eq_true (mkL_len s.R s.C y),rall_yes fun r hr=>?_,eqTo_yes fun r hr=>?_,eqTo_yes fun c hc=>?_]
 ·rfl
 ·show colTo s.amounts s.R c = colTo (mkL s.R s.C y) s.R c
  unfold colTo
  rw [sumTo_congr (f:=fun i=>at2 (mkL s.R s.C y) i c) (g:=fun i=>y i c) fun i hi=>mkL_at y hi hc,h.col c hc];rfl
 ·unfold rowSum
  rw [sumTo_congr (f:=at2 (mkL s.R s.C y) r) (g:=y r) fun i hi=>mkL_at y hr hi,h.row r hr];rfl
 ·unfold lineB
  rw [decide_eq_true (by rw [mkL_row y hr];simp),Bool.true_and]
  refine rall_yes fun c hc=>?_
  unfold cellB
  rw [mkL_at y hr hc]
  have a:=h.nn r c hr hc
  have b:=h.le hs hr hc
  rw [show inB (y r c) 0 40000 = true from decide_eq_true ⟨a,b⟩,Bool.true_and]
  cases ho:outS m r c
  ·rw [decide_eq_true (h.un r c hr hc ho)];rfl
  ·rfl
end Go.Proofs.Ytlffjnmbpoemnaa
