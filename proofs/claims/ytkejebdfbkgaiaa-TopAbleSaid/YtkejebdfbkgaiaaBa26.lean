/- Teams: the program's members, fee, joined. / Teams: slices.Repeat of one number. / Teams: the search by a queue finds the distances / Teams: the program's far. -/
import Derived.Test.YtkejebdfbkgaiaaBa25
import Derived.Test.YtkejebdfbkgaiaaBa17
set_option linter.unusedSimpArgs false
set_option linter.unusedVariables false
namespace Go.Proofs.Ytkejebdfbkgaiaa
open Go.RowKit

abbrev fMem (f:CFl) (c:Crew) (j:Job) (x:LawT) (s:Nat):AV:=.fn 54 2 (ofL [iTask f c j x,iTeam s])
theorem map_rng {α β:Type} (g:α → β) (l:List α) (d:α):l.map g = (List.range l.length).map fun k=>g (l.getD k d):=by
 apply List.ext_getElem
 ·simp
 ·intro i h1 h2
  have hi:i < l.length:=by simpa using h1
  simp [List.getD,List.getElem?_eq_getElem hi]
theorem mem_it (f:CFl) (c:Crew) (j:Job) (x:LawT) (s:Nat) (hl:c.people.length ≤ 8):AIter Try.prog 54 [iTask f c j x,iTeam s] ((List.range (memb c s).length).map fun k=>[AI (((memb c s).getD k 0:Nat):Int),.agg 6 (cPerson (f.pf ((memb c s).getD k 0)) (c.people.getD ((memb c s).getD k 0) ps0))]):=by
 have:=members_it f c j x s hl
 rwa [map_rng _ (memb c s) 0] at this
theorem memb_get {c:Crew} {s k:Nat} (h:k < (memb c s).length):(memb c s).getD k 0 < c.people.length ∧ s.testBit ((memb c s).getD k 0) = true:=by
 refine memb_lt ?_
 simp only [List.getD,List.getElem?_eq_getElem h,Option.getD_some]
 exact List.getElem_mem h
theorem memb_len (c:Crew) (s:Nat):(memb c s).length ≤ c.people.length:=by
 have:=List.length_filter_le (fun i=>s.testBit i) (List.range c.people.length)
 simpa [memb] using this
set_option maxHeartbeats 4000000
set_option maxRecDepth 100000
theorem mem_ok (f:CFl) (c:Crew) (j:Job) (x:LawT) (s:Nat):ACall Try.prog 38 [pTask f c j x,AU s] [] (fun r h=>r = fMem f c j x s ∧ h = []):=by
 (refine fcall_of mixed Try.func38 rfl (by decide) (hs:={}) ?k (ac:=?ac) ?c (rs:=?rs) ?r ?l ?H;(case k=>kernel_rfl);(case c=>(conv=>(lhs;cbv)));(case r=>(conv=>(lhs;cbv)));(case l=>exact Nat.le_of_ble_eq_true rfl))
 (repeat' ((try conv=>whnf);first|(with_reducible first|refine wT ?_|refine wF ?_|(refine wI (fun hq=>?_) (fun hq=>?_) <;> try simp only [zA,zE,zD,zJ,zB,zI,wK,wL] at hq)|refine wA ?_|refine wB ?_|refine wC ?_|refine wD ?_|refine wE ?_)|((with_reducible refine wN ?_ ?_);focus exact needA)|(with_reducible refine wG ?_)|(with_reducible refine wP ?_)))
 all_goals (try conv=>whnf)
 exact ⟨⟨fMem f c j x s,[],[],Cut.nil _,Ln.fnN ⟨⟨True.intro,Ln.boxP (m:=1) (goneB rfl) rfl ⟨True.intro,Ln.A⟩ rfl⟩,Ln.boxP (m:=1) (goneB rfl) rfl ⟨True.intro,Ln.A⟩ rfl⟩,rfl,rfl⟩⟩
theorem pfee_ok (f:CFl) (c:Crew) (j:Job) (x:LawT) (s:Nat) (hc:c.ok = true):ACall Try.prog 28 [pTask f c j x,AU s] [] (fun r h=>r = AI (feeT c s) ∧ h = []):=by
 obtain ⟨d1,d2,d3,d4,d5⟩:=crew_d hc
 have hml:=memb_len c s
 (refine fcall_of mixed Try.func28 rfl (by decide) (hs:={}) ?k (ac:=?ac) ?c (rs:=?rs) ?r ?l ?H;(case k=>kernel_rfl);(case c=>(conv=>(lhs;cbv)));(case r=>(conv=>(lhs;cbv)));(case l=>exact Nat.le_of_ble_eq_true rfl))
 (repeat' ((try conv=>whnf);first|(with_reducible first|refine wT ?_|refine wF ?_|(refine wI (fun hq=>?_) (fun hq=>?_) <;> try simp only [zA,zE,zD,zJ,zB,zI,wK,wL] at hq)|refine wA ?_|refine wB ?_|refine wC ?_|refine wD ?_|refine wE ?_)|((with_reducible refine wN ?_ ?_);focus exact needA)|(with_reducible refine wG ?_)|(refine FCall.pure ((mem_ok _ _ _ _ _)) ⟨Ln.sameB _ rfl,Ln.sameB _ rfl,True.intro⟩ rfl ?_)|(with_reducible refine wP ?_)))
 all_goals (try conv=>whnf)
 refine FRange.of (ACalls.mono _) (X:=Int) (memb c s).length (fun k=>[AI (((memb c s).getD k 0:Nat):Int),.agg 6 (cPerson (f.pf ((memb c s).getD k 0)) (c.people.getD ((memb c s).getD k 0) ps0))]) (fun n=>[(4,.ptr 0 0),(9,fMem f c j x s)]) (fun n=>[.box 1 (ofL [AI n])])
  (fun k n=>feeT c s = n + (((memb c s).drop k).map fun i=>(c.people.getD i ps0).fee).sum ∧ 0 ≤ n ∧ n ≤ 1000 * k) 0 ⟨⟨by simp [feeT],by omega,by omega⟩,[0],Cut.A,allA⟩ rfl rfl (mem_it f c j x s d2) (fun _ _=>rfl) ?round ?done
 case round =>
  rintro k n hk ⟨hL,h0,h1⟩
  obtain ⟨g1,g2⟩:=memb_get hk
  obtain ⟨p1,p2,p3,p4,p5,p6,p7⟩:=ps_d (d4 _ g1)
  (repeat' ((try conv=>whnf);first|(with_reducible first|refine wT ?_|refine wF ?_|(refine wI (fun hq=>?_) (fun hq=>?_) <;> try simp only [zA,zE,zD,zJ,zB,zI,wK,wL] at hq)|refine wA ?_|refine wB ?_|refine wC ?_|refine wD ?_|refine wE ?_)|((with_reducible refine wN ?_ ?_);focus exact needA)|(with_reducible refine wG ?_)|(with_reducible refine wP ?_)))
  all_goals (try conv=>whnf)
  have hn:feeT c s = (n + (c.people.getD ((memb c s).getD k 0) ps0).fee) + (((memb c s).drop (k + 1)).map fun i=>(c.people.getD i ps0).fee).sum:=by
   rw [hL,drop_eq 0 hk,List.map_cons,List.sum_cons];omega
  (refine ⟨⟨(n + (c.people.getD ((memb c s).getD k 0) ps0).fee),⟨hn,by omega,by omega⟩,[0],Cut.A,allA⟩⟩)
 case done =>
  rintro n ⟨hL,h0,h1⟩
  (repeat' ((try conv=>whnf);first|(with_reducible first|refine wT ?_|refine wF ?_|(refine wI (fun hq=>?_) (fun hq=>?_) <;> try simp only [zA,zE,zD,zJ,zB,zI,wK,wL] at hq)|refine wA ?_|refine wB ?_|refine wC ?_|refine wD ?_|refine wE ?_)|((with_reducible refine wN ?_ ?_);focus exact needA)|(with_reducible refine wG ?_)|(with_reducible refine wP ?_)))
  all_goals (try conv=>whnf)
  (refine ⟨⟨_,[],[],Cut.nil _,Ln.sameB _ rfl,?_,rfl⟩⟩)
  rw [hL,List.drop_length];exact int_eq (by simp)
theorem joined_ok (f:CFl) (c:Crew) (j:Job) (x:LawT) (s a b:Nat) (hc:c.ok = true) (ha:a < c.langs) (hb:b < c.langs):ACall Try.prog 32 [pTask f c j x,AU s,AI a,AI b] [] (fun r h=>r = .bool (relT c s x.level a b) ∧ h = []):=by
 obtain ⟨d1,d2,d3,d4,d5⟩:=crew_d hc
 have hml:=memb_len c s
 (refine fcall_of mixed Try.func32 rfl (by decide) (hs:={}) ?k (ac:=?ac) ?c (rs:=?rs) ?r ?l ?H;(case k=>kernel_rfl);(case c=>(conv=>(lhs;cbv)));(case r=>(conv=>(lhs;cbv)));(case l=>exact Nat.le_of_ble_eq_true rfl))
 (repeat' ((try conv=>whnf);first|(with_reducible first|refine wT ?_|refine wF ?_|(refine wI (fun hq=>?_) (fun hq=>?_) <;> try simp only [zA,zE,zD,zJ,zB,zI,wK,wL] at hq)|refine wA ?_|refine wB ?_|refine wC ?_|refine wD ?_|refine wE ?_)|((with_reducible refine wN ?_ ?_);focus exact needA)|(with_reducible refine wG ?_)|(refine FCall.pure ((mem_ok _ _ _ _ _)) ⟨Ln.sameB _ rfl,Ln.sameB _ rfl,True.intro⟩ rfl ?_)|(with_reducible refine wP ?_)))
 all_goals (try conv=>whnf)
 refine FRange.of (ACalls.mono _) (X:=Nat) (memb c s).length (fun k=>[AI (((memb c s).getD k 0:Nat):Int),.agg 6 (cPerson (f.pf ((memb c s).getD k 0)) (c.people.getD ((memb c s).getD k 0) ps0))]) (fun n=>[(4,.ptr 0 0),(6,.ptr 1 0),(7,.ptr 2 0),(8,.ptr 3 0),(13,fMem f c j x s)]) (fun n=>[.box 1 (ofL [pTask f c j x]),.box 1 (ofL [AI a]),.box 1 (ofL [AI b]),.box 1 (ofL [.bool false])])
  (fun k n=>n = k ∧ relT c s x.level a b = ((memb c s).drop k).any fun i=>decide (x.level ≤ (c.people.getD i ps0).levels.getD a 0) && decide (x.level ≤ (c.people.getD i ps0).levels.getD b 0)) 0 ⟨⟨rfl,rfl⟩,[0,1,2,3],Cut.A,allA⟩ rfl rfl (mem_it f c j x s d2) (fun _ _=>rfl) ?round ?done
 case round =>
  rintro k n hk ⟨rfl,hL⟩
  obtain ⟨g1,g2⟩:=memb_get hk
  obtain ⟨p1,p2,p3,p4,p5,p6,p7⟩:=ps_d (d4 _ g1)
  rw [drop_eq 0 hk,List.any_cons] at hL
  (repeat' ((try conv=>whnf);first|(with_reducible first|refine wT ?_|refine wF ?_|(refine wI (fun hq=>?_) (fun hq=>?_) <;> try simp only [zA,zE,zD,zJ,zB,zI,wK,wL] at hq)|refine wA ?_|refine wB ?_|refine wC ?_|refine wD ?_|refine wE ?_)|((with_reducible refine wN ?_ ?_);focus exact needA)|(with_reducible refine wG ?_)|(with_reducible refine wP ?_)))
  all_goals (try conv=>whnf)
  ·(refine ⟨⟨_,[],[],Cut.nil _,Ln.sameB _ rfl,?_,rfl⟩⟩)
   rw [hL,decide_eq_true (by omega),decide_eq_true (by omega)];rfl
  ·rw [show (decide (x.level ≤ (c.people.getD ((memb c s).getD n 0) ps0).levels.getD a 0) && decide (x.level ≤ (c.people.getD ((memb c s).getD n 0) ps0).levels.getD b 0)) = false from not_of (fun h=>by simp only [Bool.and_eq_true,decide_eq_true_eq] at h;omega),Bool.false_or] at hL
   (refine ⟨⟨(n + 1),⟨rfl,hL⟩,[0,1,2,3],Cut.A,allA⟩⟩)
 case done =>
  rintro n ⟨rfl,hL⟩
  rw [List.drop_length] at hL
  (repeat' ((try conv=>whnf);first|(with_reducible first|refine wT ?_|refine wF ?_|(refine wI (fun hq=>?_) (fun hq=>?_) <;> try simp only [zA,zE,zD,zJ,zB,zI,wK,wL] at hq)|refine wA ?_|refine wB ?_|refine wC ?_|refine wD ?_|refine wE ?_)|((with_reducible refine wN ?_ ?_);focus exact needA)|(with_reducible refine wG ?_)|(with_reducible refine wP ?_)))
  all_goals (try conv=>whnf)
  (refine ⟨⟨_,[],[],Cut.nil _,Ln.sameB _ rfl,?_,rfl⟩⟩)
  rw [hL];rfl
end Go.Proofs.Ytkejebdfbkgaiaa

namespace Go.Proofs.Ytkejebdfbkgaiaa
open Go.RowKit

theorem FBit.v {op:BinOp} {k:IntKind} {x y z:Int} {K:Int → Prop} (hz:rawBit op k x y = z) (h:K z):FBit op k x y K:=⟨hz ▸ h⟩
set_option maxHeartbeats 4000000
set_option maxRecDepth 100000
theorem mul64_ok (n:Int) (hn:n = 2 ∨ n = 3 ∨ n = 4 ∨ n = 5):ACall Try.prog 77 [.int .u64 1,.int .u64 n] [] (fun r h=>r = .tup 2 (ofL [.int .u64 0,.int .u64 n]) ∧ h = []):=by
 (refine fcall_of mixed Try.func77 rfl (by decide) (hs:={}) ?k (ac:=?ac) ?c (rs:=?rs) ?r ?l ?H;(case k=>kernel_rfl);(case c=>(conv=>(lhs;cbv)));(case r=>(conv=>(lhs;cbv)));(case l=>exact Nat.le_of_ble_eq_true rfl))
 rcases hn with rfl|rfl|rfl|rfl
 all_goals (repeat' ((try conv=>whnf);first|(with_reducible first|refine wT ?_|refine wF ?_|(refine wI (fun hq=>?_) (fun hq=>?_) <;> try simp only [zA,zE,zD,zJ,zB,zI,wK,wL] at hq)|refine wA ?_|refine wB ?_|refine wC ?_|refine wD ?_|refine wE ?_)|((with_reducible refine wN ?_ ?_);focus exact needA)|(with_reducible refine wG ?_)|(first|refine FBit.v (z:=0) (by decide) ?_|refine FBit.v (z:=1) (by decide) ?_|refine FBit.v (z:=2) (by decide) ?_|refine FBit.v (z:=3) (by decide) ?_|refine FBit.v (z:=4) (by decide) ?_|refine FBit.v (z:=5) (by decide) ?_)|(refine Fits.inU (by omega) ?_)|(with_reducible refine wP ?_)))
 all_goals (try conv=>whnf)
 all_goals
  (refine ⟨⟨_,[],[],Cut.nil _,Ln.sameB _ rfl,?_,rfl⟩⟩)
  rfl
theorem mul_ok (n:Int) (hn:n = 2 ∨ n = 3 ∨ n = 4 ∨ n = 5):ACall Try.prog 58 [.int .u64 1,.int .u64 n] [] (fun r h=>r = .tup 2 (ofL [.int .u64 0,.int .u64 n]) ∧ h = []):=by
 (refine fcall_of mixed Try.func58 rfl (by decide) (hs:={}) ?k (ac:=?ac) ?c (rs:=?rs) ?r ?l ?H;(case k=>kernel_rfl);(case c=>(conv=>(lhs;cbv)));(case r=>(conv=>(lhs;cbv)));(case l=>exact Nat.le_of_ble_eq_true rfl))
 (repeat' ((try conv=>whnf);first|(with_reducible first|refine wT ?_|refine wF ?_|(refine wI (fun hq=>?_) (fun hq=>?_) <;> try simp only [zA,zE,zD,zJ,zB,zI,wK,wL] at hq)|refine wA ?_|refine wB ?_|refine wC ?_|refine wD ?_|refine wE ?_)|((with_reducible refine wN ?_ ?_);focus exact needA)|(with_reducible refine wG ?_)|(refine FCall.pure ((mul64_ok n hn)) ⟨Ln.sameB _ rfl,Ln.sameB _ rfl,True.intro⟩ rfl ?_)|(with_reducible refine wP ?_)))
 all_goals (try conv=>whnf)
 all_goals
  (refine ⟨⟨_,[],[],Cut.nil _,Ln.sameB _ rfl,?_,rfl⟩⟩)
  rfl
abbrev one1 : AV:=.sl false true 1 1 (fun _ _=>AI (-1))
def halfG (m:Nat):Nat → Int:=fun k=>if k < m then -1 else 0
theorem repeat_ok (n:Nat) (hn:2 ≤ n ∧ n ≤ 5):ACall Try.prog 42 [one1,AI n] [] (fun r h=>r = .own 0 n ∧ h = [rowG n (fun _=>-1)]):=by
 have hn5:(n:Int) = 2 ∨ (n:Int) = 3 ∨ (n:Int) = 4 ∨ (n:Int) = 5:=by omega
 (refine fcall_of mixed Try.func42 rfl (by decide) (hs:={}) ?k (ac:=?ac) ?c (rs:=?rs) ?r ?l ?H;(case k=>kernel_rfl);(case c=>(conv=>(lhs;cbv)));(case r=>(conv=>(lhs;cbv)));(case l=>exact Nat.le_of_ble_eq_true rfl))
 (repeat' ((try conv=>whnf);first|(with_reducible first|refine wT ?_|refine wF ?_|(refine wI (fun hq=>?_) (fun hq=>?_) <;> try simp only [zA,zE,zD,zJ,zB,zI,wK,wL] at hq)|refine wA ?_|refine wB ?_|refine wC ?_|refine wD ?_|refine wE ?_)|((with_reducible refine wN ?_ ?_);focus exact needA)|(with_reducible refine wG ?_)|(refine FCall.pure ((mul_ok n hn5)) ⟨Ln.sameB _ rfl,Ln.sameB _ rfl,True.intro⟩ rfl ?_)|(refine Fits.inU (by omega) ?_)|(with_reducible refine wP ?_)))
 all_goals (try conv=>whnf)
 refine FLoop.of (ACalls.mono _) (X:=Nat) (fun m=>[(7,.own 0 n),(8,AI m)]) (fun m=>[rowG n (halfG m)]) (fun m=>1 ≤ m ∧ m ≤ n) (fun m=>n - m) 1 ⟨⟨by omega,by omega⟩,[0],?cut,?vals⟩ ?_
 case cut =>
  refine wO rfl rfl rfl (wV rfl (LnB.rowE (by omega) (fun k hk o ho=>?_)) wX)
  simp only [cpc,halfG]
  obtain rfl:o = 0:=by omega
  by_cases h:k < 1
  ·rw [if_pos h,if_pos (by omega)]
  ·rw [if_neg h,if_neg (by omega)];rfl
 case vals=>exact ⟨Ln.own _ _ _ rfl,Ln.int (by omega),True.intro⟩
 intro m hm
 by_cases hlt:m < n
 ·(repeat' ((try conv=>whnf);first|(with_reducible first|refine wT ?_|refine wF ?_|(refine wI (fun hq=>?_) (fun hq=>?_) <;> try simp only [zA,zE,zD,zJ,zB,zI,wK,wL] at hq)|refine wA ?_|refine wB ?_|refine wC ?_|refine wD ?_|refine wE ?_)|((with_reducible refine wN ?_ ?_);focus exact needA)|(with_reducible refine wG ?_)|(with_reducible refine wP ?_)))
  all_goals (try conv=>whnf)
  refine ⟨⟨m + min m (n - m),⟨by omega,by omega⟩,by show n - _ < n - m;omega,[0],?cut,?vals⟩⟩
  case cut =>
   refine wO rfl rfl rfl (wV rfl (LnB.rowE (Nat.le_refl _) (fun k hk o ho=>?_)) wX)
   simp only [cpc,halfG]
   by_cases h1:m ≤ k ∧ k < m + min m (n - m)
   ·rw [if_pos h1,if_pos (by omega),if_pos (by omega)]
   ·rw [if_neg h1]
    by_cases h2:k < m
    ·rw [if_pos h2,if_pos (by omega)]
    ·rw [if_neg h2,if_neg (by omega)]
  case vals=>exact ⟨Ln.own _ _ _ rfl,Ln.int (by omega),True.intro⟩
 ·obtain rfl:m = n:=by omega
  (repeat' ((try conv=>whnf);first|(with_reducible first|refine wT ?_|refine wF ?_|(refine wI (fun hq=>?_) (fun hq=>?_) <;> try simp only [zA,zE,zD,zJ,zB,zI,wK,wL] at hq)|refine wA ?_|refine wB ?_|refine wC ?_|refine wD ?_|refine wE ?_)|((with_reducible refine wN ?_ ?_);focus exact needA)|(with_reducible refine wG ?_)|(with_reducible refine wP ?_)))
  all_goals (try conv=>whnf)
  refine ⟨⟨.own 0 m,[rowG m (fun _=>-1)],[0],?_,Ln.own _ _ _ rfl,rfl,rfl⟩⟩
  refine wO rfl rfl rfl (wV rfl (LnB.rowE (Nat.le_refl _) (fun k hk o ho=>?_)) wX)
  simp only [halfG]
  rw [if_pos hk]
end Go.Proofs.Ytkejebdfbkgaiaa

namespace Go.Proofs.Ytkejebdfbkgaiaa

def cntU (g:Nat → Int):Nat → Nat
 | 0=>0
 | k + 1=>cntU g k + if g k < 0 then 1 else 0
theorem cntU_same {g:Nat → Int} {p:Nat} {v:Int}:∀ {n:Nat},n ≤ p → cntU (updI g p v) n = cntU g n
 | 0,_=>rfl
 | k + 1,h=>by
  simp only [cntU]
  rw [cntU_same (by omega),show updI g p v k = g k from if_neg (by omega)]
theorem cntU_upd {g:Nat → Int} {p:Nat} {v:Int} (hg:g p < 0) (hv:0 ≤ v):∀ {n:Nat},p < n → cntU (updI g p v) n + 1 = cntU g n
 | 0,h=>by omega
 | k + 1,h=>by
  simp only [cntU]
  by_cases e:p = k
  ·subst e
   rw [cntU_same (Nat.le_refl _),show updI g p v p = v from if_pos rfl,if_neg (by omega),if_pos hg]
  ·have:=cntU_upd hg hv (n:=k) (by omega)
   rw [show updI g p v k = g k from if_neg (by omega)]
   omega
/-- What is so while the head of the queue is served; p: how many languages were looked at. -/
structure BInv (n:Nat) (R:Nat → Nat → Bool) (t:Nat) (g:Nat → Int) (q:List Nat):Prop where
 walk:∀ x,x < n → g x = -1 ∨ ∃ k:Nat,g x = k ∧ Walk n R k t x
 start:g t = 0
 mem:∀ y ∈ q,y < n ∧ 0 ≤ g y
 done:∀ y,y < n → 0 ≤ g y → ¬ y ∈ q → ∀ x,x < n → R y x = true → 0 ≤ g x ∧ g x ≤ g y + 1
 sort:q.Pairwise (fun a b=>g a ≤ g b)
 top:∀ h l,q = h :: l → ∀ x,x < n → g x ≤ g h + 1
section
variable {n t:Nat} {R:Nat → Nat → Bool} {g:Nat → Int} {q:List Nat}
theorem BInv.begin (ht:t < n):BInv n R t (updI (fun _=>-1) t 0) [t] where
 walk x hx:=by
  by_cases e:x = t
  ·subst e;exact .inr ⟨0,if_pos rfl,rfl⟩
  ·exact .inl (if_neg e)
 start:=if_pos rfl
 mem y hy:=by rw [List.mem_singleton] at hy;subst hy;exact ⟨ht,by rw [show updI (fun _=>-1) y 0 y = 0 from if_pos rfl];omega⟩
 done y hy h hn:=by
  have e:y ≠ t:=fun e=>hn (by rw [e];simp)
  rw [show updI (fun _=>-1) t 0 y = -1 from if_neg e] at h
  omega
 sort:=List.pairwise_singleton _ _
 top h l e x hx:=by
  injection e with e1 e2
  subst e1
  rw [show updI (fun _=>-1) t 0 t = 0 from if_pos rfl]
  by_cases e:x = t
  ·rw [show updI (fun _=>-1) t 0 x = 0 from if_pos e];omega
  ·rw [show updI (fun _=>-1) t 0 x = -1 from if_neg e];omega
theorem BInv.push {h:Nat} {l:List Nat} {p:Nat} (B:BInv n R t g (h :: l)) (hp:p < n) (hg:g p < 0) (hR:R h p = true):BInv n R t (updI g p (g h + 1)) (h :: (l ++ [p])):=by
 have hh:=B.mem h (by simp)
 have same:∀ {x},0 ≤ g x → updI g p (g h + 1) x = g x:=fun {x} hx=>if_neg (fun e=>by subst e;omega)
 have atp:updI g p (g h + 1) p = g h + 1:=if_pos rfl
 have hpt:p ≠ t:=fun e=>by subst e;have:=B.start;omega
 refine ⟨fun x hx=>?_,(if_neg (fun e=>hpt e.symm)).trans B.start,fun y hy=>?_,fun y hy h0 hn x hx hyx=>?_,?_,fun h' l' e x hx=>?_⟩
 ·by_cases e:x = p
  ·subst e
   rcases B.walk h hh.1 with e|⟨k,e1,e2⟩
   ·omega
   ·exact .inr ⟨k + 1,by rw [atp,e1];rfl,⟨h,hh.1,e2,hR⟩⟩
  ·rw [show updI g p (g h + 1) x = g x from if_neg e];exact B.walk x hx
 ·rw [← List.cons_append] at hy
  rcases List.mem_append.1 hy with hy|hy
  ·have:=B.mem y hy;rw [same this.2];exact this
  ·rw [List.mem_singleton] at hy;subst hy;rw [atp];exact ⟨hp,by omega⟩
 ·have hn1:¬ y ∈ h :: l:=fun hc=>hn (by rw [← List.cons_append];exact List.mem_append.2 (.inl hc))
  have hyp:y ≠ p:=fun e=>hn (by rw [e];simp)
  rw [show updI g p (g h + 1) y = g y from if_neg hyp] at h0 ⊢
  have:=B.done y hy h0 hn1 x hx hyx
  rw [same this.1];exact this
 ·rw [← List.cons_append,List.pairwise_append]
  refine ⟨?_,List.pairwise_singleton _ _,fun a ha b hb=>?_⟩
  ·refine List.Pairwise.imp_of_mem (fun {a b} ha hb hab=>?_) B.sort
   rw [same (B.mem a ha).2,same (B.mem b hb).2];exact hab
  ·rw [List.mem_singleton] at hb;subst hb
   rw [atp,same (B.mem a ha).2];exact B.top h l rfl a (B.mem a ha).1
 ·injection e with e1 e2
  subst e1
  rw [same hh.2]
  by_cases e:x = p
  ·subst e;rw [atp];omega
  ·rw [show updI g p (g h + 1) x = g x from if_neg e];exact B.top h l rfl x hx
theorem BInv.pop {h:Nat} {l:List Nat} (B:BInv n R t g (h :: l)) (hd:∀ x,x < n → R h x = true → 0 ≤ g x):BInv n R t g l:=by
 have hs:=B.sort
 rw [List.pairwise_cons] at hs
 refine ⟨B.walk,B.start,fun y hy=>B.mem y (by simp [hy]),fun y hy h0 hn x hx hyx=>?_,hs.2,fun h' l' e x hx=>?_⟩
 ·by_cases e:y = h
  ·subst e;exact ⟨hd x hx hyx,B.top y l rfl x hx⟩
  ·exact B.done y hy h0 (fun hc=>by rcases List.mem_cons.1 hc with hc|hc;exact e hc;exact hn hc) x hx hyx
 ·have:=B.top h l rfl x hx
  have:=hs.1 h' (by rw [e];simp)
  omega
theorem BInv.fin (B:BInv n R t g []) (ht:t < n) {x:Nat} (hx:x < n):g x = dist n R t x:=by
 have key:∀ (k:Nat) (x:Nat),x < n → Walk n R k t x → 0 ≤ g x ∧ g x ≤ k:=by
  intro k
  induction k with
  | zero=>intro x hx e;have e:t = x:=e;subst e;have:=B.start;omega
  | succ k ih =>
   rintro x hx ⟨c,hc,hw,hR⟩
   have h1:=ih c hc hw
   have:=B.done c hc h1.1 (by simp) x hx hR
   omega
 symm
 refine dist_eq ?_
 rcases B.walk x hx with e|⟨k,e1,e2⟩
 ·exact .inl ⟨e,fun k hk=>by have:=key k x hx hk;omega⟩
 ·exact .inr ⟨k,e1,e2,fun m hm=>by have:=key m x hx hm;omega⟩
end
end Go.Proofs.Ytkejebdfbkgaiaa

namespace Go.Proofs.Ytkejebdfbkgaiaa
open Go.RowKit

abbrev rowN (L:List Nat):AB:=.row L.length 1 (fun k _=>AI ((L.getD k 0:Nat):Int))
abbrev one0 (t:Nat):AV:=.sl false true 1 1 (fun _ _=>AI t)
theorem drop_c {L:List Nat} {k h:Nat} {l:List Nat} (e:L.drop k = h :: l):k < L.length ∧ L.getD k 0 = h ∧ L.drop (k + 1) = l ∧ L.length = k + 1 + l.length:=by
 have hk:k < L.length:=by
  rcases Nat.lt_or_ge k L.length with h'|h'
  ·exact h'
  ·rw [List.drop_eq_nil_of_le h'] at e;cases e
 rw [drop_eq 0 hk] at e
 injection e with e1 e2
 refine ⟨hk,e1,e2,?_⟩
 have:=congrArg List.length e2
 rw [List.length_drop] at this
 omega
theorem cntU_le (g:Nat → Int):∀ n,cntU g n ≤ n
 | 0=>Nat.le_refl _
 | k + 1=>by
  have:=cntU_le g k
  simp only [cntU]
  split <;> omega
theorem bnd_0 {n t:Nat}:∀ y,y < n → updI (fun _=>-1) t 0 y + cntU (updI (fun _=>-1) t 0) n ≤ n:=fun y _=>by
 have:=cntU_le (updI (fun _=>-1) t 0) n
 by_cases e:y = t
 ·rw [show updI (fun _=>-1) t 0 y = 0 from if_pos e];omega
 ·rw [show updI (fun _=>-1) t 0 y = -1 from if_neg e];omega
theorem bnd_push {n p:Nat} {g:Nat → Int} {v:Int} (h:∀ y,y < n → g y + cntU g n ≤ n) (hp:p < n) (hg:g p < 0) (hv:0 ≤ v) (hv2:v + cntU g n ≤ n + 1):∀ y,y < n → updI g p v y + cntU (updI g p v) n ≤ n:=fun y hy=>by
 have:=cntU_upd hg hv hp
 have:=h y hy
 by_cases e:y = p
 ·rw [show updI g p v y = v from if_pos e];omega
 ·rw [show updI g p v y = g y from if_neg e];omega
theorem Ln.oslE {σ:Nat → Nat → Prop} {Bp:Nat → Prop} {H:List AB} {d sz lo n n' i:Nat} (h:σ d i) (e:n = n'):Ln σ Bp H (.osl d sz lo n) (.osl i sz lo n'):=e ▸ .osl d sz lo n i h
theorem Ln.osl0E {σ:Nat → Nat → Prop} {Bp:Nat → Prop} {H:List AB} {d sz n n' i:Nat} (h:σ d i) (e:n = n'):Ln σ Bp H (.own d n) (.osl i sz 0 n'):=e ▸ .osl0 d sz n i h
theorem no_step {R:Nat → Nat → Bool} {g:Nat → Int} {h p:Nat} (hno:∀ y,y < p → R h y = true → 0 ≤ g y) (k:R h p = false ∨ 0 ≤ g p):∀ y,y < p + 1 → R h y = true → 0 ≤ g y:=fun y hy hR=>by
 by_cases e:y = p
 ·subst e
  rcases k with k|k
  ·rw [k] at hR;cases hR
  ·exact k
 ·exact hno y (by omega) hR
theorem no_push {R:Nat → Nat → Bool} {g:Nat → Int} {h p:Nat} {v:Int} (hno:∀ y,y < p → R h y = true → 0 ≤ g y) (hv:0 ≤ v):∀ y,y < p + 1 → R h y = true → 0 ≤ updI g p v y:=fun y hy hR=>by
 by_cases e:y = p
 ·rw [show updI g p v y = v from if_pos e];exact hv
 ·rw [show updI g p v y = g y from if_neg e];exact hno y (by omega) hR
theorem len_sn {L:List Nat} {p:Nat}:(L ++ [p]).length = L.length + 1:=by simp
theorem drop_sn {L l:List Nat} {k h p:Nat} (e:L.drop k = h :: l):(L ++ [p]).drop (k + 1 - 1) = h :: (l ++ [p]):=by
 have hk:=(drop_c e).1
 show (L ++ [p]).drop k = _
 rw [List.drop_append_of_le_length (by omega),e];rfl
theorem getD_sn (L:List Nat) (p i:Nat):(L ++ [p]).getD i 0 = if i < L.length then L.getD i 0 else if i = L.length then p else 0:=by
 simp only [List.getD]
 by_cases h:i < L.length
 ·rw [if_pos h,List.getElem?_append_left h]
 ·rw [if_neg h,List.getElem?_append_right (by omega)]
  by_cases h2:i = L.length
  ·subst h2;simp
  ·rw [if_neg h2,List.getElem?_eq_none (by simp;omega)];rfl
theorem row_sn {L:List Nat} {p k i o:Nat} {z:Nat → Nat → AV} (hk:k ≤ L.length) (hi:i < L.length + 1) (ho:o < 1):AI (((L ++ [p]).getD i 0:Nat):Int) = appc (k + (L.length - k)) (fun k _=>AI ((L.getD k 0:Nat):Int)) (bslC z [(0,AI (p:Int))]) i o:=by
 rw [getD_sn]
 simp only [appc]
 by_cases h:i < L.length
 ·rw [if_pos h,if_pos (by omega)]
 ·rw [if_neg h,if_pos (by omega),if_neg (by omega),show i - (k + (L.length - k)) = 0 by omega]
  rfl
theorem row_dr {L:List Nat} {p k i o:Nat} {z:Nat → Nat → AV} (hi:i < L.length - k + 1) (ho:o < 1):AI (((L.drop k ++ [p]).getD i 0:Nat):Int) = appc (L.length - k) (fun i=>(fun k _=>AI ((L.getD k 0:Nat):Int)) (k + i)) (bslC z [(0,AI (p:Int))]) i o:=by
 rw [getD_sn,List.length_drop]
 simp only [appc]
 by_cases h:i < L.length - k
 ·rw [if_pos h,if_pos h]
  simp [List.getD]
 ·rw [if_neg h,if_pos (by omega),if_neg h,show i - (L.length - k) = 0 by omega]
  rfl
/-- What is so in the round of the head h, when p languages were looked at. -/
def FI (n:Nat) (R:Nat → Nat → Bool) (t h M0 p e:Nat) (g:Nat → Int) (L:List Nat):Prop :=
 p ≤ n ∧ (∃ l,L.drop (e - 1) = h :: l ∧ BInv n R t g (h :: l)) ∧ (∀ y,y < p → R h y = true → 0 ≤ g y) ∧ L.length + cntU g n ≤ n + 1 ∧ (e = 0 → L = [t]) ∧ cntU g n + (L.length - (e - 1)) = M0 ∧ e - 1 ≤ L.length ∧ ∀ y,y < n → g y + cntU g n ≤ n
set_option maxHeartbeats 4000000
set_option maxRecDepth 100000
theorem far_ok (f:CFl) (c:Crew) (j:Job) (x:LawT) (s n t:Nat) (hc:c.ok = true) (hn:c.langs = n) (ht:j.to = t) (htn:t < n):ACall Try.prog 31 [pTask f c j x,AU s] [] (fun r h=>r = aInts false false (distL n (relT c s x.level) t) ∧ h = []):=by
 obtain ⟨d1,d2,d3,d4,d5⟩:=crew_d hc
 have ht0:0 ≤ j.to:=by omega
 obtain rfl:t = j.to.toNat:=by omega
 clear ht
 have hrep:=repeat_ok n (by omega)
 rw [← hn] at hrep
 (refine fcall_of mixed Try.func31 rfl (by decide) (hs:={}) ?k (ac:=?ac) ?c (rs:=?rs) ?r ?l ?H;(case k=>kernel_rfl);(case c=>(conv=>(lhs;cbv)));(case r=>(conv=>(lhs;cbv)));(case l=>exact Nat.le_of_ble_eq_true rfl))
 (repeat' ((try conv=>whnf);first|(with_reducible first|refine wT ?_|refine wF ?_|(refine wI (fun hq=>?_) (fun hq=>?_) <;> try simp only [zA,zE,zD,zJ,zB,zI,wK,wL] at hq)|refine wA ?_|refine wB ?_|refine wC ?_|refine wD ?_|refine wE ?_)|((with_reducible refine wN ?_ ?_);focus exact needA)|(with_reducible refine wG ?_)|((refine FCall.give [] [] (hrep) rfl rfl True.intro ⟨(Ln.sl _ _ _ _ _ _ _ (fun _=>rfl) (fun k hk o ho=>by obtain rfl:k = 0:=(by omega);rfl)),Ln.A,True.intro⟩ ?_);rintro _ _ ⟨rfl,rfl⟩;(refine ⟨by first|exact Nat.le_of_ble_eq_true rfl|omega,.inl rfl,?_⟩))|(with_reducible refine wP ?_)))
 all_goals (try conv=>whnf)
 generalize hR:relT c s x.level = R
 refine FLoop.of3 (ACalls.mono _) (fun (e:Nat) (g:Nat → Int) (L:List Nat)=>[(0,pTask f c j x),(1,AU s),(5,.own 0 n),(6,match e,L with|0,[]=>.sl false false 0 1 (fun _ _=>.bot)|0,_ :: _=>one0 j.to.toNat|k + 1,L=>.osl 1 1 k (L.length - k))]) (fun e g L=>match e with
  | 0=>[rowG n g]
  | _ + 1=>[rowG n g,rowN L]) (fun e g L=>BInv n R j.to.toNat g (L.drop (e - 1)) ∧ L.length + cntU g n ≤ n + 1 ∧ (e = 0 → L = [] ∨ L = [j.to.toNat]) ∧ e - 1 ≤ L.length ∧ ∀ y,y < n → g y + cntU g n ≤ n) (fun e g L=>cntU g n + (L.length - (e - 1))) 0 (updI (fun _=>-1) j.to.toNat 0) [j.to.toNat] ⟨⟨BInv.begin htn,?ini,fun _=>.inr rfl,Nat.zero_le _,bnd_0⟩,[0],?cut,?vals⟩ ?_
 case ini =>
  have:=cntU_upd (g:=fun _=>-1) (p:=j.to.toNat) (v:=0) (by omega) (by omega) htn
  have h2:=cntU_le (fun _=>-1) n
  show 1 + _ ≤ _
  omega
 case cut=>exact wO rfl rfl rfl (wV rfl LnB.setG wX)
 case vals=>exact ⟨Ln.A,Ln.A,Ln.A,Ln.sl _ _ _ _ _ _ _ (fun _=>rfl) (fun k hk o ho=>by obtain rfl:k = 0:=(by omega);exact int_eq (Int.toNat_of_nonneg ht0)),True.intro⟩
 rintro e g L ⟨hB,hL,h0,hle,hbd⟩
 have hcu:=cntU_le g n
 rcases hq:L.drop (e - 1) with _|⟨h,l⟩
 ·rw [hq] at hB
  have hLe:L.length - (e - 1) = 0:=by rw [← List.length_drop,hq];rfl
  have fin:∀ (B:AB),True:=fun _=>trivial
  rcases e with _|k
  ·obtain rfl:L = []:=by rcases h0 rfl with h|h;exact h;rw [h] at hLe;cases hLe
   (repeat' ((try conv=>whnf);first|(with_reducible first|refine wT ?_|refine wF ?_|(refine wI (fun hq=>?_) (fun hq=>?_) <;> try simp only [zA,zE,zD,zJ,zB,zI,wK,wL] at hq)|refine wA ?_|refine wB ?_|refine wC ?_|refine wD ?_|refine wE ?_)|((with_reducible refine wN ?_ ?_);focus exact needA)|(with_reducible refine wG ?_)|(with_reducible refine wP ?_)))
   all_goals (try conv=>whnf)
   exact ⟨⟨aInts false false (distL n R j.to.toNat),[],[],Cut.nil _,Ln.pubE (goneB rfl) rfl (Nat.le_refl _) (by simp [distL]) (fun y hy _ _=>int_eq (by rw [distL,getD_range hy,hB.fin htn hy])),rfl,rfl⟩⟩
  ·have hk:L.length - k = 0:=hLe
   (repeat' ((try conv=>whnf);first|(with_reducible first|refine wT ?_|refine wF ?_|(refine wI (fun hq=>?_) (fun hq=>?_) <;> try simp only [zA,zE,zD,zJ,zB,zI,wK,wL] at hq)|refine wA ?_|refine wB ?_|refine wC ?_|refine wD ?_|refine wE ?_)|((with_reducible refine wN ?_ ?_);focus exact needA)|(with_reducible refine wG ?_)|(with_reducible refine wP ?_)))
   all_goals (try conv=>whnf)
   exact ⟨⟨aInts false false (distL n R j.to.toNat),[],[],Cut.nil _,Ln.pubE (goneB rfl) rfl (Nat.le_refl _) (by simp [distL]) (fun y hy _ _=>int_eq (by rw [distL,getD_range hy,hB.fin htn hy])),rfl,rfl⟩⟩
 ·rw [hq] at hB
  have hh:=hB.mem h (by simp)
  obtain ⟨q1,q2,q3,q4⟩:=drop_c hq
  obtain ⟨M0,hM0⟩:∃ M0,cntU g n + (L.length - (e - 1)) = M0:=⟨_,rfl⟩
  rcases e with _|k
  ·have hL0:L = [j.to.toNat]:=by
    rcases h0 rfl with h|h
    ·rw [h] at hq;cases hq
    ·exact h
   subst hL0
   (repeat' ((try conv=>whnf);first|(with_reducible first|refine wT ?_|refine wF ?_|(refine wI (fun hq=>?_) (fun hq=>?_) <;> try simp only [zA,zE,zD,zJ,zB,zI,wK,wL] at hq)|refine wA ?_|refine wB ?_|refine wC ?_|refine wD ?_|refine wE ?_)|((with_reducible refine wN ?_ ?_);focus exact needA)|(with_reducible refine wG ?_)|(with_reducible refine wP ?_)))
   all_goals (try conv=>whnf)
   refine FLoop.of4 (ACalls.mono _) (fun (p e:Nat) (g:Nat → Int) (L:List Nat)=>[(0,pTask f c j x),(1,AU s),(5,.own 0 n),(6,match e with|0=>one0 j.to.toNat|k + 1=>.osl 1 1 k (L.length - k)),(34,AI n),(35,AI p)]) (fun p e g L=>match e with
    | 0=>[rowG n g]
    | _ + 1=>[rowG n g,rowN L]) (fun p e g L=>FI n R j.to.toNat h M0 p e g L) (fun p e g L=>n - p) 0 0 g [j.to.toNat] ⟨⟨Nat.zero_le _,⟨l,hq,hB⟩,fun y hy=>by omega,hL,fun _=>rfl,hM0,hle,hbd⟩,[0],Cut.A,allA⟩ ?_
   rintro p e g L ⟨hp,⟨l,hq,hB⟩,hno,hL,h0,hM,hle,hbd⟩
   have hcu:=cntU_le g n
   obtain ⟨q1,q2,q3,q4⟩:=drop_c hq
   have hh:=hB.mem h (by simp)
   by_cases hlt:p < n
   ·rcases e with _|k
    ·have hL1:=h0 rfl
     subst hL1
     have hht:h = j.to.toNat:=q2.symm
     subst hht
     have hgs:=hB.start
     have hj:=joined_ok f c j x s j.to.toNat p hc (by omega) (by omega)
     rw [hR] at hj
     have hl0:l = []:=by have hq2:[j.to.toNat] = j.to.toNat :: l:=hq;injection hq2 with _ e;exact e.symm
     subst hl0
     (repeat' ((try conv=>whnf);first|(with_reducible first|refine wT ?_|refine wF ?_|(refine wI (fun hq=>?_) (fun hq=>?_) <;> try simp only [zA,zE,zD,zJ,zB,zI,wK,wL] at hq)|refine wA ?_|refine wB ?_|refine wC ?_|refine wD ?_|refine wE ?_)|((with_reducible refine wN ?_ ?_);focus exact needA)|(with_reducible refine wG ?_)|(refine FCall.pure (hj) ⟨Ln.sameB _ rfl,Ln.sameB _ rfl,Ln.sameB _ rfl,Ln.sameB _ rfl,True.intro⟩ rfl ?_)|(with_reducible refine wP ?_)))
     all_goals (try conv=>whnf)
     ·have hcn:=cntU_upd (g:=g) (p:=p) (v:=g j.to.toNat + 1) (by assumption) (by omega) hlt
      have hpush:=hB.push hlt (by assumption) hq
      have hbp:=bnd_push (v:=g j.to.toNat + 1) hbd hlt (by assumption) (by omega) (by have:=hbd _ hh.1;omega)
      refine ⟨⟨p + 1,1,updI g p (g j.to.toNat + 1),[j.to.toNat,p],⟨hlt,⟨[p],rfl,hpush⟩,no_push hno (by omega),by show 2 + _ ≤ _;have:1 + cntU g n ≤ n + 1:=hL;omega,(fun h=>by cases h),by show _ + 2 = _;have:cntU g n + 1 = M0:=hM;omega,Nat.zero_le _,hbp⟩,by show n - (p + 1) < n - p;omega,[0,1],?_,⟨Ln.A,Ln.A,Ln.A,Ln.osl0E rfl rfl,Ln.A,Ln.A,True.intro⟩⟩⟩
      exact wO rfl rfl rfl (wV rfl LnB.setG (wV rfl (LnB.app (fun k hk o ho=>by obtain rfl:k = 0:=(by omega);rfl) (fun o ho=>rfl)) wX))
     ·(exact ⟨⟨(p + 1),0,g,[j.to.toNat],⟨hlt,⟨[],rfl,hB⟩,no_step hno (.inl hq),hL,fun _=>rfl,hM,Nat.zero_le _,hbd⟩,by show n - (p + 1) < n - p;omega,[0],Cut.A,allA⟩⟩)
     ·(exact ⟨⟨(p + 1),0,g,[j.to.toNat],⟨hlt,⟨[],rfl,hB⟩,no_step hno (.inr hq),hL,fun _=>rfl,hM,Nat.zero_le _,hbd⟩,by show n - (p + 1) < n - p;omega,[0],Cut.A,allA⟩⟩)
    ·have q1:k < L.length:=q1
     have q2:L.getD k 0 = h:=q2
     have q4:L.length = k + 1 + l.length:=q4
     have hqd:L.drop k = h :: l:=hq
     subst q2
     have hj:=joined_ok f c j x s (L.getD k 0) p hc (by have:=hh.1;omega) (by omega)
     rw [hR] at hj
     have hhb:=hbd _ hh.1
     have hq5:L.length - k = l.length + 1:=by have:=q4;omega
     (repeat' ((try conv=>whnf);first|(with_reducible first|refine wT ?_|refine wF ?_|(refine wI (fun hq=>?_) (fun hq=>?_) <;> try simp only [zA,zE,zD,zJ,zB,zI,wK,wL] at hq)|refine wA ?_|refine wB ?_|refine wC ?_|refine wD ?_|refine wE ?_)|((with_reducible refine wN ?_ ?_);focus exact needA)|(refine FCall.pure (hj) ⟨Ln.sameB _ rfl,Ln.sameB _ rfl,Ln.sameB _ rfl,Ln.sameB _ rfl,True.intro⟩ rfl ?_)|(refine Fits.in64 (show -9223372036854775808 ≤ g (L.getD k 0) + 1 ∧ g (L.getD k 0) + 1 ≤ 9223372036854775807 by omega) ?_)|(refine FIdx.nat (show L.getD k 0 < n by omega) ?_)|(refine Need.mk (show L.getD k 0 < n by omega) ?_)|(refine FApp.share (Need.mk (by omega) (Need.mk ?_ ?_)))|(with_reducible refine wP ?_)))
     all_goals (try conv=>whnf)
     ·have hcn:=cntU_upd (g:=g) (p:=p) (v:=g (L.getD k 0) + 1) (by assumption) (by omega) hlt
      have hpush:=hB.push hlt (by assumption) hq
      have hbp:=bnd_push (v:=g (L.getD k 0) + 1) hbd hlt (by assumption) (by omega) (by omega)
      refine ⟨⟨p + 1,k + 1,updI g p (g (L.getD k 0) + 1),L ++ [p],⟨hlt,⟨l ++ [p],drop_sn hqd,hpush⟩,no_push hno (by omega),by rw [len_sn];omega,(fun h=>by cases h),by rw [len_sn];have hM2:cntU g n + (L.length - k) = M0:=hM;show _ + (L.length + 1 - k) = _;omega,by rw [len_sn];show k ≤ _;omega,hbp⟩,by show n - (p + 1) < n - p;omega,[0,1],?_,⟨Ln.A,Ln.A,Ln.A,Ln.oslE rfl (by rw [len_sn];omega),Ln.A,Ln.A,True.intro⟩⟩⟩
      exact wO rfl rfl rfl (wV rfl LnB.setG (wV rfl (LnB.rowE (by rw [len_sn];omega) (fun i hi o ho=>row_sn (by omega) (by rw [len_sn] at hi;omega) ho)) wX))
     ·have hcn:=cntU_upd (g:=g) (p:=p) (v:=g (L.getD k 0) + 1) (by assumption) (by omega) hlt
      have hpush:=hB.push hlt (by assumption) hq
      have hbp:=bnd_push (v:=g (L.getD k 0) + 1) hbd hlt (by assumption) (by omega) (by omega)
      have hdl:(L.drop k).length = L.length - k:=List.length_drop
      have hnl:(L.drop k ++ [p]).length - 0 = L.length - k + (0 + 1):=by rw [len_sn,hdl];omega
      refine ⟨⟨p + 1,1,updI g p (g (L.getD k 0) + 1),L.drop k ++ [p],⟨hlt,⟨l ++ [p],by show L.drop k ++ [p] = _;rw [hqd];rfl,hpush⟩,no_push hno (by omega),by rw [len_sn,hdl];omega,(fun h=>by cases h),by rw [len_sn,hdl];have hM2:cntU g n + (L.length - k) = M0:=hM;show _ + (L.length - k + 1 - 0) = _;omega,Nat.zero_le _,hbp⟩,by show n - (p + 1) < n - p;omega,[0,2],?_,⟨Ln.A,Ln.A,Ln.A,Ln.osl0E rfl hnl.symm,Ln.A,Ln.A,True.intro⟩⟩⟩
      exact wO rfl rfl rfl (wV rfl LnB.setG (wV rfl (LnB.rowE (by rw [len_sn,hdl];omega) (fun i hi o ho=>row_dr (by rw [len_sn,hdl] at hi;omega) ho)) wX))
     ·refine ⟨⟨p + 1,k + 1,g,L,⟨hlt,⟨l,hqd,hB⟩,no_step hno (.inl hq),hL,(fun h=>by cases h),hM,hle,hbd⟩,by show n - (p + 1) < n - p;omega,[0,1],Cut.A,⟨Ln.A,Ln.A,Ln.A,Ln.oslE rfl rfl,Ln.A,Ln.A,True.intro⟩⟩⟩
     ·refine ⟨⟨p + 1,k + 1,g,L,⟨hlt,⟨l,hqd,hB⟩,no_step hno (.inr hq),hL,(fun h=>by cases h),hM,hle,hbd⟩,by show n - (p + 1) < n - p;omega,[0,1],Cut.A,⟨Ln.A,Ln.A,Ln.A,Ln.oslE rfl rfl,Ln.A,Ln.A,True.intro⟩⟩⟩
   ·have hpn:p = n:=by omega
    subst hpn
    have hpop:=hB.pop (fun y hy hRy=>hno y hy hRy)
    rcases e with _|k
    ·have hL1:=h0 rfl
     subst hL1
     have hl0:l = []:=by have hq2:[j.to.toNat] = h :: l:=hq;injection hq2 with _ e;exact e.symm
     subst hl0
     (repeat' ((try conv=>whnf);first|(with_reducible first|refine wT ?_|refine wF ?_|(refine wI (fun hq=>?_) (fun hq=>?_) <;> try simp only [zA,zE,zD,zJ,zB,zI,wK,wL] at hq)|refine wA ?_|refine wB ?_|refine wC ?_|refine wD ?_|refine wE ?_)|((with_reducible refine wN ?_ ?_);focus exact needA)|(with_reducible refine wG ?_)|(with_reducible refine wP ?_)))
     all_goals (try conv=>whnf)
     (exact ⟨⟨0,g,[],⟨hpop,by show 0 + cntU g p ≤ _;omega,fun _=>.inl rfl,Nat.zero_le _,hbd⟩,by have h1:cntU g p + 1 = M0:=hM;have h2:=hM0;show cntU g p + 0 < _;omega,[0],Cut.A,allA⟩⟩)
    ·have q1:k < L.length:=q1
     have q3:L.drop (k + 1) = l:=q3
     (repeat' ((try conv=>whnf);first|(with_reducible first|refine wT ?_|refine wF ?_|(refine wI (fun hq=>?_) (fun hq=>?_) <;> try simp only [zA,zE,zD,zJ,zB,zI,wK,wL] at hq)|refine wA ?_|refine wB ?_|refine wC ?_|refine wD ?_|refine wE ?_)|((with_reducible refine wN ?_ ?_);focus exact needA)|(with_reducible refine wG ?_)|(with_reducible refine wP ?_)))
     all_goals (try conv=>whnf)
     refine ⟨⟨k + 2,g,L,⟨by show BInv _ _ _ g (L.drop (k + 1));rw [q3];exact hpop,hL,(fun h=>by cases h),by show k + 1 ≤ _;omega,hbd⟩,by have h1:cntU g p + (L.length - k) = M0:=hM;have h2:=hM0;show cntU g p + (L.length - (k + 1)) < _;omega,[0,1],Cut.A,⟨Ln.A,Ln.A,Ln.A,Ln.oslE rfl (by omega),True.intro⟩⟩⟩
  ·(repeat' ((try conv=>whnf);first|(with_reducible first|refine wT ?_|refine wF ?_|(refine wI (fun hq=>?_) (fun hq=>?_) <;> try simp only [zA,zE,zD,zJ,zB,zI,wK,wL] at hq)|refine wA ?_|refine wB ?_|refine wC ?_|refine wD ?_|refine wE ?_)|((with_reducible refine wN ?_ ?_);focus exact needA)|(with_reducible refine wG ?_)|(with_reducible refine wP ?_)))
   all_goals (try conv=>whnf)
   refine FLoop.of4 (ACalls.mono _) (fun (p e:Nat) (g:Nat → Int) (L:List Nat)=>[(0,pTask f c j x),(1,AU s),(5,.own 0 n),(6,match e with|0=>one0 j.to.toNat|k + 1=>.osl 1 1 k (L.length - k)),(34,AI n),(35,AI p)]) (fun p e g L=>match e with
    | 0=>[rowG n g]
    | _ + 1=>[rowG n g,rowN L]) (fun p e g L=>FI n R j.to.toNat h M0 p e g L) (fun p e g L=>n - p) 0 (k + 1) g L ⟨⟨Nat.zero_le _,⟨l,hq,hB⟩,fun y hy=>by omega,hL,(fun h=>by cases h),hM0,hle,hbd⟩,[0,1],Cut.A,⟨Ln.A,Ln.A,Ln.A,Ln.oslE rfl rfl,Ln.A,Ln.A,True.intro⟩⟩ ?_
   rintro p e g L ⟨hp,⟨l,hq,hB⟩,hno,hL,h0,hM,hle,hbd⟩
   have hcu:=cntU_le g n
   obtain ⟨q1,q2,q3,q4⟩:=drop_c hq
   have hh:=hB.mem h (by simp)
   by_cases hlt:p < n
   ·rcases e with _|k
    ·have hL1:=h0 rfl
     subst hL1
     have hht:h = j.to.toNat:=q2.symm
     subst hht
     have hgs:=hB.start
     have hj:=joined_ok f c j x s j.to.toNat p hc (by omega) (by omega)
     rw [hR] at hj
     have hl0:l = []:=by have hq2:[j.to.toNat] = j.to.toNat :: l:=hq;injection hq2 with _ e;exact e.symm
     subst hl0
     (repeat' ((try conv=>whnf);first|(with_reducible first|refine wT ?_|refine wF ?_|(refine wI (fun hq=>?_) (fun hq=>?_) <;> try simp only [zA,zE,zD,zJ,zB,zI,wK,wL] at hq)|refine wA ?_|refine wB ?_|refine wC ?_|refine wD ?_|refine wE ?_)|((with_reducible refine wN ?_ ?_);focus exact needA)|(with_reducible refine wG ?_)|(refine FCall.pure (hj) ⟨Ln.sameB _ rfl,Ln.sameB _ rfl,Ln.sameB _ rfl,Ln.sameB _ rfl,True.intro⟩ rfl ?_)|(with_reducible refine wP ?_)))
     all_goals (try conv=>whnf)
     ·have hcn:=cntU_upd (g:=g) (p:=p) (v:=g j.to.toNat + 1) (by assumption) (by omega) hlt
      have hpush:=hB.push hlt (by assumption) hq
      have hbp:=bnd_push (v:=g j.to.toNat + 1) hbd hlt (by assumption) (by omega) (by have:=hbd _ hh.1;omega)
      refine ⟨⟨p + 1,1,updI g p (g j.to.toNat + 1),[j.to.toNat,p],⟨hlt,⟨[p],rfl,hpush⟩,no_push hno (by omega),by show 2 + _ ≤ _;have:1 + cntU g n ≤ n + 1:=hL;omega,(fun h=>by cases h),by show _ + 2 = _;have:cntU g n + 1 = M0:=hM;omega,Nat.zero_le _,hbp⟩,by show n - (p + 1) < n - p;omega,[0,1],?_,⟨Ln.A,Ln.A,Ln.A,Ln.osl0E rfl rfl,Ln.A,Ln.A,True.intro⟩⟩⟩
      exact wO rfl rfl rfl (wV rfl LnB.setG (wV rfl (LnB.app (fun k hk o ho=>by obtain rfl:k = 0:=(by omega);rfl) (fun o ho=>rfl)) wX))
     ·(exact ⟨⟨(p + 1),0,g,[j.to.toNat],⟨hlt,⟨[],rfl,hB⟩,no_step hno (.inl hq),hL,fun _=>rfl,hM,Nat.zero_le _,hbd⟩,by show n - (p + 1) < n - p;omega,[0],Cut.A,allA⟩⟩)
     ·(exact ⟨⟨(p + 1),0,g,[j.to.toNat],⟨hlt,⟨[],rfl,hB⟩,no_step hno (.inr hq),hL,fun _=>rfl,hM,Nat.zero_le _,hbd⟩,by show n - (p + 1) < n - p;omega,[0],Cut.A,allA⟩⟩)
    ·have q1:k < L.length:=q1
     have q2:L.getD k 0 = h:=q2
     have q4:L.length = k + 1 + l.length:=q4
     have hqd:L.drop k = h :: l:=hq
     subst q2
     have hj:=joined_ok f c j x s (L.getD k 0) p hc (by have:=hh.1;omega) (by omega)
     rw [hR] at hj
     have hhb:=hbd _ hh.1
     have hq5:L.length - k = l.length + 1:=by have:=q4;omega
     (repeat' ((try conv=>whnf);first|(with_reducible first|refine wT ?_|refine wF ?_|(refine wI (fun hq=>?_) (fun hq=>?_) <;> try simp only [zA,zE,zD,zJ,zB,zI,wK,wL] at hq)|refine wA ?_|refine wB ?_|refine wC ?_|refine wD ?_|refine wE ?_)|((with_reducible refine wN ?_ ?_);focus exact needA)|(refine FCall.pure (hj) ⟨Ln.sameB _ rfl,Ln.sameB _ rfl,Ln.sameB _ rfl,Ln.sameB _ rfl,True.intro⟩ rfl ?_)|(refine Fits.in64 (show -9223372036854775808 ≤ g (L.getD k 0) + 1 ∧ g (L.getD k 0) + 1 ≤ 9223372036854775807 by omega) ?_)|(refine FIdx.nat (show L.getD k 0 < n by omega) ?_)|(refine Need.mk (show L.getD k 0 < n by omega) ?_)|(refine FApp.share (Need.mk (by omega) (Need.mk ?_ ?_)))|(with_reducible refine wP ?_)))
     all_goals (try conv=>whnf)
     ·have hcn:=cntU_upd (g:=g) (p:=p) (v:=g (L.getD k 0) + 1) (by assumption) (by omega) hlt
      have hpush:=hB.push hlt (by assumption) hq
      have hbp:=bnd_push (v:=g (L.getD k 0) + 1) hbd hlt (by assumption) (by omega) (by omega)
      refine ⟨⟨p + 1,k + 1,updI g p (g (L.getD k 0) + 1),L ++ [p],⟨hlt,⟨l ++ [p],drop_sn hqd,hpush⟩,no_push hno (by omega),by rw [len_sn];omega,(fun h=>by cases h),by rw [len_sn];have hM2:cntU g n + (L.length - k) = M0:=hM;show _ + (L.length + 1 - k) = _;omega,by rw [len_sn];show k ≤ _;omega,hbp⟩,by show n - (p + 1) < n - p;omega,[0,1],?_,⟨Ln.A,Ln.A,Ln.A,Ln.oslE rfl (by rw [len_sn];omega),Ln.A,Ln.A,True.intro⟩⟩⟩
      exact wO rfl rfl rfl (wV rfl LnB.setG (wV rfl (LnB.rowE (by rw [len_sn];omega) (fun i hi o ho=>row_sn (by omega) (by rw [len_sn] at hi;omega) ho)) wX))
     ·have hcn:=cntU_upd (g:=g) (p:=p) (v:=g (L.getD k 0) + 1) (by assumption) (by omega) hlt
      have hpush:=hB.push hlt (by assumption) hq
      have hbp:=bnd_push (v:=g (L.getD k 0) + 1) hbd hlt (by assumption) (by omega) (by omega)
      have hdl:(L.drop k).length = L.length - k:=List.length_drop
      have hnl:(L.drop k ++ [p]).length - 0 = L.length - k + (0 + 1):=by rw [len_sn,hdl];omega
      refine ⟨⟨p + 1,1,updI g p (g (L.getD k 0) + 1),L.drop k ++ [p],⟨hlt,⟨l ++ [p],by show L.drop k ++ [p] = _;rw [hqd];rfl,hpush⟩,no_push hno (by omega),by rw [len_sn,hdl];omega,(fun h=>by cases h),by rw [len_sn,hdl];have hM2:cntU g n + (L.length - k) = M0:=hM;show _ + (L.length - k + 1 - 0) = _;omega,Nat.zero_le _,hbp⟩,by show n - (p + 1) < n - p;omega,[0,2],?_,⟨Ln.A,Ln.A,Ln.A,Ln.osl0E rfl hnl.symm,Ln.A,Ln.A,True.intro⟩⟩⟩
      exact wO rfl rfl rfl (wV rfl LnB.setG (wV rfl (LnB.rowE (by rw [len_sn,hdl];omega) (fun i hi o ho=>row_dr (by rw [len_sn,hdl] at hi;omega) ho)) wX))
     ·refine ⟨⟨p + 1,k + 1,g,L,⟨hlt,⟨l,hqd,hB⟩,no_step hno (.inl hq),hL,(fun h=>by cases h),hM,hle,hbd⟩,by show n - (p + 1) < n - p;omega,[0,1],Cut.A,⟨Ln.A,Ln.A,Ln.A,Ln.oslE rfl rfl,Ln.A,Ln.A,True.intro⟩⟩⟩
     ·refine ⟨⟨p + 1,k + 1,g,L,⟨hlt,⟨l,hqd,hB⟩,no_step hno (.inr hq),hL,(fun h=>by cases h),hM,hle,hbd⟩,by show n - (p + 1) < n - p;omega,[0,1],Cut.A,⟨Ln.A,Ln.A,Ln.A,Ln.oslE rfl rfl,Ln.A,Ln.A,True.intro⟩⟩⟩
   ·have hpn:p = n:=by omega
    subst hpn
    have hpop:=hB.pop (fun y hy hRy=>hno y hy hRy)
    rcases e with _|k
    ·have hL1:=h0 rfl
     subst hL1
     have hl0:l = []:=by have hq2:[j.to.toNat] = h :: l:=hq;injection hq2 with _ e;exact e.symm
     subst hl0
     (repeat' ((try conv=>whnf);first|(with_reducible first|refine wT ?_|refine wF ?_|(refine wI (fun hq=>?_) (fun hq=>?_) <;> try simp only [zA,zE,zD,zJ,zB,zI,wK,wL] at hq)|refine wA ?_|refine wB ?_|refine wC ?_|refine wD ?_|refine wE ?_)|((with_reducible refine wN ?_ ?_);focus exact needA)|(with_reducible refine wG ?_)|(with_reducible refine wP ?_)))
     all_goals (try conv=>whnf)
     (exact ⟨⟨0,g,[],⟨hpop,by show 0 + cntU g p ≤ _;omega,fun _=>.inl rfl,Nat.zero_le _,hbd⟩,by have h1:cntU g p + 1 = M0:=hM;have h2:=hM0;show cntU g p + 0 < _;omega,[0],Cut.A,allA⟩⟩)
    ·have q1:k < L.length:=q1
     have q3:L.drop (k + 1) = l:=q3
     (repeat' ((try conv=>whnf);first|(with_reducible first|refine wT ?_|refine wF ?_|(refine wI (fun hq=>?_) (fun hq=>?_) <;> try simp only [zA,zE,zD,zJ,zB,zI,wK,wL] at hq)|refine wA ?_|refine wB ?_|refine wC ?_|refine wD ?_|refine wE ?_)|((with_reducible refine wN ?_ ?_);focus exact needA)|(with_reducible refine wG ?_)|(with_reducible refine wP ?_)))
     all_goals (try conv=>whnf)
     refine ⟨⟨k + 2,g,L,⟨by show BInv _ _ _ g (L.drop (k + 1));rw [q3];exact hpop,hL,(fun h=>by cases h),by show k + 1 ≤ _;omega,hbd⟩,by have h1:cntU g p + (L.length - k) = M0:=hM;have h2:=hM0;show cntU g p + (L.length - (k + 1)) < _;omega,[0,1],Cut.A,⟨Ln.A,Ln.A,Ln.A,Ln.oslE rfl (by omega),True.intro⟩⟩⟩
end Go.Proofs.Ytkejebdfbkgaiaa
