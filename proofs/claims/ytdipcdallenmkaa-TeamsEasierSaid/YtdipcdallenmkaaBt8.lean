/- Teams: the program's every and Check (printed by gen_tei.py). / Teams: the program's Check and open. / Teams: the program's Contains, count, alone (printed by gen_tek.py). / Teams: the iterators teams and members. / Teams: the iterator members. / Teams: the program's members, fee, joined. / Teams: slices.Repeat of one number. / Teams: the search by a queue finds the distances -/
import Derived.Test.YtdipcdallenmkaaBt7
import Derived.RangeFuncNested
import Derived.RangeFuncBound
import Derived.RangeFuncCalls
import Derived.RangeFuncLeaves
import Derived.Shelf.Abstract
import Derived.Shelf.RegionOpen
import Derived.WalkKit
import Derived.OwnWalkIn
import Derived.TacticsInMore
import Derived.LoopNIn
import Derived.LoopIn
set_option linter.unusedSimpArgs false
set_option linter.unusedVariables false
namespace Go.Proofs.Ytdipcdallenmkaa
open Go.RowKit

theorem Ln.boxP {σ:Nat → Nat → Prop} {Bp:Nat → Prop} {H:List AB} {d o m:Nat} {c c':Nat → AV} (h:Bp d) (hd:H[d]? = some (.box m c)) (hc:LnN σ Bp H m c c') (hp:((List.range m).all fun i=>(c' i).pureB) = true):Ln σ Bp H (.ptr d o) (.ip m c' o) :=
 Ln.pubp d o m c c' h hd hc.get fun i hi=>pureB_ok _ (by simp only [List.all_eq_true,List.mem_range] at hp;exact hp i hi)
/-- The first place from a place on at which something is so, or -1. -/
def idxP (n:Nat) (p:Nat → Bool):Nat → Nat → Int
 | 0,_=>-1
 | k + 1,i=>if p i then i else idxP n p k (i + 1)
theorem idxP_any {n:Nat} {p:Nat → Bool}:∀ {k i:Nat},(0 ≤ idxP n p k i) ↔ ∃ j,i ≤ j ∧ j < i + k ∧ p j = true
 | 0,i=>by simp only [idxP];constructor;(· intro h;omega);(· rintro ⟨j,h1,h2,_⟩;omega)
 | k + 1,i=>by
  simp only [idxP]
  split
  ·rename_i h;exact ⟨fun _=>⟨i,by omega,by omega,h⟩,fun _=>by omega⟩
  ·rename_i h
   rw [idxP_any]
   constructor
   ·rintro ⟨j,h1,h2,h3⟩;exact ⟨j,by omega,by omega,h3⟩
   ·rintro ⟨j,h1,h2,h3⟩
    rcases Nat.eq_or_lt_of_le h1 with e|e
    ·subst e;exact (h h3).elim
    ·exact ⟨j,e,by omega,h3⟩
theorem all_idx {α:Type} {q:α → Bool} {l:List α} (d:α):(!decide (0 ≤ idxP l.length (fun k=>!q (l.getD k d)) l.length 0)) = l.all q:=by
 rw [Bool.eq_iff_iff]
 simp only [Bool.not_eq_true',decide_eq_false_iff_not,idxP_any,List.all_eq_true]
 constructor
 ·intro h x hx
  obtain ⟨k,hk,rfl⟩:=List.getElem_of_mem hx
  cases hq:q l[k]
  ·exact (h ⟨k,by omega,by omega,by simp [List.getD,List.getElem?_eq_getElem hk,hq]⟩).elim
  ·rfl
 ·rintro h ⟨j,_,hj,h2⟩
  have hj:j < l.length:=by omega
  have:=h l[j] (List.getElem_mem hj)
  simp [List.getD,List.getElem?_eq_getElem hj,this] at h2
abbrev iFn (v:AV):AV:=.ip 1 (ofL [v]) 0
set_option maxHeartbeats 4000000
set_option maxRecDepth 100000
theorem ev1_int (z e:Bool) (G:FuncId) (l:List Int) (q:Int → Bool) (k:Nat) (hG:ACall Try.prog G (AI (l.getD k 0) :: []) [] (fun r h=>r = .bool (q (l.getD k 0)) ∧ h = [])):ACall Try.prog 67 [AI (l.getD k 0),iFn (.fn G 0 (ofL []))] [] (fun r h=>r = .bool (!q (l.getD k 0)) ∧ h = []):=by
 (refine fcall_of mixed Try.func67 rfl (by decide) (hs:={}) ?k (ac:=?ac) ?c (rs:=?rs) ?r ?l ?H;(case k=>kernel_rfl);(case c=>(conv=>(lhs;cbv)));(case r=>(conv=>(lhs;cbv)));(case l=>exact Nat.le_of_ble_eq_true rfl))
 (repeat' ((try conv=>whnf);first|(with_reducible first|refine wT ?_|refine wF ?_|(refine wI (fun hq=>?_) (fun hq=>?_) <;> try simp only [zA,zE,zD,zJ,zB,zI,wK,wL] at hq)|refine wA ?_|refine wB ?_|refine wC ?_|refine wD ?_|refine wE ?_)|((with_reducible refine wN ?_ ?_);focus exact needA)|(with_reducible refine wG ?_)|(refine FCall.pure (hG) ⟨Ln.sameB _ rfl,True.intro⟩ rfl ?_)|(with_reducible refine wP ?_)))
 all_goals (try conv=>whnf)
 (refine ⟨⟨_,[],[],Cut.nil _,Ln.sameB _ rfl,?_,rfl⟩⟩)
 rfl
theorem idx_int (z e:Bool) (G:FuncId) (l:List Int) (q:Int → Bool) (hl:l.length ≤ 1000) (hG:∀ k,k < l.length → ACall Try.prog G (AI (l.getD k 0) :: []) [] (fun r h=>r = .bool (q (l.getD k 0)) ∧ h = [])):ACall Try.prog 77 [aInts z e l,.fn 67 1 (ofL [iFn (.fn G 0 (ofL []))])] [] (fun r h=>r = AI (idxP l.length (fun k=>!q (l.getD k 0)) l.length 0) ∧ h = []):=by
 (refine fcall_of mixed Try.func77 rfl (by decide) (hs:={}) ?k (ac:=?ac) ?c (rs:=?rs) ?r ?l ?H;(case k=>kernel_rfl);(case c=>(conv=>(lhs;cbv)));(case r=>(conv=>(lhs;cbv)));(case l=>exact Nat.le_of_ble_eq_true rfl))
 (repeat' ((try conv=>whnf);first|(with_reducible first|refine wT ?_|refine wF ?_|(refine wI (fun hq=>?_) (fun hq=>?_) <;> try simp only [zA,zE,zD,zJ,zB,zI,wK,wL] at hq)|refine wA ?_|refine wB ?_|refine wC ?_|refine wD ?_|refine wE ?_)|((with_reducible refine wN ?_ ?_);focus exact needA)|(with_reducible refine wG ?_)|(with_reducible refine wP ?_)))
 all_goals (try conv=>whnf)
 refine FLoop.of (ACalls.mono _) (X:=Nat) (fun k=>[(0,aInts z e l),(1,.fn 67 1 (ofL [iFn (.fn G 0 (ofL []))])),(7,AI l.length),(8,AI k)]) (fun _=>[]) (fun k=>k ≤ l.length ∧ idxP l.length (fun k=>!q (l.getD k 0)) l.length 0 = idxP l.length (fun k=>!q (l.getD k 0)) (l.length - k) k) (fun k=>l.length - k) 0 ⟨⟨Nat.zero_le _,rfl⟩,[],Cut.A,allA⟩ ?_
 rintro k ⟨hk,hL⟩
 by_cases hlt:k < l.length
 ·obtain ⟨m,hm⟩:∃ m,l.length - k = m + 1:=⟨l.length - k - 1,by omega⟩
  rw [hm,idxP] at hL
  (repeat' ((try conv=>whnf);first|(with_reducible first|refine wT ?_|refine wF ?_|(refine wI (fun hq=>?_) (fun hq=>?_) <;> try simp only [zA,zE,zD,zJ,zB,zI,wK,wL] at hq)|refine wA ?_|refine wB ?_|refine wC ?_|refine wD ?_|refine wE ?_)|((with_reducible refine wN ?_ ?_);focus exact needA)|(with_reducible refine wG ?_)|(refine FCall.pure ((ev1_int z e G l q k (hG k hlt))) ⟨Ln.sameB _ rfl,Ln.sameB _ rfl,True.intro⟩ rfl ?_)|(with_reducible refine wP ?_)))
  all_goals (try conv=>whnf)
  ·(refine ⟨⟨_,[],[],Cut.nil _,Ln.sameB _ rfl,?_,rfl⟩⟩)
   rw [hL,if_pos (by simpa using hq)]
  ·(exact ⟨⟨(k + 1),⟨hlt,by rw [hL,if_neg (by simpa using hq),show l.length - (k + 1) = m by omega]⟩,by show _ < _;omega,[],Cut.A,allA⟩⟩)
 ·rw [show l.length - k = 0 by omega,idxP] at hL
  (repeat' ((try conv=>whnf);first|(with_reducible first|refine wT ?_|refine wF ?_|(refine wI (fun hq=>?_) (fun hq=>?_) <;> try simp only [zA,zE,zD,zJ,zB,zI,wK,wL] at hq)|refine wA ?_|refine wB ?_|refine wC ?_|refine wD ?_|refine wE ?_)|((with_reducible refine wN ?_ ?_);focus exact needA)|(with_reducible refine wG ?_)|(with_reducible refine wP ?_)))
  all_goals (try conv=>whnf)
  (refine ⟨⟨_,[],[],Cut.nil _,Ln.sameB _ rfl,?_,rfl⟩⟩)
  rw [hL]
theorem cont_int (z e:Bool) (G:FuncId) (l:List Int) (q:Int → Bool) (hl:l.length ≤ 1000) (hG:∀ k,k < l.length → ACall Try.prog G (AI (l.getD k 0) :: []) [] (fun r h=>r = .bool (q (l.getD k 0)) ∧ h = [])):ACall Try.prog 66 [aInts z e l,.fn 67 1 (ofL [iFn (.fn G 0 (ofL []))])] [] (fun r h=>r = .bool (decide (0 ≤ idxP l.length (fun k=>!q (l.getD k 0)) l.length 0)) ∧ h = []):=by
 (refine fcall_of mixed Try.func66 rfl (by decide) (hs:={}) ?k (ac:=?ac) ?c (rs:=?rs) ?r ?l ?H;(case k=>kernel_rfl);(case c=>(conv=>(lhs;cbv)));(case r=>(conv=>(lhs;cbv)));(case l=>exact Nat.le_of_ble_eq_true rfl))
 (repeat' ((try conv=>whnf);first|(with_reducible first|refine wT ?_|refine wF ?_|(refine wI (fun hq=>?_) (fun hq=>?_) <;> try simp only [zA,zE,zD,zJ,zB,zI,wK,wL] at hq)|refine wA ?_|refine wB ?_|refine wC ?_|refine wD ?_|refine wE ?_)|((with_reducible refine wN ?_ ?_);focus exact needA)|(with_reducible refine wG ?_)|(refine FCall.pure ((idx_int z e G l q hl hG)) ⟨Ln.sameB _ rfl,Ln.sameB _ rfl,True.intro⟩ rfl ?_)|(with_reducible refine wP ?_)))
 all_goals (try conv=>whnf)
 all_goals (refine ⟨⟨_,[],[],Cut.nil _,Ln.sameB _ rfl,?_,rfl⟩⟩)
 all_goals rfl
theorem every_int (z e:Bool) (G:FuncId) (l:List Int) (q:Int → Bool) (hl:l.length ≤ 1000) (hG:∀ k,k < l.length → ACall Try.prog G (AI (l.getD k 0) :: []) [] (fun r h=>r = .bool (q (l.getD k 0)) ∧ h = [])):ACall Try.prog 52 [aInts z e l,(.fn G 0 (ofL []))] [] (fun r h=>r = .bool (l.all q) ∧ h = []):=by
 (refine fcall_of mixed Try.func52 rfl (by decide) (hs:={ pub:=[1] }) ?k (ac:=?ac) ?c (rs:=?rs) ?r ?l ?H;(case k=>kernel_rfl);(case c=>(conv=>(lhs;cbv)));(case r=>(conv=>(lhs;cbv)));(case l=>exact Nat.le_of_ble_eq_true rfl))
 (repeat' ((try conv=>whnf);first|(with_reducible first|refine wT ?_|refine wF ?_|(refine wI (fun hq=>?_) (fun hq=>?_) <;> try simp only [zA,zE,zD,zJ,zB,zI,wK,wL] at hq)|refine wA ?_|refine wB ?_|refine wC ?_|refine wD ?_|refine wE ?_)|((with_reducible refine wN ?_ ?_);focus exact needA)|(with_reducible refine wG ?_)|(with_reducible refine wP ?_)))
 all_goals (try conv=>whnf)
 refine FWk.of [(0,aInts z e l),(3,iFn (.fn G 0 (ofL [])))] [] [] (Cut.nil _) ⟨Ln.A,Ln.boxP (m:=1) (goneB rfl) rfl ⟨True.intro,Ln.sameB _ rfl⟩ rfl,True.intro⟩ ?_
 (repeat' ((try conv=>whnf);first|(with_reducible first|refine wT ?_|refine wF ?_|(refine wI (fun hq=>?_) (fun hq=>?_) <;> try simp only [zA,zE,zD,zJ,zB,zI,wK,wL] at hq)|refine wA ?_|refine wB ?_|refine wC ?_|refine wD ?_|refine wE ?_)|((with_reducible refine wN ?_ ?_);focus exact needA)|(with_reducible refine wG ?_)|(refine FCall.pure ((cont_int z e G l q hl hG)) ⟨Ln.sameB _ rfl,Ln.sameB _ rfl,True.intro⟩ rfl ?_)|(with_reducible refine wP ?_)))
 all_goals (try conv=>whnf)
 (refine ⟨⟨_,[],[],Cut.nil _,Ln.sameB _ rfl,?_,rfl⟩⟩)
 rw [all_idx]
theorem ev1_per (z e:Bool) (pf:Nat → PFl) (G:FuncId) (f:CFl) (c:Crew) (l:List Person) (q:Person → Bool) (k:Nat) (hG:ACall Try.prog G (.agg 6 (cPerson (pf k) (l.getD k ps0)) :: [.ip 3 (cCrew f c) 0,iFn (.fn 48 0 (ofL [])),iFn (.fn 50 0 (ofL []))]) [] (fun r h=>r = .bool (q (l.getD k ps0)) ∧ h = [])):ACall Try.prog 69 [.agg 6 (cPerson (pf k) (l.getD k ps0)),iFn (.fn G 3 (ofL [.ip 3 (cCrew f c) 0,iFn (.fn 48 0 (ofL [])),iFn (.fn 50 0 (ofL []))]))] [] (fun r h=>r = .bool (!q (l.getD k ps0)) ∧ h = []):=by
 (refine fcall_of mixed Try.func69 rfl (by decide) (hs:={}) ?k (ac:=?ac) ?c (rs:=?rs) ?r ?l ?H;(case k=>kernel_rfl);(case c=>(conv=>(lhs;cbv)));(case r=>(conv=>(lhs;cbv)));(case l=>exact Nat.le_of_ble_eq_true rfl))
 (repeat' ((try conv=>whnf);first|(with_reducible first|refine wT ?_|refine wF ?_|(refine wI (fun hq=>?_) (fun hq=>?_) <;> try simp only [zA,zE,zD,zJ,zB,zI,wK,wL] at hq)|refine wA ?_|refine wB ?_|refine wC ?_|refine wD ?_|refine wE ?_)|((with_reducible refine wN ?_ ?_);focus exact needA)|(with_reducible refine wG ?_)|(refine FCall.pure (hG) ⟨Ln.sameB _ rfl,Ln.sameB _ rfl,Ln.sameB _ rfl,Ln.sameB _ rfl,True.intro⟩ rfl ?_)|(with_reducible refine wP ?_)))
 all_goals (try conv=>whnf)
 (refine ⟨⟨_,[],[],Cut.nil _,Ln.sameB _ rfl,?_,rfl⟩⟩)
 rfl
theorem idx_per (z e:Bool) (pf:Nat → PFl) (G:FuncId) (f:CFl) (c:Crew) (l:List Person) (q:Person → Bool) (hl:l.length ≤ 1000) (hG:∀ k,k < l.length → ACall Try.prog G (.agg 6 (cPerson (pf k) (l.getD k ps0)) :: [.ip 3 (cCrew f c) 0,iFn (.fn 48 0 (ofL [])),iFn (.fn 50 0 (ofL []))]) [] (fun r h=>r = .bool (q (l.getD k ps0)) ∧ h = [])):ACall Try.prog 78 [aPeople z e pf l,.fn 69 1 (ofL [iFn (.fn G 3 (ofL [.ip 3 (cCrew f c) 0,iFn (.fn 48 0 (ofL [])),iFn (.fn 50 0 (ofL []))]))])] [] (fun r h=>r = AI (idxP l.length (fun k=>!q (l.getD k ps0)) l.length 0) ∧ h = []):=by
 (refine fcall_of mixed Try.func78 rfl (by decide) (hs:={}) ?k (ac:=?ac) ?c (rs:=?rs) ?r ?l ?H;(case k=>kernel_rfl);(case c=>(conv=>(lhs;cbv)));(case r=>(conv=>(lhs;cbv)));(case l=>exact Nat.le_of_ble_eq_true rfl))
 (repeat' ((try conv=>whnf);first|(with_reducible first|refine wT ?_|refine wF ?_|(refine wI (fun hq=>?_) (fun hq=>?_) <;> try simp only [zA,zE,zD,zJ,zB,zI,wK,wL] at hq)|refine wA ?_|refine wB ?_|refine wC ?_|refine wD ?_|refine wE ?_)|((with_reducible refine wN ?_ ?_);focus exact needA)|(with_reducible refine wG ?_)|(with_reducible refine wP ?_)))
 all_goals (try conv=>whnf)
 refine FLoop.of (ACalls.mono _) (X:=Nat) (fun k=>[(0,aPeople z e pf l),(1,.fn 69 1 (ofL [iFn (.fn G 3 (ofL [.ip 3 (cCrew f c) 0,iFn (.fn 48 0 (ofL [])),iFn (.fn 50 0 (ofL []))]))])),(7,AI l.length),(8,AI k)]) (fun _=>[]) (fun k=>k ≤ l.length ∧ idxP l.length (fun k=>!q (l.getD k ps0)) l.length 0 = idxP l.length (fun k=>!q (l.getD k ps0)) (l.length - k) k) (fun k=>l.length - k) 0 ⟨⟨Nat.zero_le _,rfl⟩,[],Cut.A,allA⟩ ?_
 rintro k ⟨hk,hL⟩
 by_cases hlt:k < l.length
 ·obtain ⟨m,hm⟩:∃ m,l.length - k = m + 1:=⟨l.length - k - 1,by omega⟩
  rw [hm,idxP] at hL
  (repeat' ((try conv=>whnf);first|(with_reducible first|refine wT ?_|refine wF ?_|(refine wI (fun hq=>?_) (fun hq=>?_) <;> try simp only [zA,zE,zD,zJ,zB,zI,wK,wL] at hq)|refine wA ?_|refine wB ?_|refine wC ?_|refine wD ?_|refine wE ?_)|((with_reducible refine wN ?_ ?_);focus exact needA)|(with_reducible refine wG ?_)|(refine FCall.pure ((ev1_per z e pf G f c l q k (hG k hlt))) ⟨Ln.sameB _ rfl,Ln.sameB _ rfl,True.intro⟩ rfl ?_)|(with_reducible refine wP ?_)))
  all_goals (try conv=>whnf)
  ·(refine ⟨⟨_,[],[],Cut.nil _,Ln.sameB _ rfl,?_,rfl⟩⟩)
   rw [hL,if_pos (by simpa using hq)]
  ·(exact ⟨⟨(k + 1),⟨hlt,by rw [hL,if_neg (by simpa using hq),show l.length - (k + 1) = m by omega]⟩,by show _ < _;omega,[],Cut.A,allA⟩⟩)
 ·rw [show l.length - k = 0 by omega,idxP] at hL
  (repeat' ((try conv=>whnf);first|(with_reducible first|refine wT ?_|refine wF ?_|(refine wI (fun hq=>?_) (fun hq=>?_) <;> try simp only [zA,zE,zD,zJ,zB,zI,wK,wL] at hq)|refine wA ?_|refine wB ?_|refine wC ?_|refine wD ?_|refine wE ?_)|((with_reducible refine wN ?_ ?_);focus exact needA)|(with_reducible refine wG ?_)|(with_reducible refine wP ?_)))
  all_goals (try conv=>whnf)
  (refine ⟨⟨_,[],[],Cut.nil _,Ln.sameB _ rfl,?_,rfl⟩⟩)
  rw [hL]
theorem cont_per (z e:Bool) (pf:Nat → PFl) (G:FuncId) (f:CFl) (c:Crew) (l:List Person) (q:Person → Bool) (hl:l.length ≤ 1000) (hG:∀ k,k < l.length → ACall Try.prog G (.agg 6 (cPerson (pf k) (l.getD k ps0)) :: [.ip 3 (cCrew f c) 0,iFn (.fn 48 0 (ofL [])),iFn (.fn 50 0 (ofL []))]) [] (fun r h=>r = .bool (q (l.getD k ps0)) ∧ h = [])):ACall Try.prog 68 [aPeople z e pf l,.fn 69 1 (ofL [iFn (.fn G 3 (ofL [.ip 3 (cCrew f c) 0,iFn (.fn 48 0 (ofL [])),iFn (.fn 50 0 (ofL []))]))])] [] (fun r h=>r = .bool (decide (0 ≤ idxP l.length (fun k=>!q (l.getD k ps0)) l.length 0)) ∧ h = []):=by
 (refine fcall_of mixed Try.func68 rfl (by decide) (hs:={}) ?k (ac:=?ac) ?c (rs:=?rs) ?r ?l ?H;(case k=>kernel_rfl);(case c=>(conv=>(lhs;cbv)));(case r=>(conv=>(lhs;cbv)));(case l=>exact Nat.le_of_ble_eq_true rfl))
 (repeat' ((try conv=>whnf);first|(with_reducible first|refine wT ?_|refine wF ?_|(refine wI (fun hq=>?_) (fun hq=>?_) <;> try simp only [zA,zE,zD,zJ,zB,zI,wK,wL] at hq)|refine wA ?_|refine wB ?_|refine wC ?_|refine wD ?_|refine wE ?_)|((with_reducible refine wN ?_ ?_);focus exact needA)|(with_reducible refine wG ?_)|(refine FCall.pure ((idx_per z e pf G f c l q hl hG)) ⟨Ln.sameB _ rfl,Ln.sameB _ rfl,True.intro⟩ rfl ?_)|(with_reducible refine wP ?_)))
 all_goals (try conv=>whnf)
 all_goals (refine ⟨⟨_,[],[],Cut.nil _,Ln.sameB _ rfl,?_,rfl⟩⟩)
 all_goals rfl
theorem every_per (z e:Bool) (pf:Nat → PFl) (G:FuncId) (f:CFl) (c:Crew) (l:List Person) (q:Person → Bool) (hl:l.length ≤ 1000) (hG:∀ k,k < l.length → ACall Try.prog G (.agg 6 (cPerson (pf k) (l.getD k ps0)) :: [.ip 3 (cCrew f c) 0,iFn (.fn 48 0 (ofL [])),iFn (.fn 50 0 (ofL []))]) [] (fun r h=>r = .bool (q (l.getD k ps0)) ∧ h = [])):ACall Try.prog 55 [aPeople z e pf l,(.fn G 3 (ofL [.ip 3 (cCrew f c) 0,iFn (.fn 48 0 (ofL [])),iFn (.fn 50 0 (ofL []))]))] [] (fun r h=>r = .bool (l.all q) ∧ h = []):=by
 (refine fcall_of mixed Try.func55 rfl (by decide) (hs:={ pub:=[1] }) ?k (ac:=?ac) ?c (rs:=?rs) ?r ?l ?H;(case k=>kernel_rfl);(case c=>(conv=>(lhs;cbv)));(case r=>(conv=>(lhs;cbv)));(case l=>exact Nat.le_of_ble_eq_true rfl))
 (repeat' ((try conv=>whnf);first|(with_reducible first|refine wT ?_|refine wF ?_|(refine wI (fun hq=>?_) (fun hq=>?_) <;> try simp only [zA,zE,zD,zJ,zB,zI,wK,wL] at hq)|refine wA ?_|refine wB ?_|refine wC ?_|refine wD ?_|refine wE ?_)|((with_reducible refine wN ?_ ?_);focus exact needA)|(with_reducible refine wG ?_)|(with_reducible refine wP ?_)))
 all_goals (try conv=>whnf)
 refine FWk.of [(0,aPeople z e pf l),(3,iFn (.fn G 3 (ofL [.ip 3 (cCrew f c) 0,iFn (.fn 48 0 (ofL [])),iFn (.fn 50 0 (ofL []))])))] [] [] (Cut.nil _) ⟨Ln.A,Ln.boxP (m:=1) (goneB rfl) rfl ⟨True.intro,Ln.sameB _ rfl⟩ rfl,True.intro⟩ ?_
 (repeat' ((try conv=>whnf);first|(with_reducible first|refine wT ?_|refine wF ?_|(refine wI (fun hq=>?_) (fun hq=>?_) <;> try simp only [zA,zE,zD,zJ,zB,zI,wK,wL] at hq)|refine wA ?_|refine wB ?_|refine wC ?_|refine wD ?_|refine wE ?_)|((with_reducible refine wN ?_ ?_);focus exact needA)|(with_reducible refine wG ?_)|(refine FCall.pure ((cont_per z e pf G f c l q hl hG)) ⟨Ln.sameB _ rfl,Ln.sameB _ rfl,True.intro⟩ rfl ?_)|(with_reducible refine wP ?_)))
 all_goals (try conv=>whnf)
 (refine ⟨⟨_,[],[],Cut.nil _,Ln.sameB _ rfl,?_,rfl⟩⟩)
 rw [all_idx]
theorem ev1_law (z e:Bool) (G:FuncId) (l:List LawT) (q:LawT → Bool) (k:Nat) (hG:ACall Try.prog G (.agg 3 (cLaw (l.getD k lw0)) :: []) [] (fun r h=>r = .bool (q (l.getD k lw0)) ∧ h = [])):ACall Try.prog 71 [.agg 3 (cLaw (l.getD k lw0)),iFn (.fn G 0 (ofL []))] [] (fun r h=>r = .bool (!q (l.getD k lw0)) ∧ h = []):=by
 (refine fcall_of mixed Try.func71 rfl (by decide) (hs:={}) ?k (ac:=?ac) ?c (rs:=?rs) ?r ?l ?H;(case k=>kernel_rfl);(case c=>(conv=>(lhs;cbv)));(case r=>(conv=>(lhs;cbv)));(case l=>exact Nat.le_of_ble_eq_true rfl))
 (repeat' ((try conv=>whnf);first|(with_reducible first|refine wT ?_|refine wF ?_|(refine wI (fun hq=>?_) (fun hq=>?_) <;> try simp only [zA,zE,zD,zJ,zB,zI,wK,wL] at hq)|refine wA ?_|refine wB ?_|refine wC ?_|refine wD ?_|refine wE ?_)|((with_reducible refine wN ?_ ?_);focus exact needA)|(with_reducible refine wG ?_)|(refine FCall.pure (hG) ⟨Ln.sameB _ rfl,True.intro⟩ rfl ?_)|(with_reducible refine wP ?_)))
 all_goals (try conv=>whnf)
 (refine ⟨⟨_,[],[],Cut.nil _,Ln.sameB _ rfl,?_,rfl⟩⟩)
 rfl
theorem idx_law (z e:Bool) (G:FuncId) (l:List LawT) (q:LawT → Bool) (hl:l.length ≤ 1000) (hG:∀ k,k < l.length → ACall Try.prog G (.agg 3 (cLaw (l.getD k lw0)) :: []) [] (fun r h=>r = .bool (q (l.getD k lw0)) ∧ h = [])):ACall Try.prog 79 [aLaws z e l,.fn 71 1 (ofL [iFn (.fn G 0 (ofL []))])] [] (fun r h=>r = AI (idxP l.length (fun k=>!q (l.getD k lw0)) l.length 0) ∧ h = []):=by
 (refine fcall_of mixed Try.func79 rfl (by decide) (hs:={}) ?k (ac:=?ac) ?c (rs:=?rs) ?r ?l ?H;(case k=>kernel_rfl);(case c=>(conv=>(lhs;cbv)));(case r=>(conv=>(lhs;cbv)));(case l=>exact Nat.le_of_ble_eq_true rfl))
 (repeat' ((try conv=>whnf);first|(with_reducible first|refine wT ?_|refine wF ?_|(refine wI (fun hq=>?_) (fun hq=>?_) <;> try simp only [zA,zE,zD,zJ,zB,zI,wK,wL] at hq)|refine wA ?_|refine wB ?_|refine wC ?_|refine wD ?_|refine wE ?_)|((with_reducible refine wN ?_ ?_);focus exact needA)|(with_reducible refine wG ?_)|(with_reducible refine wP ?_)))
 all_goals (try conv=>whnf)
 refine FLoop.of (ACalls.mono _) (X:=Nat) (fun k=>[(0,aLaws z e l),(1,.fn 71 1 (ofL [iFn (.fn G 0 (ofL []))])),(7,AI l.length),(8,AI k)]) (fun _=>[]) (fun k=>k ≤ l.length ∧ idxP l.length (fun k=>!q (l.getD k lw0)) l.length 0 = idxP l.length (fun k=>!q (l.getD k lw0)) (l.length - k) k) (fun k=>l.length - k) 0 ⟨⟨Nat.zero_le _,rfl⟩,[],Cut.A,allA⟩ ?_
 rintro k ⟨hk,hL⟩
 by_cases hlt:k < l.length
 ·obtain ⟨m,hm⟩:∃ m,l.length - k = m + 1:=⟨l.length - k - 1,by omega⟩
  rw [hm,idxP] at hL
  (repeat' ((try conv=>whnf);first|(with_reducible first|refine wT ?_|refine wF ?_|(refine wI (fun hq=>?_) (fun hq=>?_) <;> try simp only [zA,zE,zD,zJ,zB,zI,wK,wL] at hq)|refine wA ?_|refine wB ?_|refine wC ?_|refine wD ?_|refine wE ?_)|((with_reducible refine wN ?_ ?_);focus exact needA)|(with_reducible refine wG ?_)|(refine FCall.pure ((ev1_law z e G l q k (hG k hlt))) ⟨Ln.sameB _ rfl,Ln.sameB _ rfl,True.intro⟩ rfl ?_)|(with_reducible refine wP ?_)))
  all_goals (try conv=>whnf)
  ·(refine ⟨⟨_,[],[],Cut.nil _,Ln.sameB _ rfl,?_,rfl⟩⟩)
   rw [hL,if_pos (by simpa using hq)]
  ·(exact ⟨⟨(k + 1),⟨hlt,by rw [hL,if_neg (by simpa using hq),show l.length - (k + 1) = m by omega]⟩,by show _ < _;omega,[],Cut.A,allA⟩⟩)
 ·rw [show l.length - k = 0 by omega,idxP] at hL
  (repeat' ((try conv=>whnf);first|(with_reducible first|refine wT ?_|refine wF ?_|(refine wI (fun hq=>?_) (fun hq=>?_) <;> try simp only [zA,zE,zD,zJ,zB,zI,wK,wL] at hq)|refine wA ?_|refine wB ?_|refine wC ?_|refine wD ?_|refine wE ?_)|((with_reducible refine wN ?_ ?_);focus exact needA)|(with_reducible refine wG ?_)|(with_reducible refine wP ?_)))
  all_goals (try conv=>whnf)
  (refine ⟨⟨_,[],[],Cut.nil _,Ln.sameB _ rfl,?_,rfl⟩⟩)
  rw [hL]
theorem cont_law (z e:Bool) (G:FuncId) (l:List LawT) (q:LawT → Bool) (hl:l.length ≤ 1000) (hG:∀ k,k < l.length → ACall Try.prog G (.agg 3 (cLaw (l.getD k lw0)) :: []) [] (fun r h=>r = .bool (q (l.getD k lw0)) ∧ h = [])):ACall Try.prog 70 [aLaws z e l,.fn 71 1 (ofL [iFn (.fn G 0 (ofL []))])] [] (fun r h=>r = .bool (decide (0 ≤ idxP l.length (fun k=>!q (l.getD k lw0)) l.length 0)) ∧ h = []):=by
 (refine fcall_of mixed Try.func70 rfl (by decide) (hs:={}) ?k (ac:=?ac) ?c (rs:=?rs) ?r ?l ?H;(case k=>kernel_rfl);(case c=>(conv=>(lhs;cbv)));(case r=>(conv=>(lhs;cbv)));(case l=>exact Nat.le_of_ble_eq_true rfl))
 (repeat' ((try conv=>whnf);first|(with_reducible first|refine wT ?_|refine wF ?_|(refine wI (fun hq=>?_) (fun hq=>?_) <;> try simp only [zA,zE,zD,zJ,zB,zI,wK,wL] at hq)|refine wA ?_|refine wB ?_|refine wC ?_|refine wD ?_|refine wE ?_)|((with_reducible refine wN ?_ ?_);focus exact needA)|(with_reducible refine wG ?_)|(refine FCall.pure ((idx_law z e G l q hl hG)) ⟨Ln.sameB _ rfl,Ln.sameB _ rfl,True.intro⟩ rfl ?_)|(with_reducible refine wP ?_)))
 all_goals (try conv=>whnf)
 all_goals (refine ⟨⟨_,[],[],Cut.nil _,Ln.sameB _ rfl,?_,rfl⟩⟩)
 all_goals rfl
theorem every_law (z e:Bool) (G:FuncId) (l:List LawT) (q:LawT → Bool) (hl:l.length ≤ 1000) (hG:∀ k,k < l.length → ACall Try.prog G (.agg 3 (cLaw (l.getD k lw0)) :: []) [] (fun r h=>r = .bool (q (l.getD k lw0)) ∧ h = [])):ACall Try.prog 56 [aLaws z e l,(.fn G 0 (ofL []))] [] (fun r h=>r = .bool (l.all q) ∧ h = []):=by
 (refine fcall_of mixed Try.func56 rfl (by decide) (hs:={ pub:=[1] }) ?k (ac:=?ac) ?c (rs:=?rs) ?r ?l ?H;(case k=>kernel_rfl);(case c=>(conv=>(lhs;cbv)));(case r=>(conv=>(lhs;cbv)));(case l=>exact Nat.le_of_ble_eq_true rfl))
 (repeat' ((try conv=>whnf);first|(with_reducible first|refine wT ?_|refine wF ?_|(refine wI (fun hq=>?_) (fun hq=>?_) <;> try simp only [zA,zE,zD,zJ,zB,zI,wK,wL] at hq)|refine wA ?_|refine wB ?_|refine wC ?_|refine wD ?_|refine wE ?_)|((with_reducible refine wN ?_ ?_);focus exact needA)|(with_reducible refine wG ?_)|(with_reducible refine wP ?_)))
 all_goals (try conv=>whnf)
 refine FWk.of [(0,aLaws z e l),(3,iFn (.fn G 0 (ofL [])))] [] [] (Cut.nil _) ⟨Ln.A,Ln.boxP (m:=1) (goneB rfl) rfl ⟨True.intro,Ln.sameB _ rfl⟩ rfl,True.intro⟩ ?_
 (repeat' ((try conv=>whnf);first|(with_reducible first|refine wT ?_|refine wF ?_|(refine wI (fun hq=>?_) (fun hq=>?_) <;> try simp only [zA,zE,zD,zJ,zB,zI,wK,wL] at hq)|refine wA ?_|refine wB ?_|refine wC ?_|refine wD ?_|refine wE ?_)|((with_reducible refine wN ?_ ?_);focus exact needA)|(with_reducible refine wG ?_)|(refine FCall.pure ((cont_law z e G l q hl hG)) ⟨Ln.sameB _ rfl,Ln.sameB _ rfl,True.intro⟩ rfl ?_)|(with_reducible refine wP ?_)))
 all_goals (try conv=>whnf)
 (refine ⟨⟨_,[],[],Cut.nil _,Ln.sameB _ rfl,?_,rfl⟩⟩)
 rw [all_idx]
abbrev fLev : AV:=.fn 48 0 (ofL [])
abbrev fCli : AV:=.fn 50 0 (ofL [])
theorem lev_ok (n:Int):ACall Try.prog 48 [AI n] [] (fun r h=>r = .bool (inB n 0 5) ∧ h = []):=by
 (refine fcall_of mixed Try.func48 rfl (by decide) (hs:={}) ?k (ac:=?ac) ?c (rs:=?rs) ?r ?l ?H;(case k=>kernel_rfl);(case c=>(conv=>(lhs;cbv)));(case r=>(conv=>(lhs;cbv)));(case l=>exact Nat.le_of_ble_eq_true rfl))
 (repeat' ((try conv=>whnf);first|(with_reducible first|refine wT ?_|refine wF ?_|(refine wI (fun hq=>?_) (fun hq=>?_) <;> try simp only [zA,zE,zD,zJ,zB,zI,wK,wL] at hq)|refine wA ?_|refine wB ?_|refine wC ?_|refine wD ?_|refine wE ?_)|((with_reducible refine wN ?_ ?_);focus exact needA)|(with_reducible refine wG ?_)|(refine FCall.pure ((pwithin_ok _ _ _)) ⟨Ln.sameB _ rfl,Ln.sameB _ rfl,Ln.sameB _ rfl,True.intro⟩ rfl ?_)|(with_reducible refine wP ?_)))
 all_goals (try conv=>whnf)
 (refine ⟨⟨_,[],[],Cut.nil _,Ln.sameB _ rfl,?_,rfl⟩⟩)
 rfl
theorem cli_ok (n:Int):ACall Try.prog 50 [AI n] [] (fun r h=>r = .bool (inB n 0 99) ∧ h = []):=by
 (refine fcall_of mixed Try.func50 rfl (by decide) (hs:={}) ?k (ac:=?ac) ?c (rs:=?rs) ?r ?l ?H;(case k=>kernel_rfl);(case c=>(conv=>(lhs;cbv)));(case r=>(conv=>(lhs;cbv)));(case l=>exact Nat.le_of_ble_eq_true rfl))
 (repeat' ((try conv=>whnf);first|(with_reducible first|refine wT ?_|refine wF ?_|(refine wI (fun hq=>?_) (fun hq=>?_) <;> try simp only [zA,zE,zD,zJ,zB,zI,wK,wL] at hq)|refine wA ?_|refine wB ?_|refine wC ?_|refine wD ?_|refine wE ?_)|((with_reducible refine wN ?_ ?_);focus exact needA)|(with_reducible refine wG ?_)|(refine FCall.pure ((pwithin_ok _ _ _)) ⟨Ln.sameB _ rfl,Ln.sameB _ rfl,Ln.sameB _ rfl,True.intro⟩ rfl ?_)|(with_reducible refine wP ?_)))
 all_goals (try conv=>whnf)
 (refine ⟨⟨_,[],[],Cut.nil _,Ln.sameB _ rfl,?_,rfl⟩⟩)
 rfl
theorem lan_ok (f:CFl) (c:Crew) (n:Int) (h:2 ≤ c.langs ∧ c.langs ≤ 5):ACall Try.prog 54 [AI n,.ip 3 (cCrew f c) 0] [] (fun r h=>r = .bool (inB n 0 (c.langs - 1)) ∧ h = []):=by
 (refine fcall_of mixed Try.func54 rfl (by decide) (hs:={}) ?k (ac:=?ac) ?c (rs:=?rs) ?r ?l ?H;(case k=>kernel_rfl);(case c=>(conv=>(lhs;cbv)));(case r=>(conv=>(lhs;cbv)));(case l=>exact Nat.le_of_ble_eq_true rfl))
 (repeat' ((try conv=>whnf);first|(with_reducible first|refine wT ?_|refine wF ?_|(refine wI (fun hq=>?_) (fun hq=>?_) <;> try simp only [zA,zE,zD,zJ,zB,zI,wK,wL] at hq)|refine wA ?_|refine wB ?_|refine wC ?_|refine wD ?_|refine wE ?_)|((with_reducible refine wN ?_ ?_);focus exact needA)|(with_reducible refine wG ?_)|(refine FCall.pure ((pwithin_ok _ _ _)) ⟨Ln.sameB _ rfl,Ln.sameB _ rfl,Ln.sameB _ rfl,True.intro⟩ rfl ?_)|(with_reducible refine wP ?_)))
 all_goals (try conv=>whnf)
 (refine ⟨⟨_,[],[],Cut.nil _,Ln.sameB _ rfl,?_,rfl⟩⟩)
 rfl
theorem lawc_ok (x:LawT):ACall Try.prog 53 [.agg 3 (cLaw x)] [] (fun r h=>r = .bool (LawT.ok x) ∧ h = []):=by
 (refine fcall_of mixed Try.func53 rfl (by decide) (hs:={}) ?k (ac:=?ac) ?c (rs:=?rs) ?r ?l ?H;(case k=>kernel_rfl);(case c=>(conv=>(lhs;cbv)));(case r=>(conv=>(lhs;cbv)));(case l=>exact Nat.le_of_ble_eq_true rfl))
 (repeat' ((try conv=>whnf);first|(with_reducible first|refine wT ?_|refine wF ?_|(refine wI (fun hq=>?_) (fun hq=>?_) <;> try simp only [zA,zE,zD,zJ,zB,zI,wK,wL] at hq)|refine wA ?_|refine wB ?_|refine wC ?_|refine wD ?_|refine wE ?_)|((with_reducible refine wN ?_ ?_);focus exact needA)|(with_reducible refine wG ?_)|(refine FCall.pure ((pwithin_ok _ _ _)) ⟨Ln.sameB _ rfl,Ln.sameB _ rfl,Ln.sameB _ rfl,True.intro⟩ rfl ?_)|(with_reducible refine wP ?_)))
 all_goals (try conv=>whnf)
 all_goals
  (refine ⟨⟨_,[],[],Cut.nil _,Ln.sameB _ rfl,?_,rfl⟩⟩)
  unfold LawT.ok
  (exact avB)
theorem perc_ok (f:CFl) (c:Crew) (g:PFl) (p:Person) (h1:p.levels.length ≤ 1000 ∨ (p.levels.length:Int) ≠ c.langs):ACall Try.prog 51 [.agg 6 (cPerson g p),.ip 3 (cCrew f c) 0,iFn fLev,iFn fCli] [] (fun r h=>r = .bool (Person.ok c.langs p) ∧ h = []):=by
 (refine fcall_of mixed Try.func51 rfl (by decide) (hs:={}) ?k (ac:=?ac) ?c (rs:=?rs) ?r ?l ?H;(case k=>kernel_rfl);(case c=>(conv=>(lhs;cbv)));(case r=>(conv=>(lhs;cbv)));(case l=>exact Nat.le_of_ble_eq_true rfl))
 (repeat' ((try conv=>whnf);first|(with_reducible first|refine wT ?_|refine wF ?_|(refine wI (fun hq=>?_) (fun hq=>?_) <;> try simp only [zA,zE,zD,zJ,zB,zI,wK,wL] at hq)|refine wA ?_|refine wB ?_|refine wC ?_|refine wD ?_|refine wE ?_)|((with_reducible refine wN ?_ ?_);focus exact needA)|(with_reducible refine wG ?_)|(refine FCall.pure ((pwithin_ok _ _ _)) ⟨Ln.sameB _ rfl,Ln.sameB _ rfl,Ln.sameB _ rfl,True.intro⟩ rfl ?_)|(refine FCall.pure ((every_int _ _ _ p.levels (fun n=>inB n 0 5) (by omega) (fun k _=>lev_ok _))) ⟨Ln.sameB _ rfl,Ln.sameB _ rfl,True.intro⟩ rfl ?_)|(refine FCall.pure ((every_int _ _ _ p.ties (fun n=>inB n 0 99) (by omega) (fun k _=>cli_ok _))) ⟨Ln.sameB _ rfl,Ln.sameB _ rfl,True.intro⟩ rfl ?_)|(with_reducible refine wP ?_)))
 all_goals (try conv=>whnf)
 all_goals
  (refine ⟨⟨_,[],[],Cut.nil _,Ln.sameB _ rfl,?_,rfl⟩⟩)
  unfold Person.ok
  refine bool_eq ?_
  rw [Bool.eq_iff_iff]
  generalize (p.levels.all fun n=>inB n 0 5) = A at *
  generalize (p.ties.all fun n=>inB n 0 99) = B at *
  simp only [inB,Bool.and_eq_true,decide_eq_true_eq,Bool.false_eq_true,false_iff,iff_false,true_iff,iff_true]
  cases A <;> cases B <;> first|omega|(simp only [Bool.false_eq_true,and_false,false_and,not_false_eq_true,and_true,true_and,not_true_eq_false,reduceCtorEq] at *;done)|(simp only [Bool.false_eq_true,and_false,false_and,not_false_eq_true,and_true,true_and,not_true_eq_false,reduceCtorEq] at *;omega)
end Go.Proofs.Ytdipcdallenmkaa

namespace Go.Proofs.Ytdipcdallenmkaa
open Go.RowKit

abbrev fPer (f:CFl) (c:Crew):AV:=.fn 51 3 (ofL [.ip 3 (cCrew f c) 0,iFn fLev,iFn fCli])
abbrev fLan (f:CFl) (c:Crew):AV:=.fn 54 1 (ofL [.ip 3 (cCrew f c) 0])
theorem checkT_30 {c:Crew} {j:Job} (h:c.ok = false):checkT c j = 30:=by unfold checkT;rw [h];rfl
theorem checkT_31 {c:Crew} {j:Job} (h:c.ok = true) (k:Job.ok c j = false):checkT c j = 31:=by unfold checkT;rw [h,k];rfl
theorem crew_n1 {c:Crew} (h:c.ok = true) (k:c.people.all (Person.ok c.langs) = false):False:=by
 simp only [Crew.ok,Bool.and_eq_true] at h;rw [h.1.2] at k;cases k
theorem crew_n2 {c:Crew} (h:c.ok = true) (k:c.laws.all LawT.ok = false):False:=by
 simp only [Crew.ok,Bool.and_eq_true] at h;rw [h.2] at k;cases k
theorem crew_y {c:Crew} (h1:2 ≤ c.langs ∧ c.langs ≤ 5) (h2:c.people.length ≤ 8) (h3:c.laws.length = 4) (h4:c.people.all (Person.ok c.langs) = true) (h5:c.laws.all LawT.ok = true):c.ok = true:=by
 simp only [Crew.ok,inB,Bool.and_eq_true,decide_eq_true_eq]
 exact ⟨⟨⟨⟨h1,h2⟩,h3⟩,h4⟩,h5⟩
set_option maxHeartbeats 4000000
set_option maxRecDepth 100000
theorem check_ok (f:CFl) (c:Crew) (j:Job):ACall Try.prog 24 [aCrew f c,aJob j] [] (fun r h=>r = AI (checkT c j) ∧ h = []):=by
 (refine fcall_of mixed Try.func24 rfl (by decide) (hs:={ pub:=[6] }) ?k (ac:=?ac) ?c (rs:=?rs) ?r ?l ?H;(case k=>kernel_rfl);(case c=>(conv=>(lhs;cbv)));(case r=>(conv=>(lhs;cbv)));(case l=>exact Nat.le_of_ble_eq_true rfl))
 (repeat' ((try conv=>whnf);first|(with_reducible first|refine wT ?_|refine wF ?_|(refine wI (fun hq=>?_) (fun hq=>?_) <;> try simp only [zA,zE,zD,zJ,zB,zI,wK,wL] at hq)|refine wA ?_|refine wB ?_|refine wC ?_|refine wD ?_|refine wE ?_)|((with_reducible refine wN ?_ ?_);focus exact needA)|(with_reducible refine wG ?_)|(with_reducible refine wP ?_)))
 all_goals (try conv=>whnf)
 refine FWk.of [(2,.ip 3 (cCrew f c) 0),(3,.ip 6 (cJob j) 0),(6,iFn fCli),(7,fPer f c),(8,.fn 53 0 (ofL [])),(9,fLan f c)] [] [] (Cut.nil _) ⟨Ln.boxP (m:=3) (goneB rfl) rfl ⟨⟨⟨True.intro,Ln.A⟩,Ln.A⟩,Ln.A⟩ rfl,Ln.boxP (m:=6) (goneB rfl) rfl ⟨⟨⟨⟨⟨⟨True.intro,Ln.A⟩,Ln.A⟩,Ln.A⟩,Ln.A⟩,Ln.A⟩,Ln.A⟩ rfl,Ln.boxP (m:=1) (goneB rfl) rfl ⟨True.intro,Ln.A⟩ rfl,Ln.fnN ⟨⟨⟨True.intro,Ln.boxP (m:=3) (goneB rfl) rfl ⟨⟨⟨True.intro,Ln.A⟩,Ln.A⟩,Ln.A⟩ rfl⟩,Ln.boxP (m:=1) (goneB rfl) rfl ⟨True.intro,Ln.A⟩ rfl⟩,Ln.boxP (m:=1) (goneB rfl) rfl ⟨True.intro,Ln.A⟩ rfl⟩,Ln.A,Ln.fnN ⟨True.intro,Ln.boxP (m:=3) (goneB rfl) rfl ⟨⟨⟨True.intro,Ln.A⟩,Ln.A⟩,Ln.A⟩ rfl⟩,True.intro⟩ ?_
 (repeat' ((try conv=>whnf);first|(with_reducible first|refine wT ?_|refine wF ?_|(refine wI (fun hq=>?_) (fun hq=>?_) <;> try simp only [zA,zE,zD,zJ,zB,zI,wK,wL] at hq)|refine wA ?_|refine wB ?_|refine wC ?_|refine wD ?_|refine wE ?_)|((with_reducible refine wN ?_ ?_);focus exact needA)|(with_reducible refine wG ?_)|(refine FCall.pure ((pwithin_ok _ _ _)) ⟨Ln.sameB _ rfl,Ln.sameB _ rfl,Ln.sameB _ rfl,True.intro⟩ rfl ?_)|(refine FCall.pure ((every_per _ _ f.pf 51 f c c.people (Person.ok c.langs) (by omega) (fun k _=>perc_ok f c (f.pf k) _ (by omega)))) ⟨Ln.sameB _ rfl,Ln.sameB _ rfl,True.intro⟩ rfl ?_)|(refine FCall.pure ((every_law _ _ 53 c.laws LawT.ok (by omega) (fun k _=>lawc_ok _))) ⟨Ln.sameB _ rfl,Ln.sameB _ rfl,True.intro⟩ rfl ?_)|(refine FCall.pure ((lan_ok f c _ (by omega))) ⟨Ln.sameB _ rfl,Ln.sameB _ rfl,True.intro⟩ rfl ?_)|(refine FCall.pure ((cli_ok _)) ⟨Ln.sameB _ rfl,True.intro⟩ rfl ?_)|(with_reducible refine wP ?_)))
 all_goals (try conv=>whnf)
 all_goals
  (refine ⟨⟨_,[],[],Cut.nil _,Ln.sameB _ rfl,?_,rfl⟩⟩)
  refine int_eq ?_
  first
   | exact (checkT_30 (not_of fun h=>by simp only [Crew.ok,inB,Bool.and_eq_true,decide_eq_true_eq] at h;omega)).symm
   | exact (checkT_30 (not_of fun h=>crew_n1 h (by assumption))).symm
   | exact (checkT_30 (not_of fun h=>crew_n2 h (by assumption))).symm
   | exact (checkT_31 (crew_y (by omega) (by omega) (by omega) (by assumption) (by assumption)) (not_of fun h=>by simp only [Job.ok,inB,Bool.and_eq_true,decide_eq_true_eq] at h;omega)).symm
   | exact (checkT_0.2 ⟨crew_y (by omega) (by omega) (by omega) (by assumption) (by assumption),by simp only [Job.ok,inB,Bool.and_eq_true,decide_eq_true_eq];omega⟩).symm
   | fail
theorem open_ok (f:CFl) (c:Crew) (j:Job):ACall Try.prog 38 [aCrew f c,aJob j] [] (fun r h=>r = (if checkT c j = 0 then .tup 2 (ofL [pTask f c j (lawOf c j),AI 0]) else .tup 2 (ofL [.nilp,AI (checkT c j)])) ∧ h = []):=by
 (refine fcall_of mixed Try.func38 rfl (by decide) (hs:={}) ?k (ac:=?ac) ?c (rs:=?rs) ?r ?l ?H;(case k=>kernel_rfl);(case c=>(conv=>(lhs;cbv)));(case r=>(conv=>(lhs;cbv)));(case l=>exact Nat.le_of_ble_eq_true rfl))
 (repeat' ((try conv=>whnf);first|(with_reducible first|refine wT ?_|refine wF ?_|(refine wI (fun hq=>?_) (fun hq=>?_) <;> try simp only [zA,zE,zD,zJ,zB,zI,wK,wL] at hq)|refine wA ?_|refine wB ?_|refine wC ?_|refine wD ?_|refine wE ?_)|((with_reducible refine wN ?_ ?_);focus exact needA)|(with_reducible refine wG ?_)|(refine FCall.pure ((check_ok _ _ _)) ⟨Ln.sameB _ rfl,Ln.sameB _ rfl,True.intro⟩ rfl ?_)|(with_reducible refine wP ?_)))
 all_goals (try conv=>whnf)
 ·(refine ⟨⟨_,[],[],Cut.nil _,Ln.sameB _ rfl,?_,rfl⟩⟩)
  rw [if_neg hq];rfl
 ·obtain ⟨hc,hj⟩:=checkT_0.1 hq
  obtain ⟨d1,d2,d3,d4,d5⟩:=crew_d hc
  obtain ⟨j1,j2,j3,j4,j5,j6,j7⟩:=job_d hj
  (repeat' ((try conv=>whnf);first|(with_reducible first|refine wT ?_|refine wF ?_|(refine wI (fun hq=>?_) (fun hq=>?_) <;> try simp only [zA,zE,zD,zJ,zB,zI,wK,wL] at hq)|refine wA ?_|refine wB ?_|refine wC ?_|refine wD ?_|refine wE ?_)|((with_reducible refine wN ?_ ?_);focus exact needA)|(with_reducible refine wG ?_)|(with_reducible refine wP ?_)))
  all_goals (try conv=>whnf)
  rw [if_pos hq]
  exact ⟨⟨.tup 2 (ofL [pTask f c j (lawOf c j),AI 0]),[],[],Cut.nil _,Ln.tupN ⟨⟨True.intro,Ln.boxP (m:=12) (goneB rfl) rfl ⟨⟨⟨⟨⟨⟨⟨⟨⟨⟨⟨⟨True.intro,Ln.A⟩,Ln.A⟩,Ln.A⟩,Ln.A⟩,Ln.A⟩,Ln.A⟩,Ln.A⟩,Ln.A⟩,Ln.A⟩,Ln.A⟩,Ln.A⟩,Ln.A⟩ rfl⟩,Ln.A⟩,rfl,rfl⟩⟩
theorem open_y (f:CFl) (c:Crew) (j:Job) (h:checkT c j = 0):ACall Try.prog 38 [aCrew f c,aJob j] [] (fun r h=>r = .tup 2 (ofL [pTask f c j (lawOf c j),AI 0]) ∧ h = []):=by
 have:=open_ok f c j
 rwa [if_pos h] at this
theorem open_n (f:CFl) (c:Crew) (j:Job) (h:checkT c j ≠ 0):ACall Try.prog 38 [aCrew f c,aJob j] [] (fun r h=>r = .tup 2 (ofL [.nilp,AI (checkT c j)]) ∧ h = []):=by
 have:=open_ok f c j
 rwa [if_neg h] at this
theorem team_n (f:CFl) (c:Crew) (j:Job) (m:Int) (h:checkT c j ≠ 0):ACall Try.prog 44 [aCrew f c,aJob j,AI m] [] (fun r h=>r = .tup 2 (ofL [.nilp,AI (checkTm c j m)]) ∧ h = []):=by
 rw [checkTm_c h]
 (refine fcall_of mixed Try.func44 rfl (by decide) (hs:={}) ?k (ac:=?ac) ?c (rs:=?rs) ?r ?l ?H;(case k=>kernel_rfl);(case c=>(conv=>(lhs;cbv)));(case r=>(conv=>(lhs;cbv)));(case l=>exact Nat.le_of_ble_eq_true rfl))
 (repeat' ((try conv=>whnf);first|(with_reducible first|refine wT ?_|refine wF ?_|(refine wI (fun hq=>?_) (fun hq=>?_) <;> try simp only [zA,zE,zD,zJ,zB,zI,wK,wL] at hq)|refine wA ?_|refine wB ?_|refine wC ?_|refine wD ?_|refine wE ?_)|((with_reducible refine wN ?_ ?_);focus exact needA)|(with_reducible refine wG ?_)|(refine FCall.pure ((open_n _ _ _ h)) ⟨Ln.sameB _ rfl,Ln.sameB _ rfl,True.intro⟩ rfl ?_)|(with_reducible refine wP ?_)))
 all_goals (try conv=>whnf)
 (refine ⟨⟨_,[],[],Cut.nil _,Ln.sameB _ rfl,?_,rfl⟩⟩)
 rfl
theorem team_y (f:CFl) (c:Crew) (j:Job) (m:Int) (h:checkT c j = 0):ACall Try.prog 44 [aCrew f c,aJob j,AI m] [] (fun r h=>r = .tup 2 (ofL [pTask f c j (lawOf c j),AI (checkTm c j m)]) ∧ h = []):=by
 have hd:=(crew_d (checkT_0.1 h).1).2.1
 have hp:=pow_le hd
 (refine fcall_of mixed Try.func44 rfl (by decide) (hs:={}) ?k (ac:=?ac) ?c (rs:=?rs) ?r ?l ?H;(case k=>kernel_rfl);(case c=>(conv=>(lhs;cbv)));(case r=>(conv=>(lhs;cbv)));(case l=>exact Nat.le_of_ble_eq_true rfl))
 (repeat' ((try conv=>whnf);first|(with_reducible first|refine wT ?_|refine wF ?_|(refine wI (fun hq=>?_) (fun hq=>?_) <;> try simp only [zA,zE,zD,zJ,zB,zI,wK,wL] at hq)|refine wA ?_|refine wB ?_|refine wC ?_|refine wD ?_|refine wE ?_)|((with_reducible refine wN ?_ ?_);focus exact needA)|(with_reducible first|refine FBit.hasT rfl (by assumption) ?_|refine FBit.hasF rfl (by assumption) ?_|refine FBit.shrN rfl (by omega) ?_|refine FBit.half rfl ?_|refine FBit.shl1 rfl (by omega) ?_|refine Fits.inU (by omega) ?_|refine FBit.shrNI rfl (by omega) ?_|refine FBit.shrIN rfl (by omega) (by omega) ?_|refine FBit.shrI rfl (by omega) (by omega) ?_|refine FBit.shl1I rfl (by omega) ?_)|(with_reducible refine FBit.has rfl (fun hq=>?_) (fun hq=>?_))|(with_reducible first|refine FBit.and1 rfl ?_|refine FBit.andN rfl (by omega) (by omega) ?_|refine FBit.orN rfl (by omega) (by omega) ?_|refine FBit.andNotN rfl (by omega) (by omega) ?_)|(with_reducible refine wG ?_)|(refine FCall.pure ((open_y _ _ _ h)) ⟨Ln.sameB _ rfl,Ln.sameB _ rfl,True.intro⟩ rfl ?_)|(refine FCall.pure ((pwithin_ok _ _ _)) ⟨Ln.sameB _ rfl,Ln.sameB _ rfl,Ln.sameB _ rfl,True.intro⟩ rfl ?_)|(with_reducible refine wP ?_)))
 all_goals (try conv=>whnf)
 all_goals (refine ⟨⟨_,[],[],Cut.nil _,Ln.sameB _ rfl,?_,rfl⟩⟩)
 all_goals first|(rw [checkTm_t h (by unfold isTeamT;simp only [inB,decide_eq_true_eq];exact hq)];rfl)|(rw [checkTm_f h (by unfold isTeamT;simp only [inB,decide_eq_false_iff_not];exact hq)];rfl)
end Go.Proofs.Ytdipcdallenmkaa

namespace Go.Proofs.Ytdipcdallenmkaa
open Go.RowKit

theorem any_idx {q:Int → Bool} {l:List Int}:decide (0 ≤ idxP l.length (fun k=>q (l.getD k 0)) l.length 0) = l.any q:=by
 rw [Bool.eq_iff_iff]
 simp only [decide_eq_true_eq,idxP_any,List.any_eq_true]
 constructor
 ·rintro ⟨j,_,hj,h⟩
  have hj:j < l.length:=by omega
  exact ⟨l[j],List.getElem_mem hj,by simpa [List.getD,List.getElem?_eq_getElem hj] using h⟩
 ·rintro ⟨x,hx,h⟩
  obtain ⟨k,hk,rfl⟩:=List.getElem_of_mem hx
  exact ⟨k,by omega,by omega,by simpa [List.getD,List.getElem?_eq_getElem hk] using h⟩
def perms3 : List (List Nat):=[[0,1,2],[0,2,1],[1,0,2],[1,2,0],[2,0,1],[2,1,0]]
abbrev Lof (X:Nat → Int) (r:List Nat):List (List Int × AV):=r.map fun (k:Nat)=>([(k:Int)],AI (X k))
theorem Lof_get {X:Nat → Int} {r:List Nat} {i:Nat} (h:i < r.length):(Lof X r).getD i default = ([((r.getD i 0:Nat):Int)],AI (X (r.getD i 0))):=by
 simp [List.getD,h]
theorem perms_d {r:List Nat} (h:r ∈ perms3):r.length = 3 ∧ ∀ i,i < 3 → r.getD i 0 < 3:=by
 simp only [perms3,List.mem_cons,List.not_mem_nil,or_false] at h
 rcases h with rfl|rfl|rfl|rfl|rfl|rfl
 all_goals exact ⟨rfl,fun i hi=>by rcases (show i = 0 ∨ i = 1 ∨ i = 2 by omega) with rfl|rfl|rfl <;> decide⟩
theorem pow3 {k:Nat} (h:k < 3):2 ^ k < 8:=by rcases (show k = 0 ∨ k = 1 ∨ k = 2 by omega) with rfl|rfl|rfl <;> decide
theorem nodup_snoc {s:List Nat} {i:Nat} (h:s.Nodup) (hn:¬ i ∈ s):(s ++ [i]).Nodup:=by
 rw [List.nodup_append]
 refine ⟨h,by simp,fun a ha b hb e=>?_⟩
 rw [List.mem_singleton] at hb
 subst hb;subst e;exact hn ha
theorem seen_lt {s:List Nat} {i:Nat} (h:∀ x ∈ s,x < 3) (hi:i < 3):∀ x ∈ s ++ [i],x < 3:=fun x hx=>by
 rcases List.mem_append.1 hx with hx|hx
 ·exact h x hx
 ·rw [List.mem_singleton] at hx;omega
theorem inv0 {r:List Nat} {b:Nat → Nat} (h:r ∈ perms3):r ∈ perms3 ∧ ([]:List Nat).Nodup ∧ (∀ i ∈ ([]:List Nat),i < 3) ∧ 0 = orL (([]:List Nat).map fun i=>b (r.getD i 0)) ∧ 0 < 8:=⟨h,List.nodup_nil,(fun i hi=>by cases hi),rfl,by decide⟩
def bitX (X:Nat → Int) (k:Nat):Nat:=if X k = 0 then 2 ^ k else 0
theorem bitX_lt {X:Nat → Int} {k:Nat} (h:k < 3):bitX X k < 8:=by
 unfold bitX
 rcases (show k = 0 ∨ k = 1 ∨ k = 2 by omega) with rfl|rfl|rfl <;> split <;> decide
theorem orL_snoc : ∀ (l:List Nat) (x:Nat),orL (l ++ [x]) = orL l ||| x
 | [],x=>by simp [orL]
 | y :: l,x=>by simp only [List.cons_append,orL,orL_snoc l x,Nat.or_assoc]
theorem seen_all {s:List Nat} {r:List Nat} {b:Nat → Nat} (hr:r ∈ perms3) (h1:s.length = 3) (h2:s.Nodup) (h3:∀ i ∈ s,i < 3):orL (s.map fun i=>b (r.getD i 0)) = b 0 ||| b 1 ||| b 2:=by
 match s,h1 with
 | [x,y,z],_ =>
  simp only [List.nodup_cons,List.mem_cons,List.not_mem_nil,or_false,not_or] at h2
  have hx:=h3 x (by simp)
  have hy:=h3 y (by simp)
  have hz:=h3 z (by simp)
  clear h3
  have hc:(x = 0 ∧ y = 1 ∧ z = 2) ∨ (x = 0 ∧ y = 2 ∧ z = 1) ∨ (x = 1 ∧ y = 0 ∧ z = 2) ∨ (x = 1 ∧ y = 2 ∧ z = 0) ∨ (x = 2 ∧ y = 0 ∧ z = 1) ∨ (x = 2 ∧ y = 1 ∧ z = 0):=by omega
  simp only [perms3,List.mem_cons,List.not_mem_nil,or_false] at hr
  rcases hc with ⟨rfl,rfl,rfl⟩|⟨rfl,rfl,rfl⟩|⟨rfl,rfl,rfl⟩|⟨rfl,rfl,rfl⟩|⟨rfl,rfl,rfl⟩|⟨rfl,rfl,rfl⟩
  all_goals rcases hr with rfl|rfl|rfl|rfl|rfl|rfl
  all_goals
   simp only [List.map_cons,List.map_nil,orL,Nat.or_zero,List.getD_cons_zero,List.getD_cons_succ]
   ac_rfl
/-- What a person keeps of the rules for each member alone: 0 or 1. -/
def keepX (p:Person) (j:Job):Nat → Int
 | 0=>if !tiedT p j.client then 1 else 0
 | 1=>((p.fields.toNat >>> j.field.toNat % 2:Nat):Int)
 | _=>((p.clears.toNat >>> j.kind.toNat % 2:Nat):Int)
theorem keep_alone (p:Person) (j:Job):bitX (keepX p j) 0 ||| bitX (keepX p j) 1 ||| bitX (keepX p j) 2 = alone3 p j:=by
 unfold alone3 bitX
 simp only [keepX,bit_mod]
 cases tiedT p j.client <;> cases p.fields.toNat.testBit j.field.toNat <;> cases p.clears.toNat.testBit j.kind.toNat <;> rfl
set_option maxHeartbeats 4000000
set_option maxRecDepth 100000
theorem index_ok (z e:Bool) (l:List Int) (n:Int) (hl:l.length ≤ 1000):ACall Try.prog 80 [aInts z e l,AI n] [] (fun r h=>r = AI (idxP l.length (fun k=>decide (l.getD k 0 = n)) l.length 0) ∧ h = []):=by
 (refine fcall_of mixed Try.func80 rfl (by decide) (hs:={}) ?k (ac:=?ac) ?c (rs:=?rs) ?r ?l ?H;(case k=>kernel_rfl);(case c=>(conv=>(lhs;cbv)));(case r=>(conv=>(lhs;cbv)));(case l=>exact Nat.le_of_ble_eq_true rfl))
 (repeat' ((try conv=>whnf);first|(with_reducible first|refine wT ?_|refine wF ?_|(refine wI (fun hq=>?_) (fun hq=>?_) <;> try simp only [zA,zE,zD,zJ,zB,zI,wK,wL] at hq)|refine wA ?_|refine wB ?_|refine wC ?_|refine wD ?_|refine wE ?_)|((with_reducible refine wN ?_ ?_);focus exact needA)|(with_reducible refine wG ?_)|(with_reducible refine wP ?_)))
 all_goals (try conv=>whnf)
 refine FLoop.of (ACalls.mono _) (X:=Nat) (fun k=>[(0,aInts z e l),(1,AI n),(7,AI l.length),(8,AI k)]) (fun _=>[]) (fun k=>k ≤ l.length ∧ idxP l.length (fun k=>decide (l.getD k 0 = n)) l.length 0 = idxP l.length (fun k=>decide (l.getD k 0 = n)) (l.length - k) k) (fun k=>l.length - k) 0 ⟨⟨Nat.zero_le _,rfl⟩,[],Cut.A,allA⟩ ?_
 rintro k ⟨hk,hL⟩
 by_cases hlt:k < l.length
 ·obtain ⟨m,hm⟩:∃ m,l.length - k = m + 1:=⟨l.length - k - 1,by omega⟩
  rw [hm,idxP] at hL
  (repeat' ((try conv=>whnf);first|(with_reducible first|refine wT ?_|refine wF ?_|(refine wI (fun hq=>?_) (fun hq=>?_) <;> try simp only [zA,zE,zD,zJ,zB,zI,wK,wL] at hq)|refine wA ?_|refine wB ?_|refine wC ?_|refine wD ?_|refine wE ?_)|((with_reducible refine wN ?_ ?_);focus exact needA)|(with_reducible refine wG ?_)|(with_reducible refine wP ?_)))
  all_goals (try conv=>whnf)
  ·(refine ⟨⟨_,[],[],Cut.nil _,Ln.sameB _ rfl,?_,rfl⟩⟩)
   rw [hL,if_pos (decide_eq_true (by omega))]
  ·(exact ⟨⟨(k + 1),⟨hlt,by rw [hL,if_neg (by simp only [decide_eq_true_eq];omega),show l.length - (k + 1) = m by omega]⟩,by show _ < _;omega,[],Cut.A,allA⟩⟩)
 ·rw [show l.length - k = 0 by omega,idxP] at hL
  (repeat' ((try conv=>whnf);first|(with_reducible first|refine wT ?_|refine wF ?_|(refine wI (fun hq=>?_) (fun hq=>?_) <;> try simp only [zA,zE,zD,zJ,zB,zI,wK,wL] at hq)|refine wA ?_|refine wB ?_|refine wC ?_|refine wD ?_|refine wE ?_)|((with_reducible refine wN ?_ ?_);focus exact needA)|(with_reducible refine wG ?_)|(with_reducible refine wP ?_)))
  all_goals (try conv=>whnf)
  (refine ⟨⟨_,[],[],Cut.nil _,Ln.sameB _ rfl,?_,rfl⟩⟩)
  rw [hL]
theorem contains_ok (z e:Bool) (l:List Int) (n:Int) (hl:l.length ≤ 1000):ACall Try.prog 73 [aInts z e l,AI n] [] (fun r h=>r = .bool (l.any fun x=>decide (x = n)) ∧ h = []):=by
 (refine fcall_of mixed Try.func73 rfl (by decide) (hs:={}) ?k (ac:=?ac) ?c (rs:=?rs) ?r ?l ?H;(case k=>kernel_rfl);(case c=>(conv=>(lhs;cbv)));(case r=>(conv=>(lhs;cbv)));(case l=>exact Nat.le_of_ble_eq_true rfl))
 (repeat' ((try conv=>whnf);first|(with_reducible first|refine wT ?_|refine wF ?_|(refine wI (fun hq=>?_) (fun hq=>?_) <;> try simp only [zA,zE,zD,zJ,zB,zI,wK,wL] at hq)|refine wA ?_|refine wB ?_|refine wC ?_|refine wD ?_|refine wE ?_)|((with_reducible refine wN ?_ ?_);focus exact needA)|(with_reducible refine wG ?_)|(refine FCall.pure ((index_ok z e l n hl)) ⟨Ln.sameB _ rfl,Ln.sameB _ rfl,True.intro⟩ rfl ?_)|(with_reducible refine wP ?_)))
 all_goals (try conv=>whnf)
 (refine ⟨⟨_,[],[],Cut.nil _,Ln.sameB _ rfl,?_,rfl⟩⟩)
 rw [← any_idx]
theorem count_ok (b:Bool):ACall Try.prog 72 [.bool b] [] (fun r h=>r = AI (if b then 1 else 0) ∧ h = []):=by
 (refine fcall_of mixed Try.func72 rfl (by decide) (hs:={}) ?k (ac:=?ac) ?c (rs:=?rs) ?r ?l ?H;(case k=>kernel_rfl);(case c=>(conv=>(lhs;cbv)));(case r=>(conv=>(lhs;cbv)));(case l=>exact Nat.le_of_ble_eq_true rfl))
 (repeat' ((try conv=>whnf);first|(with_reducible first|refine wT ?_|refine wF ?_|(refine wI (fun hq=>?_) (fun hq=>?_) <;> try simp only [zA,zE,zD,zJ,zB,zI,wK,wL] at hq)|refine wA ?_|refine wB ?_|refine wC ?_|refine wD ?_|refine wE ?_)|((with_reducible refine wN ?_ ?_);focus exact needA)|(with_reducible refine wG ?_)|(with_reducible refine wP ?_)))
 all_goals (try conv=>whnf)
 all_goals
  (refine ⟨⟨_,[],[],Cut.nil _,Ln.sameB _ rfl,?_,rfl⟩⟩)
  rw [hq];rfl
theorem alone_ok (f:CFl) (c:Crew) (j:Job) (x:LawT) (g:PFl) (p:Person) (hp:Person.ok c.langs p = true) (hj:Job.ok c j = true):ACall Try.prog 58 [pTask f c j x,aPerson g p] [] (fun r h=>r = AU (alone3 p j) ∧ h = []):=by
 obtain ⟨p1,p2,p3,p4,p5,p6,p7⟩:=ps_d hp
 obtain ⟨j1,j2,j3,j4,j5,j6,j7⟩:=job_d hj
 (refine fcall_of mixed Try.func58 rfl (by decide) (hs:={ alt:=[(1,⟨[1,2,3,4,5,6,7,12,13,14,15,16,17,18,19,20,22,23,24,25,26,27,28,29,30],(.alt 0 [] (.alt 8 [9] (.alt 10 [] (.alt 11 [] (.alt 21 [] (.alt 31 [32] (.alt 33 [] .leaf .leaf) .leaf) (.alt 31 [] (.alt 21 [32] (.alt 33 [] .leaf .leaf) .leaf) .leaf)) (.alt 21 [] (.alt 11 [] (.alt 31 [32] (.alt 33 [] .leaf .leaf) .leaf) (.alt 31 [] (.alt 11 [32] (.alt 33 [] .leaf .leaf) .leaf) .leaf)) (.alt 31 [] (.alt 11 [] (.alt 21 [32] (.alt 33 [] .leaf .leaf) .leaf) (.alt 21 [] (.alt 11 [32] (.alt 33 [] .leaf .leaf) .leaf) .leaf)) .leaf))) (.alt 21 [] (.alt 10 [] (.alt 11 [] (.alt 31 [32] (.alt 33 [] .leaf .leaf) .leaf) (.alt 31 [] (.alt 11 [32] (.alt 33 [] .leaf .leaf) .leaf) .leaf)) (.alt 31 [] (.alt 10 [] (.alt 11 [32] (.alt 33 [] .leaf .leaf) .leaf) .leaf) .leaf)) (.alt 31 [] (.alt 10 [] (.alt 11 [] (.alt 21 [32] (.alt 33 [] .leaf .leaf) .leaf) (.alt 21 [] (.alt 11 [32] (.alt 33 [] .leaf .leaf) .leaf) .leaf)) (.alt 21 [] (.alt 10 [] (.alt 11 [32] (.alt 33 [] .leaf .leaf) .leaf) .leaf) .leaf)) .leaf))) (.alt 21 [] (.alt 8 [9] (.alt 10 [] (.alt 11 [] (.alt 31 [32] (.alt 33 [] .leaf .leaf) .leaf) (.alt 31 [] (.alt 11 [32] (.alt 33 [] .leaf .leaf) .leaf) .leaf)) (.alt 31 [] (.alt 10 [] (.alt 11 [32] (.alt 33 [] .leaf .leaf) .leaf) .leaf) .leaf)) (.alt 31 [] (.alt 8 [9] (.alt 10 [] (.alt 11 [32] (.alt 33 [] .leaf .leaf) .leaf) .leaf) .leaf) .leaf)) (.alt 31 [] (.alt 8 [9] (.alt 10 [] (.alt 11 [] (.alt 21 [32] (.alt 33 [] .leaf .leaf) .leaf) (.alt 21 [] (.alt 11 [32] (.alt 33 [] .leaf .leaf) .leaf) .leaf)) (.alt 21 [] (.alt 10 [] (.alt 11 [32] (.alt 33 [] .leaf .leaf) .leaf) .leaf) .leaf)) (.alt 21 [] (.alt 8 [9] (.alt 10 [] (.alt 11 [32] (.alt 33 [] .leaf .leaf) .leaf) .leaf) .leaf) .leaf)) .leaf))) (.alt 8 [9] (.alt 0 [] (.alt 10 [] (.alt 11 [] (.alt 21 [] (.alt 31 [32] (.alt 33 [] .leaf .leaf) .leaf) (.alt 31 [] (.alt 21 [32] (.alt 33 [] .leaf .leaf) .leaf) .leaf)) (.alt 21 [] (.alt 11 [] (.alt 31 [32] (.alt 33 [] .leaf .leaf) .leaf) (.alt 31 [] (.alt 11 [32] (.alt 33 [] .leaf .leaf) .leaf) .leaf)) (.alt 31 [] (.alt 11 [] (.alt 21 [32] (.alt 33 [] .leaf .leaf) .leaf) (.alt 21 [] (.alt 11 [32] (.alt 33 [] .leaf .leaf) .leaf) .leaf)) .leaf))) (.alt 21 [] (.alt 10 [] (.alt 11 [] (.alt 31 [32] (.alt 33 [] .leaf .leaf) .leaf) (.alt 31 [] (.alt 11 [32] (.alt 33 [] .leaf .leaf) .leaf) .leaf)) (.alt 31 [] (.alt 10 [] (.alt 11 [32] (.alt 33 [] .leaf .leaf) .leaf) .leaf) .leaf)) (.alt 31 [] (.alt 10 [] (.alt 11 [] (.alt 21 [32] (.alt 33 [] .leaf .leaf) .leaf) (.alt 21 [] (.alt 11 [32] (.alt 33 [] .leaf .leaf) .leaf) .leaf)) (.alt 21 [] (.alt 10 [] (.alt 11 [32] (.alt 33 [] .leaf .leaf) .leaf) .leaf) .leaf)) .leaf))) (.alt 10 [] (.alt 0 [] (.alt 11 [] (.alt 21 [] (.alt 31 [32] (.alt 33 [] .leaf .leaf) .leaf) (.alt 31 [] (.alt 21 [32] (.alt 33 [] .leaf .leaf) .leaf) .leaf)) (.alt 21 [] (.alt 11 [] (.alt 31 [32] (.alt 33 [] .leaf .leaf) .leaf) (.alt 31 [] (.alt 11 [32] (.alt 33 [] .leaf .leaf) .leaf) .leaf)) (.alt 31 [] (.alt 11 [] (.alt 21 [32] (.alt 33 [] .leaf .leaf) .leaf) (.alt 21 [] (.alt 11 [32] (.alt 33 [] .leaf .leaf) .leaf) .leaf)) .leaf))) .leaf) .leaf)) .leaf)),[(0,[2,7,13,18,23,28]),(8,[13,18,23,28]),(10,[13,18,23,28]),(11,[13,18,23,28]),(21,[2,7,23,28]),(31,[2,7,13,18])]⟩)] }) ?k (ac:=?ac) ?c (rs:=?rs) ?r ?l ?H;(case k=>kernel_rfl);(case c=>(conv=>(lhs;cbv)));(case r=>(conv=>(lhs;cbv)));(case l=>exact Nat.le_of_ble_eq_true rfl))
 ·(repeat' ((try conv=>whnf);first|(with_reducible first|refine wT ?_|refine wF ?_|(refine wI (fun hq=>?_) (fun hq=>?_) <;> try simp only [zA,zE,zD,zJ,zB,zI,wK,wL] at hq)|refine wA ?_|refine wB ?_|refine wC ?_|refine wD ?_|refine wE ?_)|((with_reducible refine wN ?_ ?_);focus exact needA)|(refine FAlt.mk ?_ ?_)|(refine Need.mk (by unfold in64;omega) ?_)|(refine FCall.pure ((contains_ok _ _ _ _ (by omega))) ⟨Ln.sameB _ rfl,Ln.sameB _ rfl,True.intro⟩ rfl ?_)|(refine FCall.pure ((count_ok _)) ⟨Ln.sameB _ rfl,True.intro⟩ rfl ?_)|(refine FBit.shrI rfl (by omega) (by omega) ?_)|(refine FBit.and1 rfl ?_)|(with_reducible refine wP ?_)))
  all_goals (try conv=>whnf)
  all_goals (first|refine FLoop.of3 (ACalls.mono _) (fun (r:List Nat) (v:Nat) (s:List Nat)=>[(4,AU v),(37,.ptr 1 0)]) (fun r v s=>[.mp 0 (Lof (keepX p j) r),.mit (.mpv 0) 3 s]) (fun r v s=>r ∈ perms3 ∧ s.Nodup ∧ (∀ i ∈ s,i < 3) ∧ v = orL (s.map fun i=>bitX (keepX p j) (r.getD i 0)) ∧ v < 8) (fun r v s=>3 - s.length) [0,1,2] 0 [] ⟨inv0 (by decide),[1,2],wO rfl rfl rfl (wV rfl LnB.mpS (wV rfl (LnB.mitS rfl) wX)),allA⟩ ?body|refine FLoop.of3 (ACalls.mono _) (fun (r:List Nat) (v:Nat) (s:List Nat)=>[(4,AU v),(37,.ptr 1 0)]) (fun r v s=>[.mp 0 (Lof (keepX p j) r),.mit (.mpv 0) 3 s]) (fun r v s=>r ∈ perms3 ∧ s.Nodup ∧ (∀ i ∈ s,i < 3) ∧ v = orL (s.map fun i=>bitX (keepX p j) (r.getD i 0)) ∧ v < 8) (fun r v s=>3 - s.length) [0,2,1] 0 [] ⟨inv0 (by decide),[1,2],wO rfl rfl rfl (wV rfl LnB.mpS (wV rfl (LnB.mitS rfl) wX)),allA⟩ ?body|refine FLoop.of3 (ACalls.mono _) (fun (r:List Nat) (v:Nat) (s:List Nat)=>[(4,AU v),(37,.ptr 1 0)]) (fun r v s=>[.mp 0 (Lof (keepX p j) r),.mit (.mpv 0) 3 s]) (fun r v s=>r ∈ perms3 ∧ s.Nodup ∧ (∀ i ∈ s,i < 3) ∧ v = orL (s.map fun i=>bitX (keepX p j) (r.getD i 0)) ∧ v < 8) (fun r v s=>3 - s.length) [1,0,2] 0 [] ⟨inv0 (by decide),[1,2],wO rfl rfl rfl (wV rfl LnB.mpS (wV rfl (LnB.mitS rfl) wX)),allA⟩ ?body|refine FLoop.of3 (ACalls.mono _) (fun (r:List Nat) (v:Nat) (s:List Nat)=>[(4,AU v),(37,.ptr 1 0)]) (fun r v s=>[.mp 0 (Lof (keepX p j) r),.mit (.mpv 0) 3 s]) (fun r v s=>r ∈ perms3 ∧ s.Nodup ∧ (∀ i ∈ s,i < 3) ∧ v = orL (s.map fun i=>bitX (keepX p j) (r.getD i 0)) ∧ v < 8) (fun r v s=>3 - s.length) [1,2,0] 0 [] ⟨inv0 (by decide),[1,2],wO rfl rfl rfl (wV rfl LnB.mpS (wV rfl (LnB.mitS rfl) wX)),allA⟩ ?body|refine FLoop.of3 (ACalls.mono _) (fun (r:List Nat) (v:Nat) (s:List Nat)=>[(4,AU v),(37,.ptr 1 0)]) (fun r v s=>[.mp 0 (Lof (keepX p j) r),.mit (.mpv 0) 3 s]) (fun r v s=>r ∈ perms3 ∧ s.Nodup ∧ (∀ i ∈ s,i < 3) ∧ v = orL (s.map fun i=>bitX (keepX p j) (r.getD i 0)) ∧ v < 8) (fun r v s=>3 - s.length) [2,0,1] 0 [] ⟨inv0 (by decide),[1,2],wO rfl rfl rfl (wV rfl LnB.mpS (wV rfl (LnB.mitS rfl) wX)),allA⟩ ?body|refine FLoop.of3 (ACalls.mono _) (fun (r:List Nat) (v:Nat) (s:List Nat)=>[(4,AU v),(37,.ptr 1 0)]) (fun r v s=>[.mp 0 (Lof (keepX p j) r),.mit (.mpv 0) 3 s]) (fun r v s=>r ∈ perms3 ∧ s.Nodup ∧ (∀ i ∈ s,i < 3) ∧ v = orL (s.map fun i=>bitX (keepX p j) (r.getD i 0)) ∧ v < 8) (fun r v s=>3 - s.length) [2,1,0] 0 [] ⟨inv0 (by decide),[1,2],wO rfl rfl rfl (wV rfl LnB.mpS (wV rfl (LnB.mitS rfl) wX)),allA⟩ ?body|fail)
  case body =>
   rintro r v s ⟨hr,hs,hs3,hv,hv8⟩
   have hr3:=perms_d hr
   (repeat' ((try conv=>whnf);first|(with_reducible first|refine wT ?_|refine wF ?_|(refine wI (fun hq=>?_) (fun hq=>?_) <;> try simp only [zA,zE,zD,zJ,zB,zI,wK,wL] at hq)|refine wA ?_|refine wB ?_|refine wC ?_|refine wD ?_|refine wE ?_)|((with_reducible refine wN ?_ ?_);focus exact needA)|(with_reducible first|refine FBit.hasT rfl (by assumption) ?_|refine FBit.hasF rfl (by assumption) ?_|refine FBit.shrN rfl (by omega) ?_|refine FBit.half rfl ?_|refine FBit.shl1 rfl (by omega) ?_|refine Fits.inU (by omega) ?_|refine FBit.shrNI rfl (by omega) ?_|refine FBit.shrIN rfl (by omega) (by omega) ?_|refine FBit.shrI rfl (by omega) (by omega) ?_|refine FBit.shl1I rfl (by omega) ?_)|(with_reducible refine FBit.has rfl (fun hq=>?_) (fun hq=>?_))|(with_reducible first|refine FBit.and1 rfl ?_|refine FBit.andN rfl (by omega) (by omega) ?_|refine FBit.orN rfl (by omega) (by omega) ?_|refine FBit.andNotN rfl (by omega) (by omega) ?_)|(with_reducible refine wG ?_)|(refine FNext.mk (fun hlen=>?_) (fun i hi hn=>?_))|(refine FEnt.of (Lof_get (by omega)) ?_)|(refine FLast.app ?_)|(refine Need.mk (show 0 ≤ ((r.getD i 0:Nat):Int) by omega) ?_)|(refine FBit.shl1 (j:=r.getD i 0) rfl (by have:=hr3.2 i hi;omega) ?_)|(refine FBit.orN rfl (by omega) (Nat.lt_trans (pow3 (hr3.2 i hi)) (by decide)) ?_)|(with_reducible refine wP ?_)))
   all_goals (try conv=>whnf)
   ·(refine ⟨⟨_,[],[],Cut.nil _,Ln.sameB _ rfl,?_,rfl⟩⟩)
    exact int_eq (by rw [hv,seen_all (b:=bitX (keepX p j)) hr hlen hs hs3,keep_alone])
   ·have hsn:=nodup_snoc hs hn
    have hsl:=pigeon 3 id (s ++ [i]) hsn (fun y hy=>⟨y,seen_lt hs3 hi y hy,rfl⟩)
    rw [List.length_append] at hsl
    have hsl:s.length + 1 ≤ 3:=hsl
    (exact ⟨⟨r,(v ||| 2 ^ (r.getD i 0)),(s ++ [i]),⟨hr,hsn,seen_lt hs3 hi,by rw [List.map_append,List.map_cons,List.map_nil,orL_snoc,← hv,bitX,if_pos hq],or8 hv8 (pow3 (hr3.2 i hi))⟩,by show 3 - (s ++ [i]).length < 3 - s.length;rw [List.length_append];show 3 - (s.length + 1) < _;omega,[0,1],Cut.A,allA⟩⟩)
   ·have hsn:=nodup_snoc hs hn
    have hsl:=pigeon 3 id (s ++ [i]) hsn (fun y hy=>⟨y,seen_lt hs3 hi y hy,rfl⟩)
    rw [List.length_append] at hsl
    have hsl:s.length + 1 ≤ 3:=hsl
    (exact ⟨⟨r,v,(s ++ [i]),⟨hr,hsn,seen_lt hs3 hi,by rw [List.map_append,List.map_cons,List.map_nil,orL_snoc,← hv,bitX,if_neg hq,Nat.or_zero],hv8⟩,by show 3 - (s ++ [i]).length < 3 - s.length;rw [List.length_append];show 3 - (s.length + 1) < _;omega,[0,1],Cut.A,allA⟩⟩)
end Go.Proofs.Ytdipcdallenmkaa

namespace Go.Proofs.Ytdipcdallenmkaa
open Go.RowKit Go.Shelf

attribute [local go_sem] Oper.semAt_some

theorem arr1 {cs:Array Value} {v:Value} {n:Nat} (h:cs.size = n) (hp:cs.getD 0 undef = v) (hn:n = 1:=by rfl):cs = #[v]:=by
 subst hn
 have h0:0 < cs.size:=by omega
 have h1:cs[0] = v:=by simpa [h0] using hp
 apply Array.ext
 ·simpa using h
 ·intro i h2 h3
  obtain rfl:i = 0:=by simp at h3;omega
  simpa using h1

set_option maxRecDepth 100000 in
set_option maxHeartbeats 2000000 in
theorem teams_it (f:CFl) (c:Crew) (j:Job) (x:LawT) (n N:Nat) (hn:c.people.length = n) (hl:n ≤ 8) (hN:N + 1 = 2 ^ n):AIterM true Try.prog 39 [pTask f c j x] ((List.range N).map fun k=>[AU (k + 1)]):=by
 refine ⟨⟨_,Try.func39,by decide,rfl⟩,fun M w0 cs hcs hreps lp J Jx W hW hJ hJx hY h0=>?_⟩
 obtain ⟨Bs,off,hp,hb,hMn,hc⟩:=hreps 0 _ rfl
 obtain ⟨u,hcell,_,A,cap,rfl,hz,hnil,_,hcap,hel⟩:=hc 1 (by omega)
 rw [Nat.add_zero] at hp
 obtain rfl:=arr1 hcs hp
 have wn:Wd none = Fence.wide:=rfl
 rw [wn] at hY ⊢
 refine callsIn_of_wp Try.func39 rfl trivial ?_ rfl
 simp only [Try.ntmps39,List.size_toArray,List.length_cons,List.length_nil,Nat.reduceAdd,Nat.reduceSub,Array.replicate_succ,Array.replicate_zero,List.push_toArray,List.append_toArray,List.nil_append,List.cons_append,argsOf]
 rw [hn] at hcell
 have hcell0:=(hW.cell hb hMn).trans hcell
 clear hel hc hnil hcap hn
 rcases (show n = 0 ∨ n = 1 ∨ n = 2 ∨ n = 3 ∨ n = 4 ∨ n = 5 ∨ n = 6 ∨ n = 7 ∨ n = 8 by omega) with rfl|rfl|rfl|rfl|rfl|rfl|rfl|rfl|rfl
 ·obtain rfl:N = 0:=by omega
  gi_wp2
  gi_loopw [4] (fun i wr=>i = .int .u64 1 ∧ J 0 wr ∧ Chg M w0 wr) (fun i _=>0)
  case atStart=>exact ⟨rfl,h0,hW⟩
  case round =>
   obtain ⟨rfl,hJk,hck⟩:=hrel
   have hcellk:=(hck.cell hb hMn).trans hcell
   gi_wp2
   go_end0
   exact ⟨⟨_,rfl⟩,.inl hJk⟩
 all_goals
  gi_wp2
  gi_loopw [4] (fun i wr=>∃ k:Nat,k ≤ N ∧ i = .int .u64 ((k:Int) + 1) ∧ J k wr ∧ Chg M w0 wr)
   (fun i _=>(N + 1 - intOf i).toNat)
  case atStart=>exact ⟨0,Nat.zero_le _,rfl,h0,hW⟩
  case round =>
   obtain ⟨k,hk,rfl,hJk,hck⟩:=hrel
   have hcellk:=(hck.cell hb hMn).trans hcell
   by_cases hlt:k < N
   ·obtain ⟨fn,tmps,assign,body,hy,hR⟩:=hY k #[.int .u64 ((k:Int) + 1)] wr (by simpa using hlt) hJk hck (by simp [List.getD,hlt]) (fun i x hx=>by
     simp only [List.getD,List.getElem?_map,List.getElem?_range hlt,Option.map_some,Option.getD_some] at hx
     match i,hx with
     | 0,hx=>cases hx;rfl)
    gi_wp2
    refine ⟨rfl,hR.mono ?_⟩
    rintro e W3 (⟨rfl,hJ3,hk3⟩|⟨rfl,hJx3⟩)
    ·gi_wp2
     go_roundw
     case rel=>exact ⟨k + 1,by omega,by congr 1,hJ3,hck.trans hk3 (fun _ _ h=>h)⟩
     case measure=>simp [intOf];omega
    ·gi_wp2
     refine bodyPost_ret (results_none rfl _ _ _) rfl ?_
     exact ⟨⟨_,rfl⟩,.inr ⟨k,by simpa using hlt,hJx3⟩⟩
   ·obtain rfl:k = N:=by omega
    gi_wp2
    go_end0
    exact ⟨⟨_,rfl⟩,.inl (by simpa using hJk)⟩
end Go.Proofs.Ytdipcdallenmkaa

namespace Go.Proofs.Ytdipcdallenmkaa
open Go.RowKit Go.Shelf

attribute [local go_sem] Oper.semAt_some

theorem arr2 {cs:Array Value} {u v:Value} (h:cs.size = 2) (h0:cs.getD 0 undef = u) (h1:cs.getD 1 undef = v):cs = #[u,v]:=by
 apply Array.ext
 ·simpa using h
 ·intro i h2 h3
  rcases (show i = 0 ∨ i = 1 by simp at h3;omega) with rfl|rfl
  ·simpa [h] using h0
  ·simpa [h] using h1
def cntF (s k:Nat):Nat:=((List.range k).filter fun i=>s.testBit i).length
theorem memb_split {c:Crew} {s k:Nat} (h:k ≤ c.people.length):memb c s = ((List.range k).filter fun i=>s.testBit i) ++ memF c s k:=by
 have:List.range c.people.length = List.range k ++ (List.range c.people.length).drop k:=by
  rw [← List.take_append_drop k (List.range c.people.length)]
  simp [List.take_range,Nat.min_eq_left h]
 unfold memb memF
 rw [this,List.filter_append]
 simp
theorem memb_at {c:Crew} {s k:Nat} (h:k < c.people.length) (hb:s.testBit k = true):cntF s k < (memb c s).length ∧ (memb c s).getD (cntF s k) 0 = k:=by
 rw [memb_split (Nat.le_of_lt h),memF_yes h hb]
 constructor
 ·simp [cntF]
 ·simp [cntF,List.getD]
theorem cnt_yes {s k:Nat} (hb:s.testBit k = true):cntF s (k + 1) = cntF s k + 1:=by
 unfold cntF;rw [List.range_succ,List.filter_append];simp [hb]
theorem cnt_no {s k:Nat} (hb:s.testBit k = false):cntF s (k + 1) = cntF s k:=by
 unfold cntF;rw [List.range_succ,List.filter_append];simp [hb]
theorem cnt_end {c:Crew} {s:Nat}:cntF s c.people.length = (memb c s).length:=rfl
abbrev iTask (f:CFl) (c:Crew) (j:Job) (x:LawT):AV:=.ip 1 (ofL [pTask f c j x]) 0
abbrev iTeam (s:Nat):AV:=.ip 1 (ofL [AU s]) 0

theorem getD_map' {α β:Type} {f:α → β} {l:List α} {k:Nat} {d:α} {d':β} (h:k < l.length):(l.map f).getD k d' = f (l.getD k d):=by
 simp [List.getD,List.getElem?_eq_getElem h]
theorem pure_call {P:Program} {g:FuncId} {xs:List AV} {r:AV} (H:ACall P g xs [] (fun v h=>v = r ∧ h = [])) (w:World) (vs:Array Value) (hs:vs.size = xs.length) (hv:∀ i x,xs[i]? = some x → rep (MM (fun _=>False) g0 []) w x g0 (vs.getD i undef)):Calls P g vs w fun en w'=>∃ v g' M,en = .returned v ∧ Chg (fun _=>False) w w' ∧ rep M w' r g' v:=by
 refine (H.2 (fun _=>False) g0 w vs (HOK.nil w (fun _ h=>h.elim)) hs hv).mono ?_
 rintro en w' ⟨v,r',h',g',rfl,T,hr,rfl,rfl⟩
 refine ⟨v,g',_,rfl,T.mchg.weak (fun x _ h=>?_),hr⟩
 rcases h with h|⟨d,cap,⟨x,h,_⟩,_⟩
 ·exact h.elim
 ·simp at h
theorem has_call (s k:Nat) (hk:k ≤ 64) (w:World):Calls Try.prog 75 #[.int .u64 s,.int .i64 k] w fun en w'=>en = .returned (.bool (s.testBit k)) ∧ Chg (fun _=>False) w w':=by
 refine (pure_call (phas_ok s k hk) w #[.int .u64 s,.int .i64 k] rfl (fun i x hx=>?_)).mono ?_
 ·match i,hx with
  | 0,hx=>cases hx;rfl
  | 1,hx=>cases hx;rfl
 ·rintro en w' ⟨v,g',M,rfl,hc,hr⟩
  have:v = .bool (s.testBit k):=hr
  exact ⟨by rw [this],hc⟩
set_option maxRecDepth 100000 in
set_option maxHeartbeats 2000000 in
theorem members_it (f:CFl) (c:Crew) (j:Job) (x:LawT) (s:Nat) (hl:c.people.length ≤ 8):AIter Try.prog 74 [iTask f c j x,iTeam s] ((memb c s).map fun (i:Nat)=>[AI i,.agg 6 (cPerson (f.pf i) (c.people.getD i ps0))]):=by
 refine ⟨⟨_,Try.func74,by decide,rfl⟩,fun M w0 cs hcs hreps lp J Jx W hW hJ hJx hY h0=>?_⟩
 obtain ⟨B1,off1,hp1,hb1,hM1,hc1⟩:=hreps 0 _ rfl
 obtain ⟨u1,hcell1,_,Bt,offt,hut,hbt,hMt,hct⟩:=hc1 0 (by omega)
 obtain ⟨B2,off2,hp2,hb2,hM2,hc2⟩:=hreps 1 _ rfl
 obtain ⟨u2,hcell2,_,hu2⟩:=hc2 0 (by omega)
 have hu2:u2 = .int .u64 s:=hu2
 subst hu2
 subst hut
 obtain ⟨u,hcell,_,A,cap,rfl,hz,hnil,_,hcap,hel⟩:=hct 1 (by omega)
 obtain rfl:=arr2 hcs hp1 hp2
 rw [Nat.add_zero] at hcell1 hcell2
 simp only [Nat.add_zero] at hp1 hp2 ⊢
 have wn:Wd none = Fence.wide:=rfl
 rw [wn] at hY ⊢
 refine callsIn_of_wp Try.func74 rfl trivial ?_ rfl
 simp only [Try.ntmps74,List.size_toArray,List.length_cons,List.length_nil,Nat.reduceAdd,Nat.reduceSub,Array.replicate_succ,Array.replicate_zero,List.push_toArray,List.append_toArray,List.nil_append,List.cons_append,argsOf]
 have hcellA:=(hW.cell hb1 hM1).trans hcell1
 have hcellB:=(hW.cell hb2 hM2).trans hcell2
 have hcellC:=(hW.cell hbt hMt).trans hcell
 gi_wp2
 gi_loopw [12] (fun i wr=>∃ k:Nat,k ≤ c.people.length ∧ i = .int .i64 k ∧ J (cntF s k) wr ∧ Chg M w0 wr)
  (fun i _=>(c.people.length - intOf i).toNat)
 case atStart=>exact ⟨0,Nat.zero_le _,rfl,h0,hW⟩
 case round =>
  obtain ⟨k,hk,rfl,hJk,hck⟩:=hrel
  have hcellB2:=(hck.cell hb2 hM2).trans hcell2
  by_cases hlt:k < c.people.length
  ·obtain ⟨b,off',v0,hA,hb',hn',hv0,_,hr0⟩:=hel k hlt 0 (by omega)
   subst hA
   have hcl:∀ o,o < 6 → ∃ u,w0.cell? ⟨b,off' + k * 6 + o,none⟩ = some u ∧ u.oneCell' = true ∧ rep M w0 (cPerson (f.pf k) (c.people.getD k ps0) o) g0 u:=fun o ho=>by
    obtain ⟨b2,o2,u,e1,_,_,e4,e5,e6⟩:=hel k hlt o ho
    injection e1 with e1
    injection e1 with e1 e2
    subst e1;subst e2
    exact ⟨u,e4,e5,e6⟩
   obtain ⟨v0,hv0,hq0,hr0⟩:=hcl 0 (by omega)
   obtain ⟨v1,hv1,hq1,hr1⟩:=hcl 1 (by omega)
   obtain ⟨v2,hv2,hq2,hr2⟩:=hcl 2 (by omega)
   obtain ⟨v3,hv3,hq3,hr3⟩:=hcl 3 (by omega)
   obtain ⟨v4,hv4,hq4,hr4⟩:=hcl 4 (by omega)
   obtain ⟨v5,hv5,hq5,hr5⟩:=hcl 5 (by omega)
   have hag:rep M w0 (.agg 6 (cPerson (f.pf k) (c.people.getD k ps0))) g0 (.agg #[v0,v1,v2,v3,v4,v5]):=by
    refine ⟨_,rfl,rfl,fun i hi=>?_⟩
    rcases (show i = 0 ∨ i = 1 ∨ i = 2 ∨ i = 3 ∨ i = 4 ∨ i = 5 by omega) with rfl|rfl|rfl|rfl|rfl|rfl
    ·exact ⟨v0,rfl,hq0,hr0⟩
    ·exact ⟨v1,rfl,hq1,hr1⟩
    ·exact ⟨v2,rfl,hq2,hr2⟩
    ·exact ⟨v3,rfl,hq3,hr3⟩
    ·exact ⟨v4,rfl,hq4,hr4⟩
    ·exact ⟨v5,rfl,hq5,hr5⟩
   obtain ⟨A0,cap0,rfl,_⟩:=hr0
   obtain rfl:v1 = .int .i64 (c.people.getD k ps0).fields:=hr1
   obtain rfl:v2 = .int .i64 (c.people.getD k ps0).clears:=hr2
   obtain ⟨A3,cap3,rfl,_⟩:=hr3
   obtain rfl:v4 = .bool (c.people.getD k ps0).deaf:=hr4
   obtain rfl:v5 = .int .i64 (c.people.getD k ps0).fee:=hr5
   have k0:=(hck.cell hb' hn').trans hv0
   have k1:=(hck.cell hb' hn').trans hv1
   have k2:=(hck.cell hb' hn').trans hv2
   have k3:=(hck.cell hb' hn').trans hv3
   have k4:=(hck.cell hb' hn').trans hv4
   have k5:=(hck.cell hb' hn').trans hv5
   clear hel hc1 hc2 hct hcl hv1 hv2 hv3 hv4 hv5
   rw [Nat.add_zero] at k0
   generalize (c.people.getD k ps0).levels.length = n0 at k0 k1 k2 k3 k4 k5 hag
   generalize (c.people.getD k ps0).fields = z1 at k0 k1 k2 k3 k4 k5 hag
   generalize (c.people.getD k ps0).clears = z2 at k0 k1 k2 k3 k4 k5 hag
   generalize (c.people.getD k ps0).ties.length = n3 at k0 k1 k2 k3 k4 k5 hag
   generalize (c.people.getD k ps0).deaf = z4 at k0 k1 k2 k3 k4 k5 hag
   generalize (c.people.getD k ps0).fee = z5 at k0 k1 k2 k3 k4 k5 hag
   obtain ⟨W2,hW2⟩:∃ W2,W2 = wr.alloc (.cells #[.slice A0 n0 cap0,.int .i64 z1,.int .i64 z2,.slice A3 n3 cap3,.bool z4,.int .i64 z5] 30):=⟨_,rfl⟩
   have hA2:Chg (fun _=>False) wr W2:=by rw [hW2];exact Chg.alloc _ _ _
   have hcellB3:W2.cell? ⟨B2,off2,none⟩ = some (.int .u64 s):=(hA2.cell (Nat.lt_of_lt_of_le hb2 hck.size) (fun h=>h)).trans hcellB2
   rw [hW2] at hcellB3
   have hhas:=has_call s k (by omega) W2
   rw [hW2] at hhas
   gi_wp2
   refine ⟨trivial,rfl,(callsIn_wide.2 hhas).mono ?_⟩
   rintro e W3 ⟨rfl,hA3⟩
   rw [← hW2] at hA3
   have hA4:=hA2.trans hA3 (fun _ _ h=>h)
   have hA5:Chg M wr W3:=hA4.weak (fun _ _ h=>h.elim)
   have hnew:W2.heap[wr.heap.size]? = some (.cells #[.slice A0 n0 cap0,.int .i64 z1,.int .i64 z2,.slice A3 n3 cap3,.bool z4,.int .i64 z5] 30):=by rw [hW2];exact heap_alloc_new _ _
   have hsz:=lt_of_heap hnew
   have hnew3:=(hA3.block _ hsz (fun h=>h)).trans hnew
   have c0:W3.cell? ⟨wr.heap.size,0,none⟩ = some (.slice A0 n0 cap0):=cell_of_heap hnew3 rfl
   have c1:W3.cell? ⟨wr.heap.size,1,none⟩ = some (.int .i64 z1):=cell_of_heap hnew3 rfl
   have c2:W3.cell? ⟨wr.heap.size,2,none⟩ = some (.int .i64 z2):=cell_of_heap hnew3 rfl
   have c3:W3.cell? ⟨wr.heap.size,3,none⟩ = some (.slice A3 n3 cap3):=cell_of_heap hnew3 rfl
   have c4:W3.cell? ⟨wr.heap.size,4,none⟩ = some (.bool z4):=cell_of_heap hnew3 rfl
   have c5:W3.cell? ⟨wr.heap.size,5,none⟩ = some (.int .i64 z5):=cell_of_heap hnew3 rfl
   have hJ3:=hJ _ _ _ hJk hA4
   have hck3:=hck.trans hA5 (fun _ _ h=>h)
   by_cases hbit:s.testBit k = true
   ·obtain ⟨hm1,hm2⟩:=memb_at hlt hbit
    obtain ⟨fn,tmps,assign,body,hy,hR⟩:=hY (cntF s k) #[.int .i64 k,.agg #[.slice A0 n0 cap0,.int .i64 z1,.int .i64 z2,.slice A3 n3 cap3,.bool z4,.int .i64 z5]] W3 (by simpa using hm1) hJ3 hck3 (by simp [List.getD,hm1]) (fun i x hx=>by
     have e0:((memb c s).map fun (i:Nat)=>[AI i,.agg 6 (cPerson (f.pf i) (c.people.getD i ps0))]).getD (cntF s k) [] = [AI k,.agg 6 (cPerson (f.pf k) (c.people.getD k ps0))]:=by
      rw [getD_map' (d:=0) hm1,hm2]
     rw [e0] at hx
     match i,hx with
     | 0,hx=>cases hx;rfl
     | 1,hx=>cases hx;exact rep_mono hck3 (fun _ _ h=>h) _ (GM.le_refl _) hag)
    gi_wp2
    refine ⟨rfl,hR.mono ?_⟩
    rintro e W4 (⟨rfl,hJ4,hk4⟩|⟨rfl,hJx4⟩)
    ·gi_wp2
     go_roundw
     case rel=>exact ⟨k + 1,hlt,by congr 1,by rw [cnt_yes hbit];exact hJ4,hck3.trans hk4 (fun _ _ h=>h)⟩
     case measure=>simp [intOf];omega
    ·gi_wp2
     refine bodyPost_ret (results_none rfl _ _ _) rfl ?_
     exact ⟨⟨_,rfl⟩,.inr ⟨cntF s k,by simpa using hm1,hJx4⟩⟩
   ·have hbit:=Bool.eq_false_iff.2 hbit
    gi_wp2
    refine ⟨fun _ h=>(by cases h),?_⟩
    gi_wp2
    go_roundw
    case rel=>exact ⟨k + 1,hlt,by congr 1,by rw [cnt_no hbit];exact hJ3,hck3⟩
    case measure=>simp [intOf];omega
  ·obtain rfl:k = c.people.length:=by omega
   gi_wp2
   go_end0
   exact ⟨⟨_,rfl⟩,.inl (by simpa [cnt_end] using hJk)⟩
end Go.Proofs.Ytdipcdallenmkaa

namespace Go.Proofs.Ytdipcdallenmkaa
open Go.RowKit

abbrev fMem (f:CFl) (c:Crew) (j:Job) (x:LawT) (s:Nat):AV:=.fn 74 2 (ofL [iTask f c j x,iTeam s])
theorem map_rng {α β:Type} (g:α → β) (l:List α) (d:α):l.map g = (List.range l.length).map fun k=>g (l.getD k d):=by
 apply List.ext_getElem
 ·simp
 ·intro i h1 h2
  have hi:i < l.length:=by simpa using h1
  simp [List.getD,List.getElem?_eq_getElem hi]
theorem mem_it (f:CFl) (c:Crew) (j:Job) (x:LawT) (s:Nat) (hl:c.people.length ≤ 8):AIter Try.prog 74 [iTask f c j x,iTeam s] ((List.range (memb c s).length).map fun k=>[AI (((memb c s).getD k 0:Nat):Int),.agg 6 (cPerson (f.pf ((memb c s).getD k 0)) (c.people.getD ((memb c s).getD k 0) ps0))]):=by
 have:=members_it f c j x s hl
 rwa [map_rng _ (memb c s) 0] at this
theorem memb_get {c:Crew} {s k:Nat} (h:k < (memb c s).length):(memb c s).getD k 0 < c.people.length ∧ s.testBit ((memb c s).getD k 0) = true:=by
 refine memb_lt ?_
 simp only [List.getD,List.getElem?_eq_getElem h,Option.getD_some]
 exact List.getElem_mem h
theorem memb_len (c:Crew) (s:Nat):(memb c s).length ≤ c.people.length:=by
 have:=List.length_filter_le (fun i=>s.testBit i) (List.range c.people.length)
 simpa [memb] using this
set_option maxHeartbeats 4000000
set_option maxRecDepth 100000
theorem mem_ok (f:CFl) (c:Crew) (j:Job) (x:LawT) (s:Nat):ACall Try.prog 63 [pTask f c j x,AU s] [] (fun r h=>r = fMem f c j x s ∧ h = []):=by
 (refine fcall_of mixed Try.func63 rfl (by decide) (hs:={}) ?k (ac:=?ac) ?c (rs:=?rs) ?r ?l ?H;(case k=>kernel_rfl);(case c=>(conv=>(lhs;cbv)));(case r=>(conv=>(lhs;cbv)));(case l=>exact Nat.le_of_ble_eq_true rfl))
 (repeat' ((try conv=>whnf);first|(with_reducible first|refine wT ?_|refine wF ?_|(refine wI (fun hq=>?_) (fun hq=>?_) <;> try simp only [zA,zE,zD,zJ,zB,zI,wK,wL] at hq)|refine wA ?_|refine wB ?_|refine wC ?_|refine wD ?_|refine wE ?_)|((with_reducible refine wN ?_ ?_);focus exact needA)|(with_reducible refine wG ?_)|(with_reducible refine wP ?_)))
 all_goals (try conv=>whnf)
 exact ⟨⟨fMem f c j x s,[],[],Cut.nil _,Ln.fnN ⟨⟨True.intro,Ln.boxP (m:=1) (goneB rfl) rfl ⟨True.intro,Ln.A⟩ rfl⟩,Ln.boxP (m:=1) (goneB rfl) rfl ⟨True.intro,Ln.A⟩ rfl⟩,rfl,rfl⟩⟩
theorem pfee_ok (f:CFl) (c:Crew) (j:Job) (x:LawT) (s:Nat) (hc:c.ok = true):ACall Try.prog 40 [pTask f c j x,AU s] [] (fun r h=>r = AI (feeT c s) ∧ h = []):=by
 obtain ⟨d1,d2,d3,d4,d5⟩:=crew_d hc
 have hml:=memb_len c s
 (refine fcall_of mixed Try.func40 rfl (by decide) (hs:={}) ?k (ac:=?ac) ?c (rs:=?rs) ?r ?l ?H;(case k=>kernel_rfl);(case c=>(conv=>(lhs;cbv)));(case r=>(conv=>(lhs;cbv)));(case l=>exact Nat.le_of_ble_eq_true rfl))
 (repeat' ((try conv=>whnf);first|(with_reducible first|refine wT ?_|refine wF ?_|(refine wI (fun hq=>?_) (fun hq=>?_) <;> try simp only [zA,zE,zD,zJ,zB,zI,wK,wL] at hq)|refine wA ?_|refine wB ?_|refine wC ?_|refine wD ?_|refine wE ?_)|((with_reducible refine wN ?_ ?_);focus exact needA)|(with_reducible refine wG ?_)|(refine FCall.pure ((mem_ok _ _ _ _ _)) ⟨Ln.sameB _ rfl,Ln.sameB _ rfl,True.intro⟩ rfl ?_)|(with_reducible refine wP ?_)))
 all_goals (try conv=>whnf)
 refine FRange.of (ACalls.mono _) (X:=Int) (memb c s).length (fun k=>[AI (((memb c s).getD k 0:Nat):Int),.agg 6 (cPerson (f.pf ((memb c s).getD k 0)) (c.people.getD ((memb c s).getD k 0) ps0))]) (fun n=>[(4,.ptr 0 0),(9,fMem f c j x s)]) (fun n=>[.box 1 (ofL [AI n])])
  (fun k n=>feeT c s = n + (((memb c s).drop k).map fun i=>(c.people.getD i ps0).fee).sum ∧ 0 ≤ n ∧ n ≤ 1000 * k) 0 ⟨⟨by simp [feeT],by omega,by omega⟩,[0],Cut.A,allA⟩ rfl rfl (mem_it f c j x s d2) (fun _ _=>rfl) ?round ?done
 case round =>
  rintro k n hk ⟨hL,h0,h1⟩
  obtain ⟨g1,g2⟩:=memb_get hk
  obtain ⟨p1,p2,p3,p4,p5,p6,p7⟩:=ps_d (d4 _ g1)
  (repeat' ((try conv=>whnf);first|(with_reducible first|refine wT ?_|refine wF ?_|(refine wI (fun hq=>?_) (fun hq=>?_) <;> try simp only [zA,zE,zD,zJ,zB,zI,wK,wL] at hq)|refine wA ?_|refine wB ?_|refine wC ?_|refine wD ?_|refine wE ?_)|((with_reducible refine wN ?_ ?_);focus exact needA)|(with_reducible refine wG ?_)|(with_reducible refine wP ?_)))
  all_goals (try conv=>whnf)
  have hn:feeT c s = (n + (c.people.getD ((memb c s).getD k 0) ps0).fee) + (((memb c s).drop (k + 1)).map fun i=>(c.people.getD i ps0).fee).sum:=by
   rw [hL,drop_eq 0 hk,List.map_cons,List.sum_cons];omega
  (refine ⟨⟨(n + (c.people.getD ((memb c s).getD k 0) ps0).fee),⟨hn,by omega,by omega⟩,[0],Cut.A,allA⟩⟩)
 case done =>
  rintro n ⟨hL,h0,h1⟩
  (repeat' ((try conv=>whnf);first|(with_reducible first|refine wT ?_|refine wF ?_|(refine wI (fun hq=>?_) (fun hq=>?_) <;> try simp only [zA,zE,zD,zJ,zB,zI,wK,wL] at hq)|refine wA ?_|refine wB ?_|refine wC ?_|refine wD ?_|refine wE ?_)|((with_reducible refine wN ?_ ?_);focus exact needA)|(with_reducible refine wG ?_)|(with_reducible refine wP ?_)))
  all_goals (try conv=>whnf)
  (refine ⟨⟨_,[],[],Cut.nil _,Ln.sameB _ rfl,?_,rfl⟩⟩)
  rw [hL,List.drop_length];exact int_eq (by simp)
theorem joined_ok (f:CFl) (c:Crew) (j:Job) (x:LawT) (s a b:Nat) (hc:c.ok = true) (ha:a < c.langs) (hb:b < c.langs):ACall Try.prog 47 [pTask f c j x,AU s,AI a,AI b] [] (fun r h=>r = .bool (relT c s x.level a b) ∧ h = []):=by
 obtain ⟨d1,d2,d3,d4,d5⟩:=crew_d hc
 have hml:=memb_len c s
 (refine fcall_of mixed Try.func47 rfl (by decide) (hs:={}) ?k (ac:=?ac) ?c (rs:=?rs) ?r ?l ?H;(case k=>kernel_rfl);(case c=>(conv=>(lhs;cbv)));(case r=>(conv=>(lhs;cbv)));(case l=>exact Nat.le_of_ble_eq_true rfl))
 (repeat' ((try conv=>whnf);first|(with_reducible first|refine wT ?_|refine wF ?_|(refine wI (fun hq=>?_) (fun hq=>?_) <;> try simp only [zA,zE,zD,zJ,zB,zI,wK,wL] at hq)|refine wA ?_|refine wB ?_|refine wC ?_|refine wD ?_|refine wE ?_)|((with_reducible refine wN ?_ ?_);focus exact needA)|(with_reducible refine wG ?_)|(refine FCall.pure ((mem_ok _ _ _ _ _)) ⟨Ln.sameB _ rfl,Ln.sameB _ rfl,True.intro⟩ rfl ?_)|(with_reducible refine wP ?_)))
 all_goals (try conv=>whnf)
 refine FRange.of (ACalls.mono _) (X:=Nat) (memb c s).length (fun k=>[AI (((memb c s).getD k 0:Nat):Int),.agg 6 (cPerson (f.pf ((memb c s).getD k 0)) (c.people.getD ((memb c s).getD k 0) ps0))]) (fun n=>[(4,.ptr 0 0),(6,.ptr 1 0),(7,.ptr 2 0),(8,.ptr 3 0),(13,fMem f c j x s)]) (fun n=>[.box 1 (ofL [pTask f c j x]),.box 1 (ofL [AI a]),.box 1 (ofL [AI b]),.box 1 (ofL [.bool false])])
  (fun k n=>n = k ∧ relT c s x.level a b = ((memb c s).drop k).any fun i=>decide (x.level ≤ (c.people.getD i ps0).levels.getD a 0) && decide (x.level ≤ (c.people.getD i ps0).levels.getD b 0)) 0 ⟨⟨rfl,rfl⟩,[0,1,2,3],Cut.A,allA⟩ rfl rfl (mem_it f c j x s d2) (fun _ _=>rfl) ?round ?done
 case round =>
  rintro k n hk ⟨rfl,hL⟩
  obtain ⟨g1,g2⟩:=memb_get hk
  obtain ⟨p1,p2,p3,p4,p5,p6,p7⟩:=ps_d (d4 _ g1)
  rw [drop_eq 0 hk,List.any_cons] at hL
  (repeat' ((try conv=>whnf);first|(with_reducible first|refine wT ?_|refine wF ?_|(refine wI (fun hq=>?_) (fun hq=>?_) <;> try simp only [zA,zE,zD,zJ,zB,zI,wK,wL] at hq)|refine wA ?_|refine wB ?_|refine wC ?_|refine wD ?_|refine wE ?_)|((with_reducible refine wN ?_ ?_);focus exact needA)|(with_reducible refine wG ?_)|(with_reducible refine wP ?_)))
  all_goals (try conv=>whnf)
  ·(refine ⟨⟨_,[],[],Cut.nil _,Ln.sameB _ rfl,?_,rfl⟩⟩)
   rw [hL,decide_eq_true (by omega),decide_eq_true (by omega)];rfl
  ·rw [show (decide (x.level ≤ (c.people.getD ((memb c s).getD n 0) ps0).levels.getD a 0) && decide (x.level ≤ (c.people.getD ((memb c s).getD n 0) ps0).levels.getD b 0)) = false from not_of (fun h=>by simp only [Bool.and_eq_true,decide_eq_true_eq] at h;omega),Bool.false_or] at hL
   (refine ⟨⟨(n + 1),⟨rfl,hL⟩,[0,1,2,3],Cut.A,allA⟩⟩)
 case done =>
  rintro n ⟨rfl,hL⟩
  rw [List.drop_length] at hL
  (repeat' ((try conv=>whnf);first|(with_reducible first|refine wT ?_|refine wF ?_|(refine wI (fun hq=>?_) (fun hq=>?_) <;> try simp only [zA,zE,zD,zJ,zB,zI,wK,wL] at hq)|refine wA ?_|refine wB ?_|refine wC ?_|refine wD ?_|refine wE ?_)|((with_reducible refine wN ?_ ?_);focus exact needA)|(with_reducible refine wG ?_)|(with_reducible refine wP ?_)))
  all_goals (try conv=>whnf)
  (refine ⟨⟨_,[],[],Cut.nil _,Ln.sameB _ rfl,?_,rfl⟩⟩)
  rw [hL];rfl
end Go.Proofs.Ytdipcdallenmkaa

namespace Go.Proofs.Ytdipcdallenmkaa
open Go.RowKit

theorem FBit.v {op:BinOp} {k:IntKind} {x y z:Int} {K:Int → Prop} (hz:rawBit op k x y = z) (h:K z):FBit op k x y K:=⟨hz ▸ h⟩
set_option maxHeartbeats 4000000
set_option maxRecDepth 100000
theorem mul64_ok (n:Int) (hn:n = 2 ∨ n = 3 ∨ n = 4 ∨ n = 5):ACall Try.prog 82 [.int .u64 1,.int .u64 n] [] (fun r h=>r = .tup 2 (ofL [.int .u64 0,.int .u64 n]) ∧ h = []):=by
 (refine fcall_of mixed Try.func82 rfl (by decide) (hs:={}) ?k (ac:=?ac) ?c (rs:=?rs) ?r ?l ?H;(case k=>kernel_rfl);(case c=>(conv=>(lhs;cbv)));(case r=>(conv=>(lhs;cbv)));(case l=>exact Nat.le_of_ble_eq_true rfl))
 rcases hn with rfl|rfl|rfl|rfl
 all_goals (repeat' ((try conv=>whnf);first|(with_reducible first|refine wT ?_|refine wF ?_|(refine wI (fun hq=>?_) (fun hq=>?_) <;> try simp only [zA,zE,zD,zJ,zB,zI,wK,wL] at hq)|refine wA ?_|refine wB ?_|refine wC ?_|refine wD ?_|refine wE ?_)|((with_reducible refine wN ?_ ?_);focus exact needA)|(with_reducible refine wG ?_)|(first|refine FBit.v (z:=0) (by decide) ?_|refine FBit.v (z:=1) (by decide) ?_|refine FBit.v (z:=2) (by decide) ?_|refine FBit.v (z:=3) (by decide) ?_|refine FBit.v (z:=4) (by decide) ?_|refine FBit.v (z:=5) (by decide) ?_)|(refine Fits.inU (by omega) ?_)|(with_reducible refine wP ?_)))
 all_goals (try conv=>whnf)
 all_goals
  (refine ⟨⟨_,[],[],Cut.nil _,Ln.sameB _ rfl,?_,rfl⟩⟩)
  rfl
theorem mul_ok (n:Int) (hn:n = 2 ∨ n = 3 ∨ n = 4 ∨ n = 5):ACall Try.prog 76 [.int .u64 1,.int .u64 n] [] (fun r h=>r = .tup 2 (ofL [.int .u64 0,.int .u64 n]) ∧ h = []):=by
 (refine fcall_of mixed Try.func76 rfl (by decide) (hs:={}) ?k (ac:=?ac) ?c (rs:=?rs) ?r ?l ?H;(case k=>kernel_rfl);(case c=>(conv=>(lhs;cbv)));(case r=>(conv=>(lhs;cbv)));(case l=>exact Nat.le_of_ble_eq_true rfl))
 (repeat' ((try conv=>whnf);first|(with_reducible first|refine wT ?_|refine wF ?_|(refine wI (fun hq=>?_) (fun hq=>?_) <;> try simp only [zA,zE,zD,zJ,zB,zI,wK,wL] at hq)|refine wA ?_|refine wB ?_|refine wC ?_|refine wD ?_|refine wE ?_)|((with_reducible refine wN ?_ ?_);focus exact needA)|(with_reducible refine wG ?_)|(refine FCall.pure ((mul64_ok n hn)) ⟨Ln.sameB _ rfl,Ln.sameB _ rfl,True.intro⟩ rfl ?_)|(with_reducible refine wP ?_)))
 all_goals (try conv=>whnf)
 all_goals
  (refine ⟨⟨_,[],[],Cut.nil _,Ln.sameB _ rfl,?_,rfl⟩⟩)
  rfl
abbrev one1 : AV:=.sl false true 1 1 (fun _ _=>AI (-1))
def halfG (m:Nat):Nat → Int:=fun k=>if k < m then -1 else 0
theorem repeat_ok (n:Nat) (hn:2 ≤ n ∧ n ≤ 5):ACall Try.prog 65 [one1,AI n] [] (fun r h=>r = .own 0 n ∧ h = [rowG n (fun _=>-1)]):=by
 have hn5:(n:Int) = 2 ∨ (n:Int) = 3 ∨ (n:Int) = 4 ∨ (n:Int) = 5:=by omega
 (refine fcall_of mixed Try.func65 rfl (by decide) (hs:={}) ?k (ac:=?ac) ?c (rs:=?rs) ?r ?l ?H;(case k=>kernel_rfl);(case c=>(conv=>(lhs;cbv)));(case r=>(conv=>(lhs;cbv)));(case l=>exact Nat.le_of_ble_eq_true rfl))
 (repeat' ((try conv=>whnf);first|(with_reducible first|refine wT ?_|refine wF ?_|(refine wI (fun hq=>?_) (fun hq=>?_) <;> try simp only [zA,zE,zD,zJ,zB,zI,wK,wL] at hq)|refine wA ?_|refine wB ?_|refine wC ?_|refine wD ?_|refine wE ?_)|((with_reducible refine wN ?_ ?_);focus exact needA)|(with_reducible refine wG ?_)|(refine FCall.pure ((mul_ok n hn5)) ⟨Ln.sameB _ rfl,Ln.sameB _ rfl,True.intro⟩ rfl ?_)|(refine Fits.inU (by omega) ?_)|(with_reducible refine wP ?_)))
 all_goals (try conv=>whnf)
 refine FLoop.of (ACalls.mono _) (X:=Nat) (fun m=>[(7,.own 0 n),(8,AI m)]) (fun m=>[rowG n (halfG m)]) (fun m=>1 ≤ m ∧ m ≤ n) (fun m=>n - m) 1 ⟨⟨by omega,by omega⟩,[0],?cut,?vals⟩ ?_
 case cut =>
  refine wO rfl rfl rfl (wV rfl (LnB.rowE (by omega) (fun k hk o ho=>?_)) wX)
  simp only [cpc,halfG]
  obtain rfl:o = 0:=by omega
  by_cases h:k < 1
  ·rw [if_pos h,if_pos (by omega)]
  ·rw [if_neg h,if_neg (by omega)];rfl
 case vals=>exact ⟨Ln.own _ _ _ rfl,Ln.int (by omega),True.intro⟩
 intro m hm
 by_cases hlt:m < n
 ·(repeat' ((try conv=>whnf);first|(with_reducible first|refine wT ?_|refine wF ?_|(refine wI (fun hq=>?_) (fun hq=>?_) <;> try simp only [zA,zE,zD,zJ,zB,zI,wK,wL] at hq)|refine wA ?_|refine wB ?_|refine wC ?_|refine wD ?_|refine wE ?_)|((with_reducible refine wN ?_ ?_);focus exact needA)|(with_reducible refine wG ?_)|(with_reducible refine wP ?_)))
  all_goals (try conv=>whnf)
  refine ⟨⟨m + min m (n - m),⟨by omega,by omega⟩,by show n - _ < n - m;omega,[0],?cut,?vals⟩⟩
  case cut =>
   refine wO rfl rfl rfl (wV rfl (LnB.rowE (Nat.le_refl _) (fun k hk o ho=>?_)) wX)
   simp only [cpc,halfG]
   by_cases h1:m ≤ k ∧ k < m + min m (n - m)
   ·rw [if_pos h1,if_pos (by omega),if_pos (by omega)]
   ·rw [if_neg h1]
    by_cases h2:k < m
    ·rw [if_pos h2,if_pos (by omega)]
    ·rw [if_neg h2,if_neg (by omega)]
  case vals=>exact ⟨Ln.own _ _ _ rfl,Ln.int (by omega),True.intro⟩
 ·obtain rfl:m = n:=by omega
  (repeat' ((try conv=>whnf);first|(with_reducible first|refine wT ?_|refine wF ?_|(refine wI (fun hq=>?_) (fun hq=>?_) <;> try simp only [zA,zE,zD,zJ,zB,zI,wK,wL] at hq)|refine wA ?_|refine wB ?_|refine wC ?_|refine wD ?_|refine wE ?_)|((with_reducible refine wN ?_ ?_);focus exact needA)|(with_reducible refine wG ?_)|(with_reducible refine wP ?_)))
  all_goals (try conv=>whnf)
  refine ⟨⟨.own 0 m,[rowG m (fun _=>-1)],[0],?_,Ln.own _ _ _ rfl,rfl,rfl⟩⟩
  refine wO rfl rfl rfl (wV rfl (LnB.rowE (Nat.le_refl _) (fun k hk o ho=>?_)) wX)
  simp only [halfG]
  rw [if_pos hk]
end Go.Proofs.Ytdipcdallenmkaa

namespace Go.Proofs.Ytdipcdallenmkaa

def cntU (g:Nat → Int):Nat → Nat
 | 0=>0
 | k + 1=>cntU g k + if g k < 0 then 1 else 0
theorem cntU_same {g:Nat → Int} {p:Nat} {v:Int}:∀ {n:Nat},n ≤ p → cntU (updI g p v) n = cntU g n
 | 0,_=>rfl
 | k + 1,h=>by
  simp only [cntU]
  rw [cntU_same (by omega),show updI g p v k = g k from if_neg (by omega)]
theorem cntU_upd {g:Nat → Int} {p:Nat} {v:Int} (hg:g p < 0) (hv:0 ≤ v):∀ {n:Nat},p < n → cntU (updI g p v) n + 1 = cntU g n
 | 0,h=>by omega
 | k + 1,h=>by
  simp only [cntU]
  by_cases e:p = k
  ·subst e
   rw [cntU_same (Nat.le_refl _),show updI g p v p = v from if_pos rfl,if_neg (by omega),if_pos hg]
  ·have:=cntU_upd hg hv (n:=k) (by omega)
   rw [show updI g p v k = g k from if_neg (by omega)]
   omega
/-- What is so while the head of the queue is served; p: how many languages were looked at. -/
structure BInv (n:Nat) (R:Nat → Nat → Bool) (t:Nat) (g:Nat → Int) (q:List Nat):Prop where
 walk:∀ x,x < n → g x = -1 ∨ ∃ k:Nat,g x = k ∧ Walk n R k t x
 start:g t = 0
 mem:∀ y ∈ q,y < n ∧ 0 ≤ g y
 done:∀ y,y < n → 0 ≤ g y → ¬ y ∈ q → ∀ x,x < n → R y x = true → 0 ≤ g x ∧ g x ≤ g y + 1
 sort:q.Pairwise (fun a b=>g a ≤ g b)
 top:∀ h l,q = h :: l → ∀ x,x < n → g x ≤ g h + 1
section
variable {n t:Nat} {R:Nat → Nat → Bool} {g:Nat → Int} {q:List Nat}
theorem BInv.begin (ht:t < n):BInv n R t (updI (fun _=>-1) t 0) [t] where
 walk x hx:=by
  by_cases e:x = t
  ·subst e;exact .inr ⟨0,if_pos rfl,rfl⟩
  ·exact .inl (if_neg e)
 start:=if_pos rfl
 mem y hy:=by rw [List.mem_singleton] at hy;subst hy;exact ⟨ht,by rw [show updI (fun _=>-1) y 0 y = 0 from if_pos rfl];omega⟩
 done y hy h hn:=by
  have e:y ≠ t:=fun e=>hn (by rw [e];simp)
  rw [show updI (fun _=>-1) t 0 y = -1 from if_neg e] at h
  omega
 sort:=List.pairwise_singleton _ _
 top h l e x hx:=by
  injection e with e1 e2
  subst e1
  rw [show updI (fun _=>-1) t 0 t = 0 from if_pos rfl]
  by_cases e:x = t
  ·rw [show updI (fun _=>-1) t 0 x = 0 from if_pos e];omega
  ·rw [show updI (fun _=>-1) t 0 x = -1 from if_neg e];omega
theorem BInv.push {h:Nat} {l:List Nat} {p:Nat} (B:BInv n R t g (h :: l)) (hp:p < n) (hg:g p < 0) (hR:R h p = true):BInv n R t (updI g p (g h + 1)) (h :: (l ++ [p])):=by
 have hh:=B.mem h (by simp)
 have same:∀ {x},0 ≤ g x → updI g p (g h + 1) x = g x:=fun {x} hx=>if_neg (fun e=>by subst e;omega)
 have atp:updI g p (g h + 1) p = g h + 1:=if_pos rfl
 have hpt:p ≠ t:=fun e=>by subst e;have:=B.start;omega
 refine ⟨fun x hx=>?_,(if_neg (fun e=>hpt e.symm)).trans B.start,fun y hy=>?_,fun y hy h0 hn x hx hyx=>?_,?_,fun h' l' e x hx=>?_⟩
 ·by_cases e:x = p
  ·subst e
   rcases B.walk h hh.1 with e|⟨k,e1,e2⟩
   ·omega
   ·exact .inr ⟨k + 1,by rw [atp,e1];rfl,⟨h,hh.1,e2,hR⟩⟩
  ·rw [show updI g p (g h + 1) x = g x from if_neg e];exact B.walk x hx
 ·rw [← List.cons_append] at hy
  rcases List.mem_append.1 hy with hy|hy
  ·have:=B.mem y hy;rw [same this.2];exact this
  ·rw [List.mem_singleton] at hy;subst hy;rw [atp];exact ⟨hp,by omega⟩
 ·have hn1:¬ y ∈ h :: l:=fun hc=>hn (by rw [← List.cons_append];exact List.mem_append.2 (.inl hc))
  have hyp:y ≠ p:=fun e=>hn (by rw [e];simp)
  rw [show updI g p (g h + 1) y = g y from if_neg hyp] at h0 ⊢
  have:=B.done y hy h0 hn1 x hx hyx
  rw [same this.1];exact this
 ·rw [← List.cons_append,List.pairwise_append]
  refine ⟨?_,List.pairwise_singleton _ _,fun a ha b hb=>?_⟩
  ·refine List.Pairwise.imp_of_mem (fun {a b} ha hb hab=>?_) B.sort
   rw [same (B.mem a ha).2,same (B.mem b hb).2];exact hab
  ·rw [List.mem_singleton] at hb;subst hb
   rw [atp,same (B.mem a ha).2];exact B.top h l rfl a (B.mem a ha).1
 ·injection e with e1 e2
  subst e1
  rw [same hh.2]
  by_cases e:x = p
  ·subst e;rw [atp];omega
  ·rw [show updI g p (g h + 1) x = g x from if_neg e];exact B.top h l rfl x hx
theorem BInv.pop {h:Nat} {l:List Nat} (B:BInv n R t g (h :: l)) (hd:∀ x,x < n → R h x = true → 0 ≤ g x):BInv n R t g l:=by
 have hs:=B.sort
 rw [List.pairwise_cons] at hs
 refine ⟨B.walk,B.start,fun y hy=>B.mem y (by simp [hy]),fun y hy h0 hn x hx hyx=>?_,hs.2,fun h' l' e x hx=>?_⟩
 ·by_cases e:y = h
  ·subst e;exact ⟨hd x hx hyx,B.top y l rfl x hx⟩
  ·exact B.done y hy h0 (fun hc=>by rcases List.mem_cons.1 hc with hc|hc;exact e hc;exact hn hc) x hx hyx
 ·have:=B.top h l rfl x hx
  have:=hs.1 h' (by rw [e];simp)
  omega
theorem BInv.fin (B:BInv n R t g []) (ht:t < n) {x:Nat} (hx:x < n):g x = dist n R t x:=by
 have key:∀ (k:Nat) (x:Nat),x < n → Walk n R k t x → 0 ≤ g x ∧ g x ≤ k:=by
  intro k
  induction k with
  | zero=>intro x hx e;have e:t = x:=e;subst e;have:=B.start;omega
  | succ k ih =>
   rintro x hx ⟨c,hc,hw,hR⟩
   have h1:=ih c hc hw
   have:=B.done c hc h1.1 (by simp) x hx hR
   omega
 symm
 refine dist_eq ?_
 rcases B.walk x hx with e|⟨k,e1,e2⟩
 ·exact .inl ⟨e,fun k hk=>by have:=key k x hx hk;omega⟩
 ·exact .inr ⟨k,e1,e2,fun m hm=>by have:=key m x hx hm;omega⟩
end
end Go.Proofs.Ytdipcdallenmkaa
