/- Cover: the program's Check (printed by gen_cod.py). / Cover: the reference's Missing, serves, stands, Covered, IsSafe, Safe. / Cover: how many can be ill -/
import Derived.Test.YtjfldbkjfaopbaaBp17
set_option linter.unusedSimpArgs false
set_option linter.unusedVariables false
namespace Go.Proofs.Ytjfldbkjfaopbaa
open Go.RowKit

theorem Ln.boxP {σ:Nat → Nat → Prop} {Bp:Nat → Prop} {H:List AB} {d o m:Nat} {c c':Nat → AV} (h:Bp d) (hd:H[d]? = some (.box m c)) (hc:LnN σ Bp H m c c') (hp:((List.range m).all fun i=>(c' i).pureB) = true):Ln σ Bp H (.ptr d o) (.ip m c' o) :=
 Ln.pubp d o m c c' h hd hc.get fun i hi=>pureB_ok _ (by simp only [List.all_eq_true,List.mem_range] at hp;exact hp i hi)
/-- The first place from a place on at which something is so, or -1. -/
def idxP (n:Nat) (p:Nat → Bool):Nat → Nat → Int
 | 0,_=>-1
 | k + 1,i=>if p i then i else idxP n p k (i + 1)
theorem idxP_any {n:Nat} {p:Nat → Bool}:∀ {k i:Nat},(0 ≤ idxP n p k i) ↔ ∃ j,i ≤ j ∧ j < i + k ∧ p j = true
 | 0,i=>by simp only [idxP];constructor;(· intro h;omega);(· rintro ⟨j,h1,h2,_⟩;omega)
 | k + 1,i=>by
  simp only [idxP]
  split
  ·rename_i h;exact ⟨fun _=>⟨i,by omega,by omega,h⟩,fun _=>by omega⟩
  ·rename_i h
   rw [idxP_any]
   constructor
   ·rintro ⟨j,h1,h2,h3⟩;exact ⟨j,by omega,by omega,h3⟩
   ·rintro ⟨j,h1,h2,h3⟩
    rcases Nat.eq_or_lt_of_le h1 with e|e
    ·subst e;exact (h h3).elim
    ·exact ⟨j,e,by omega,h3⟩
theorem any_idx {α:Type} {q:α → Bool} {l:List α} (d:α):decide (0 ≤ idxP l.length (fun k=>q (l.getD k d)) l.length 0) = l.any q:=by
 rw [Bool.eq_iff_iff]
 simp only [decide_eq_true_eq,idxP_any,List.any_eq_true]
 constructor
 ·rintro ⟨j,_,hj,h⟩
  have hj:j < l.length:=by omega
  exact ⟨l[j],List.getElem_mem hj,by simpa [List.getD,List.getElem?_eq_getElem hj] using h⟩
 ·rintro ⟨x,hx,h⟩
  obtain ⟨k,hk,rfl⟩:=List.getElem_of_mem hx
  exact ⟨k,by omega,by omega,by simpa [List.getD,List.getElem?_eq_getElem hk] using h⟩
abbrev iFn (v:AV):AV:=.ip 1 (ofL [v]) 0
abbrev iInt (n:Int):AV:=.ip 1 (ofL [AI n]) 0
abbrev fTo : AV:=.fn 51 0 (ofL [])
abbrev fNeed (n:Int):AV:=.fn 52 2 (ofL [iInt n,iFn fTo])
abbrev fFolk (n s:Int):AV:=.fn 55 3 (ofL [iFn fTo,iInt n,iInt s])
set_option maxHeartbeats 4000000
set_option maxRecDepth 100000
theorem to_ok (n m:Int):ACall Try.prog 51 [AI n,AI m] [] (fun r h=>r = .bool (inB n 0 m) ∧ h = []):=by
 (refine fcall_of mixed Try.func51 rfl (by decide) (hs:={}) ?k (ac:=?ac) ?c (rs:=?rs) ?r ?l ?H;(case k=>kernel_rfl);(case c=>(conv=>(lhs;cbv)));(case r=>(conv=>(lhs;cbv)));(case l=>exact Nat.le_of_ble_eq_true rfl))
 (repeat' ((try conv=>whnf);first|(with_reducible first|refine wT ?_|refine wF ?_|(refine wI (fun hq=>?_) (fun hq=>?_) <;> try simp only [zA,zE,zD,zJ,zB,zI,wK,wL] at hq)|refine wA ?_|refine wB ?_|refine wC ?_|refine wD ?_|refine wE ?_)|((with_reducible refine wN ?_ ?_);focus exact needA)|(with_reducible refine wG ?_)|(with_reducible refine wP ?_)))
 all_goals ((refine ⟨⟨_,[],[],Cut.nil _,Ln.sameB _ rfl,?_,rfl⟩⟩);unfold inB;(exact avB))
theorem to1_ok (n:Int):ACall Try.prog 54 [AI n,iFn fTo] [] (fun r h=>r = .bool (!inB n 0 8) ∧ h = []):=by
 (refine fcall_of mixed Try.func54 rfl (by decide) (hs:={}) ?k (ac:=?ac) ?c (rs:=?rs) ?r ?l ?H;(case k=>kernel_rfl);(case c=>(conv=>(lhs;cbv)));(case r=>(conv=>(lhs;cbv)));(case l=>exact Nat.le_of_ble_eq_true rfl))
 (repeat' ((try conv=>whnf);first|(with_reducible first|refine wT ?_|refine wF ?_|(refine wI (fun hq=>?_) (fun hq=>?_) <;> try simp only [zA,zE,zD,zJ,zB,zI,wK,wL] at hq)|refine wA ?_|refine wB ?_|refine wC ?_|refine wD ?_|refine wE ?_)|((with_reducible refine wN ?_ ?_);focus exact needA)|(with_reducible refine wG ?_)|(refine FCall.pure ((to_ok _ _)) ⟨Ln.sameB _ rfl,Ln.sameB _ rfl,True.intro⟩ rfl ?_)|(with_reducible refine wP ?_)))
 all_goals (try conv=>whnf)
 (refine ⟨⟨_,[],[],Cut.nil _,Ln.sameB _ rfl,?_,rfl⟩⟩)
 rfl
theorem idx_int (z e:Bool) (l:List Int) (q:Int → Bool) (hl:l.length ≤ 1000) (hG:∀ k,k < l.length → ACall Try.prog 54 (AI (l.getD k 0) :: [iFn fTo]) [] (fun r h=>r = .bool (q (l.getD k 0)) ∧ h = [])):ACall Try.prog 64 [aInts z e l,(.fn 54 1 (ofL [iFn fTo]))] [] (fun r h=>r = AI (idxP l.length (fun k=>q (l.getD k 0)) l.length 0) ∧ h = []):=by
 (refine fcall_of mixed Try.func64 rfl (by decide) (hs:={}) ?k (ac:=?ac) ?c (rs:=?rs) ?r ?l ?H;(case k=>kernel_rfl);(case c=>(conv=>(lhs;cbv)));(case r=>(conv=>(lhs;cbv)));(case l=>exact Nat.le_of_ble_eq_true rfl))
 (repeat' ((try conv=>whnf);first|(with_reducible first|refine wT ?_|refine wF ?_|(refine wI (fun hq=>?_) (fun hq=>?_) <;> try simp only [zA,zE,zD,zJ,zB,zI,wK,wL] at hq)|refine wA ?_|refine wB ?_|refine wC ?_|refine wD ?_|refine wE ?_)|((with_reducible refine wN ?_ ?_);focus exact needA)|(with_reducible refine wG ?_)|(with_reducible refine wP ?_)))
 all_goals (try conv=>whnf)
 refine FLoop.of (ACalls.mono _) (X:=Nat) (fun k=>[(0,aInts z e l),(1,(.fn 54 1 (ofL [iFn fTo]))),(7,AI l.length),(8,AI k)]) (fun _=>[]) (fun k=>k ≤ l.length ∧ idxP l.length (fun k=>q (l.getD k 0)) l.length 0 = idxP l.length (fun k=>q (l.getD k 0)) (l.length - k) k) (fun k=>l.length - k) 0 ⟨⟨Nat.zero_le _,rfl⟩,[],Cut.A,allA⟩ ?_
 rintro k ⟨hk,hL⟩
 by_cases hlt:k < l.length
 ·obtain ⟨m,hm⟩:∃ m,l.length - k = m + 1:=⟨l.length - k - 1,by omega⟩
  rw [hm,idxP] at hL
  have hGk:=hG k hlt
  (repeat' ((try conv=>whnf);first|(with_reducible first|refine wT ?_|refine wF ?_|(refine wI (fun hq=>?_) (fun hq=>?_) <;> try simp only [zA,zE,zD,zJ,zB,zI,wK,wL] at hq)|refine wA ?_|refine wB ?_|refine wC ?_|refine wD ?_|refine wE ?_)|((with_reducible refine wN ?_ ?_);focus exact needA)|(with_reducible refine wG ?_)|(refine FCall.pure (hGk) ⟨Ln.sameB _ rfl,Ln.sameB _ rfl,True.intro⟩ rfl ?_)|(with_reducible refine wP ?_)))
  all_goals (try conv=>whnf)
  ·(refine ⟨⟨_,[],[],Cut.nil _,Ln.sameB _ rfl,?_,rfl⟩⟩)
   rw [hL,if_pos hq]
  ·(exact ⟨⟨(k + 1),⟨hlt,by rw [hL,if_neg (by rw [hq];decide),show l.length - (k + 1) = m by omega]⟩,by show _ < _;omega,[],Cut.A,allA⟩⟩)
 ·rw [show l.length - k = 0 by omega,idxP] at hL
  (repeat' ((try conv=>whnf);first|(with_reducible first|refine wT ?_|refine wF ?_|(refine wI (fun hq=>?_) (fun hq=>?_) <;> try simp only [zA,zE,zD,zJ,zB,zI,wK,wL] at hq)|refine wA ?_|refine wB ?_|refine wC ?_|refine wD ?_|refine wE ?_)|((with_reducible refine wN ?_ ?_);focus exact needA)|(with_reducible refine wG ?_)|(with_reducible refine wP ?_)))
  all_goals (try conv=>whnf)
  (refine ⟨⟨_,[],[],Cut.nil _,Ln.sameB _ rfl,?_,rfl⟩⟩)
  rw [hL]
theorem cont_int (z e:Bool) (l:List Int) (q:Int → Bool) (hl:l.length ≤ 1000) (hG:∀ k,k < l.length → ACall Try.prog 54 (AI (l.getD k 0) :: [iFn fTo]) [] (fun r h=>r = .bool (q (l.getD k 0)) ∧ h = [])):ACall Try.prog 53 [aInts z e l,(.fn 54 1 (ofL [iFn fTo]))] [] (fun r h=>r = .bool (l.any q) ∧ h = []):=by
 have hI:=idx_int z e l q hl hG
 (refine fcall_of mixed Try.func53 rfl (by decide) (hs:={}) ?k (ac:=?ac) ?c (rs:=?rs) ?r ?l ?H;(case k=>kernel_rfl);(case c=>(conv=>(lhs;cbv)));(case r=>(conv=>(lhs;cbv)));(case l=>exact Nat.le_of_ble_eq_true rfl))
 (repeat' ((try conv=>whnf);first|(with_reducible first|refine wT ?_|refine wF ?_|(refine wI (fun hq=>?_) (fun hq=>?_) <;> try simp only [zA,zE,zD,zJ,zB,zI,wK,wL] at hq)|refine wA ?_|refine wB ?_|refine wC ?_|refine wD ?_|refine wE ?_)|((with_reducible refine wN ?_ ?_);focus exact needA)|(with_reducible refine wG ?_)|(refine FCall.pure (hI) ⟨Ln.sameB _ rfl,Ln.sameB _ rfl,True.intro⟩ rfl ?_)|(with_reducible refine wP ?_)))
 all_goals (try conv=>whnf)
 all_goals (refine ⟨⟨_,[],[],Cut.nil _,Ln.sameB _ rfl,?_,rfl⟩⟩)
 all_goals rw [← any_idx 0]
theorem need_ok (z e:Bool) (r:List Int) (n:Int) (hr:r.length ≤ 1000):ACall Try.prog 52 [aInts z e r,iInt n,iFn fTo] [] (fun v h=>v = .bool (decide ((r.length:Int) = n) && r.all fun x=>inB x 0 8) ∧ h = []):=by
 have hC:=cont_int z e r (fun x=>!inB x 0 8) hr (fun k _=>to1_ok _)
 (refine fcall_of mixed Try.func52 rfl (by decide) (hs:={}) ?k (ac:=?ac) ?c (rs:=?rs) ?r ?l ?H;(case k=>kernel_rfl);(case c=>(conv=>(lhs;cbv)));(case r=>(conv=>(lhs;cbv)));(case l=>exact Nat.le_of_ble_eq_true rfl))
 (repeat' ((try conv=>whnf);first|(with_reducible first|refine wT ?_|refine wF ?_|(refine wI (fun hq=>?_) (fun hq=>?_) <;> try simp only [zA,zE,zD,zJ,zB,zI,wK,wL] at hq)|refine wA ?_|refine wB ?_|refine wC ?_|refine wD ?_|refine wE ?_)|((with_reducible refine wN ?_ ?_);focus exact needA)|(with_reducible refine wG ?_)|(refine FCall.pure (hC) ⟨Ln.sameB _ rfl,Ln.sameB _ rfl,True.intro⟩ rfl ?_)|(with_reducible refine wP ?_)))
 all_goals (try conv=>whnf)
 all_goals
  (refine ⟨⟨_,[],[],Cut.nil _,Ln.sameB _ rfl,?_,rfl⟩⟩)
  refine bool_eq ?_
  have e1:(r.any fun x=>!inB x 0 8) = !(r.all fun x=>inB x 0 8):=by rw [List.all_eq_not_any_not];simp
  first
  | (rw [e1,decide_eq_true (p:=(r.length:Int) = n) (by omega)];simp;done)
  | (rw [decide_eq_false (p:=(r.length:Int) = n) (by omega)];rfl)
theorem row1_ok (z e:Bool) (r:List Int) (n:Int) (hr:r.length ≤ 1000):ACall Try.prog 57 [aInts z e r,iFn (fNeed n)] [] (fun v h=>v = .bool (!(decide ((r.length:Int) = n) && r.all fun x=>inB x 0 8)) ∧ h = []):=by
 (refine fcall_of mixed Try.func57 rfl (by decide) (hs:={}) ?k (ac:=?ac) ?c (rs:=?rs) ?r ?l ?H;(case k=>kernel_rfl);(case c=>(conv=>(lhs;cbv)));(case r=>(conv=>(lhs;cbv)));(case l=>exact Nat.le_of_ble_eq_true rfl))
 (repeat' ((try conv=>whnf);first|(with_reducible first|refine wT ?_|refine wF ?_|(refine wI (fun hq=>?_) (fun hq=>?_) <;> try simp only [zA,zE,zD,zJ,zB,zI,wK,wL] at hq)|refine wA ?_|refine wB ?_|refine wC ?_|refine wD ?_|refine wE ?_)|((with_reducible refine wN ?_ ?_);focus exact needA)|(with_reducible refine wG ?_)|(refine FCall.pure ((need_ok z e r n hr)) ⟨Ln.sameB _ rfl,Ln.sameB _ rfl,Ln.sameB _ rfl,True.intro⟩ rfl ?_)|(with_reducible refine wP ?_)))
 all_goals (try conv=>whnf)
 (refine ⟨⟨_,[],[],Cut.nil _,Ln.sameB _ rfl,?_,rfl⟩⟩)
 rfl
theorem idx_rows (z e:Bool) (rz re:Nat → Bool) (n:Int) (l:List (List Int)) (q:List Int → Bool) (hl:l.length ≤ 1000) (hG:∀ k,k < l.length → ACall Try.prog 57 (aInts (rz k) (re k) (l.getD k []) :: [iFn (fNeed n)]) [] (fun r h=>r = .bool (q (l.getD k [])) ∧ h = [])):ACall Try.prog 65 [aRows z e rz re l,(.fn 57 1 (ofL [iFn (fNeed n)]))] [] (fun r h=>r = AI (idxP l.length (fun k=>q (l.getD k [])) l.length 0) ∧ h = []):=by
 (refine fcall_of mixed Try.func65 rfl (by decide) (hs:={}) ?k (ac:=?ac) ?c (rs:=?rs) ?r ?l ?H;(case k=>kernel_rfl);(case c=>(conv=>(lhs;cbv)));(case r=>(conv=>(lhs;cbv)));(case l=>exact Nat.le_of_ble_eq_true rfl))
 (repeat' ((try conv=>whnf);first|(with_reducible first|refine wT ?_|refine wF ?_|(refine wI (fun hq=>?_) (fun hq=>?_) <;> try simp only [zA,zE,zD,zJ,zB,zI,wK,wL] at hq)|refine wA ?_|refine wB ?_|refine wC ?_|refine wD ?_|refine wE ?_)|((with_reducible refine wN ?_ ?_);focus exact needA)|(with_reducible refine wG ?_)|(with_reducible refine wP ?_)))
 all_goals (try conv=>whnf)
 refine FLoop.of (ACalls.mono _) (X:=Nat) (fun k=>[(0,aRows z e rz re l),(1,(.fn 57 1 (ofL [iFn (fNeed n)]))),(7,AI l.length),(8,AI k)]) (fun _=>[]) (fun k=>k ≤ l.length ∧ idxP l.length (fun k=>q (l.getD k [])) l.length 0 = idxP l.length (fun k=>q (l.getD k [])) (l.length - k) k) (fun k=>l.length - k) 0 ⟨⟨Nat.zero_le _,rfl⟩,[],Cut.A,allA⟩ ?_
 rintro k ⟨hk,hL⟩
 by_cases hlt:k < l.length
 ·obtain ⟨m,hm⟩:∃ m,l.length - k = m + 1:=⟨l.length - k - 1,by omega⟩
  rw [hm,idxP] at hL
  have hGk:=hG k hlt
  (repeat' ((try conv=>whnf);first|(with_reducible first|refine wT ?_|refine wF ?_|(refine wI (fun hq=>?_) (fun hq=>?_) <;> try simp only [zA,zE,zD,zJ,zB,zI,wK,wL] at hq)|refine wA ?_|refine wB ?_|refine wC ?_|refine wD ?_|refine wE ?_)|((with_reducible refine wN ?_ ?_);focus exact needA)|(with_reducible refine wG ?_)|(refine FCall.pure (hGk) ⟨Ln.sameB _ rfl,Ln.sameB _ rfl,True.intro⟩ rfl ?_)|(with_reducible refine wP ?_)))
  all_goals (try conv=>whnf)
  ·(refine ⟨⟨_,[],[],Cut.nil _,Ln.sameB _ rfl,?_,rfl⟩⟩)
   rw [hL,if_pos hq]
  ·(exact ⟨⟨(k + 1),⟨hlt,by rw [hL,if_neg (by rw [hq];decide),show l.length - (k + 1) = m by omega]⟩,by show _ < _;omega,[],Cut.A,allA⟩⟩)
 ·rw [show l.length - k = 0 by omega,idxP] at hL
  (repeat' ((try conv=>whnf);first|(with_reducible first|refine wT ?_|refine wF ?_|(refine wI (fun hq=>?_) (fun hq=>?_) <;> try simp only [zA,zE,zD,zJ,zB,zI,wK,wL] at hq)|refine wA ?_|refine wB ?_|refine wC ?_|refine wD ?_|refine wE ?_)|((with_reducible refine wN ?_ ?_);focus exact needA)|(with_reducible refine wG ?_)|(with_reducible refine wP ?_)))
  all_goals (try conv=>whnf)
  (refine ⟨⟨_,[],[],Cut.nil _,Ln.sameB _ rfl,?_,rfl⟩⟩)
  rw [hL]
theorem cont_rows (z e:Bool) (rz re:Nat → Bool) (n:Int) (l:List (List Int)) (q:List Int → Bool) (hl:l.length ≤ 1000) (hG:∀ k,k < l.length → ACall Try.prog 57 (aInts (rz k) (re k) (l.getD k []) :: [iFn (fNeed n)]) [] (fun r h=>r = .bool (q (l.getD k [])) ∧ h = [])):ACall Try.prog 56 [aRows z e rz re l,(.fn 57 1 (ofL [iFn (fNeed n)]))] [] (fun r h=>r = .bool (l.any q) ∧ h = []):=by
 have hI:=idx_rows z e rz re n l q hl hG
 (refine fcall_of mixed Try.func56 rfl (by decide) (hs:={}) ?k (ac:=?ac) ?c (rs:=?rs) ?r ?l ?H;(case k=>kernel_rfl);(case c=>(conv=>(lhs;cbv)));(case r=>(conv=>(lhs;cbv)));(case l=>exact Nat.le_of_ble_eq_true rfl))
 (repeat' ((try conv=>whnf);first|(with_reducible first|refine wT ?_|refine wF ?_|(refine wI (fun hq=>?_) (fun hq=>?_) <;> try simp only [zA,zE,zD,zJ,zB,zI,wK,wL] at hq)|refine wA ?_|refine wB ?_|refine wC ?_|refine wD ?_|refine wE ?_)|((with_reducible refine wN ?_ ?_);focus exact needA)|(with_reducible refine wG ?_)|(refine FCall.pure (hI) ⟨Ln.sameB _ rfl,Ln.sameB _ rfl,True.intro⟩ rfl ?_)|(with_reducible refine wP ?_)))
 all_goals (try conv=>whnf)
 all_goals (refine ⟨⟨_,[],[],Cut.nil _,Ln.sameB _ rfl,?_,rfl⟩⟩)
 all_goals rw [← any_idx []]
theorem folk_ok (x:Folk) (t s:Nat) (ht:t ≤ 60) (hs:s ≤ 60):ACall Try.prog 55 [aFolk x,iFn fTo,iInt t,iInt s] [] (fun v h=>v = .bool (Folk.ok t s x) ∧ h = []):=by
 have h1:2 ^ t ≤ 1152921504606846976:=Nat.le_trans (Nat.pow_le_pow_right (by decide) ht) (by decide)
 have h2:2 ^ s ≤ 1152921504606846976:=Nat.le_trans (Nat.pow_le_pow_right (by decide) hs) (by decide)
 have h3:1 ≤ 2 ^ t:=Nat.two_pow_pos _
 have h4:1 ≤ 2 ^ s:=Nat.two_pow_pos _
 (refine fcall_of mixed Try.func55 rfl (by decide) (hs:={}) ?k (ac:=?ac) ?c (rs:=?rs) ?r ?l ?H;(case k=>kernel_rfl);(case c=>(conv=>(lhs;cbv)));(case r=>(conv=>(lhs;cbv)));(case l=>exact Nat.le_of_ble_eq_true rfl))
 (repeat' ((try conv=>whnf);first|(with_reducible first|refine wT ?_|refine wF ?_|(refine wI (fun hq=>?_) (fun hq=>?_) <;> try simp only [zA,zE,zD,zJ,zB,zI,wK,wL] at hq)|refine wA ?_|refine wB ?_|refine wC ?_|refine wD ?_|refine wE ?_)|((with_reducible refine wN ?_ ?_);focus exact needA)|(with_reducible first|refine FBit.hasT rfl (by assumption) ?_|refine FBit.hasF rfl (by assumption) ?_|refine FBit.shrN rfl (by omega) ?_|refine FBit.half rfl ?_|refine FBit.shl1 rfl (by omega) ?_|refine Fits.inU (by omega) ?_|refine FBit.shrNI rfl (by omega) ?_|refine FBit.shrIN rfl (by omega) (by omega) ?_|refine FBit.shrI rfl (by omega) (by omega) ?_|refine FBit.shl1I rfl (by omega) ?_)|(with_reducible refine FBit.has rfl (fun hq=>?_) (fun hq=>?_))|(with_reducible first|refine FBit.and1 rfl ?_|refine FBit.andN rfl (by omega) (by omega) ?_|refine FBit.orN rfl (by omega) (by omega) ?_|refine FBit.andNotN rfl (by omega) (by omega) ?_)|(with_reducible refine wG ?_)|(refine FCall.pure ((to_ok _ _)) ⟨Ln.sameB _ rfl,Ln.sameB _ rfl,True.intro⟩ rfl ?_)|(with_reducible refine wP ?_)))
 all_goals (try conv=>whnf)
 all_goals
  (refine ⟨⟨_,[],[],Cut.nil _,Ln.sameB _ rfl,?_,rfl⟩⟩)
  refine bool_eq ?_
  unfold Folk.ok
  rw [Bool.eq_iff_iff]
  simp only [inB,Bool.and_eq_true,decide_eq_true_eq,Bool.false_eq_true,false_iff,true_iff]
  omega
theorem folk1_ok (x:Folk) (t s:Nat) (ht:t ≤ 60) (hs:s ≤ 60):ACall Try.prog 59 [aFolk x,iFn (fFolk t s)] [] (fun v h=>v = .bool (!Folk.ok t s x) ∧ h = []):=by
 (refine fcall_of mixed Try.func59 rfl (by decide) (hs:={}) ?k (ac:=?ac) ?c (rs:=?rs) ?r ?l ?H;(case k=>kernel_rfl);(case c=>(conv=>(lhs;cbv)));(case r=>(conv=>(lhs;cbv)));(case l=>exact Nat.le_of_ble_eq_true rfl))
 (repeat' ((try conv=>whnf);first|(with_reducible first|refine wT ?_|refine wF ?_|(refine wI (fun hq=>?_) (fun hq=>?_) <;> try simp only [zA,zE,zD,zJ,zB,zI,wK,wL] at hq)|refine wA ?_|refine wB ?_|refine wC ?_|refine wD ?_|refine wE ?_)|((with_reducible refine wN ?_ ?_);focus exact needA)|(with_reducible refine wG ?_)|(refine FCall.pure ((folk_ok x t s ht hs)) ⟨Ln.sameB _ rfl,Ln.sameB _ rfl,Ln.sameB _ rfl,Ln.sameB _ rfl,True.intro⟩ rfl ?_)|(with_reducible refine wP ?_)))
 all_goals (try conv=>whnf)
 (refine ⟨⟨_,[],[],Cut.nil _,Ln.sameB _ rfl,?_,rfl⟩⟩)
 rfl
theorem idx_folk (z e:Bool) (t s:Int) (l:List Folk) (q:Folk → Bool) (hl:l.length ≤ 1000) (hG:∀ k,k < l.length → ACall Try.prog 59 (aFolk (l.getD k fo0) :: [iFn (fFolk t s)]) [] (fun r h=>r = .bool (q (l.getD k fo0)) ∧ h = [])):ACall Try.prog 66 [aFolks z e l,(.fn 59 1 (ofL [iFn (fFolk t s)]))] [] (fun r h=>r = AI (idxP l.length (fun k=>q (l.getD k fo0)) l.length 0) ∧ h = []):=by
 (refine fcall_of mixed Try.func66 rfl (by decide) (hs:={}) ?k (ac:=?ac) ?c (rs:=?rs) ?r ?l ?H;(case k=>kernel_rfl);(case c=>(conv=>(lhs;cbv)));(case r=>(conv=>(lhs;cbv)));(case l=>exact Nat.le_of_ble_eq_true rfl))
 (repeat' ((try conv=>whnf);first|(with_reducible first|refine wT ?_|refine wF ?_|(refine wI (fun hq=>?_) (fun hq=>?_) <;> try simp only [zA,zE,zD,zJ,zB,zI,wK,wL] at hq)|refine wA ?_|refine wB ?_|refine wC ?_|refine wD ?_|refine wE ?_)|((with_reducible refine wN ?_ ?_);focus exact needA)|(with_reducible refine wG ?_)|(with_reducible refine wP ?_)))
 all_goals (try conv=>whnf)
 refine FLoop.of (ACalls.mono _) (X:=Nat) (fun k=>[(0,aFolks z e l),(1,(.fn 59 1 (ofL [iFn (fFolk t s)]))),(7,AI l.length),(8,AI k)]) (fun _=>[]) (fun k=>k ≤ l.length ∧ idxP l.length (fun k=>q (l.getD k fo0)) l.length 0 = idxP l.length (fun k=>q (l.getD k fo0)) (l.length - k) k) (fun k=>l.length - k) 0 ⟨⟨Nat.zero_le _,rfl⟩,[],Cut.A,allA⟩ ?_
 rintro k ⟨hk,hL⟩
 by_cases hlt:k < l.length
 ·obtain ⟨m,hm⟩:∃ m,l.length - k = m + 1:=⟨l.length - k - 1,by omega⟩
  rw [hm,idxP] at hL
  have hGk:=hG k hlt
  (repeat' ((try conv=>whnf);first|(with_reducible first|refine wT ?_|refine wF ?_|(refine wI (fun hq=>?_) (fun hq=>?_) <;> try simp only [zA,zE,zD,zJ,zB,zI,wK,wL] at hq)|refine wA ?_|refine wB ?_|refine wC ?_|refine wD ?_|refine wE ?_)|((with_reducible refine wN ?_ ?_);focus exact needA)|(with_reducible refine wG ?_)|(refine FCall.pure (hGk) ⟨Ln.sameB _ rfl,Ln.sameB _ rfl,True.intro⟩ rfl ?_)|(with_reducible refine wP ?_)))
  all_goals (try conv=>whnf)
  ·(refine ⟨⟨_,[],[],Cut.nil _,Ln.sameB _ rfl,?_,rfl⟩⟩)
   rw [hL,if_pos hq]
  ·(exact ⟨⟨(k + 1),⟨hlt,by rw [hL,if_neg (by rw [hq];decide),show l.length - (k + 1) = m by omega]⟩,by show _ < _;omega,[],Cut.A,allA⟩⟩)
 ·rw [show l.length - k = 0 by omega,idxP] at hL
  (repeat' ((try conv=>whnf);first|(with_reducible first|refine wT ?_|refine wF ?_|(refine wI (fun hq=>?_) (fun hq=>?_) <;> try simp only [zA,zE,zD,zJ,zB,zI,wK,wL] at hq)|refine wA ?_|refine wB ?_|refine wC ?_|refine wD ?_|refine wE ?_)|((with_reducible refine wN ?_ ?_);focus exact needA)|(with_reducible refine wG ?_)|(with_reducible refine wP ?_)))
  all_goals (try conv=>whnf)
  (refine ⟨⟨_,[],[],Cut.nil _,Ln.sameB _ rfl,?_,rfl⟩⟩)
  rw [hL]
theorem cont_folk (z e:Bool) (t s:Int) (l:List Folk) (q:Folk → Bool) (hl:l.length ≤ 1000) (hG:∀ k,k < l.length → ACall Try.prog 59 (aFolk (l.getD k fo0) :: [iFn (fFolk t s)]) [] (fun r h=>r = .bool (q (l.getD k fo0)) ∧ h = [])):ACall Try.prog 58 [aFolks z e l,(.fn 59 1 (ofL [iFn (fFolk t s)]))] [] (fun r h=>r = .bool (l.any q) ∧ h = []):=by
 have hI:=idx_folk z e t s l q hl hG
 (refine fcall_of mixed Try.func58 rfl (by decide) (hs:={}) ?k (ac:=?ac) ?c (rs:=?rs) ?r ?l ?H;(case k=>kernel_rfl);(case c=>(conv=>(lhs;cbv)));(case r=>(conv=>(lhs;cbv)));(case l=>exact Nat.le_of_ble_eq_true rfl))
 (repeat' ((try conv=>whnf);first|(with_reducible first|refine wT ?_|refine wF ?_|(refine wI (fun hq=>?_) (fun hq=>?_) <;> try simp only [zA,zE,zD,zJ,zB,zI,wK,wL] at hq)|refine wA ?_|refine wB ?_|refine wC ?_|refine wD ?_|refine wE ?_)|((with_reducible refine wN ?_ ?_);focus exact needA)|(with_reducible refine wG ?_)|(refine FCall.pure (hI) ⟨Ln.sameB _ rfl,Ln.sameB _ rfl,True.intro⟩ rfl ?_)|(with_reducible refine wP ?_)))
 all_goals (try conv=>whnf)
 all_goals (refine ⟨⟨_,[],[],Cut.nil _,Ln.sameB _ rfl,?_,rfl⟩⟩)
 all_goals rw [← any_idx fo0]
theorem check_ok (f:PoF) (p:Pool) (hn:NearP p):ACall Try.prog 44 [aPool f p] [] (fun r h=>r = AI (checkP p) ∧ h = []):=by
 have n1:=hn.f
 have n2:=hn.n
 (refine fcall_of mixed Try.func44 rfl (by decide) (hs:={ pub:=[8] }) ?k (ac:=?ac) ?c (rs:=?rs) ?r ?l ?H;(case k=>kernel_rfl);(case c=>(conv=>(lhs;cbv)));(case r=>(conv=>(lhs;cbv)));(case l=>exact Nat.le_of_ble_eq_true rfl))
 (repeat' ((try conv=>whnf);first|(with_reducible first|refine wT ?_|refine wF ?_|(refine wI (fun hq=>?_) (fun hq=>?_) <;> try simp only [zA,zE,zD,zJ,zB,zI,wK,wL] at hq)|refine wA ?_|refine wB ?_|refine wC ?_|refine wD ?_|refine wE ?_)|((with_reducible refine wN ?_ ?_);focus exact needA)|(with_reducible refine wG ?_)|(refine FCall.pure ((to_ok _ _)) ⟨Ln.sameB _ rfl,Ln.sameB _ rfl,True.intro⟩ rfl ?_)|(with_reducible refine wP ?_)))
 all_goals (try conv=>whnf)
 all_goals (try ((refine ⟨⟨_,[],[],Cut.nil _,Ln.sameB _ rfl,?_,rfl⟩⟩);rw [check_head (Bool.eq_false_iff.2 fun h=>by have:=head_d.1 h;omega)];done))
 refine FWk.of [(1,.ptr 0 0),(5,iInt p.nT),(6,iFn (fNeed p.nT)),(7,iFn (fFolk p.nT p.needs.length))] [.box 4 (cPool f p)] [0] Cut.A ⟨Ln.A,Ln.boxP (m:=1) (goneB rfl) rfl ⟨True.intro,Ln.A⟩ rfl,Ln.boxP (m:=1) (goneB rfl) rfl ⟨True.intro,Ln.fnN ⟨⟨True.intro,Ln.boxP (m:=1) (goneB rfl) rfl ⟨True.intro,Ln.A⟩ rfl⟩,Ln.boxP (m:=1) (goneB rfl) rfl ⟨True.intro,Ln.A⟩ rfl⟩⟩ rfl,Ln.boxP (m:=1) (goneB rfl) rfl ⟨True.intro,Ln.fnN ⟨⟨⟨True.intro,Ln.boxP (m:=1) (goneB rfl) rfl ⟨True.intro,Ln.A⟩ rfl⟩,Ln.boxP (m:=1) (goneB rfl) rfl ⟨True.intro,Ln.A⟩ rfl⟩,Ln.boxP (m:=1) (goneB rfl) rfl ⟨True.intro,Ln.A⟩ rfl⟩⟩ rfl,True.intro⟩ ?_
 by_cases ht:(p.nT:Int) ≤ 5
 ·have cR:=cont_rows f.zn f.en f.rz f.re p.nT p.needs (fun r=>!(decide ((r.length:Int) = p.nT) && r.all fun x=>inB x 0 8)) n2 (fun k hk=>row1_ok _ _ _ _ (hn.r k hk))
  have cF:=cont_folk f.zf f.ef p.nT p.needs.length p.folk (fun x=>!Folk.ok p.nT p.needs.length x) n1 (fun k hk=>folk1_ok _ _ _ (by omega) (by omega))
  have eR:(p.needs.any fun r=>!(decide ((r.length:Int) = p.nT) && r.all fun x=>inB x 0 8)) = !(p.needs.all (rowOk p.nT)):=by
   rw [List.all_eq_not_any_not,Bool.not_not]
   congr 1;funext r;unfold rowOk
   congr 2
   rw [Bool.eq_iff_iff];simp only [decide_eq_true_eq];omega
  have eF:(p.folk.any fun x=>!Folk.ok p.nT p.needs.length x) = !(p.folk.all (Folk.ok p.nT p.needs.length)):=by rw [List.all_eq_not_any_not,Bool.not_not]
  rw [eR] at cR
  rw [eF] at cF
  by_cases h0:(1:Int) ≤ p.nT
  ·have hh:headOk p = true:=head_d.2 (by omega)
   (repeat' ((try conv=>whnf);first|(with_reducible first|refine wT ?_|refine wF ?_|(refine wI (fun hq=>?_) (fun hq=>?_) <;> try simp only [zA,zE,zD,zJ,zB,zI,wK,wL] at hq)|refine wA ?_|refine wB ?_|refine wC ?_|refine wD ?_|refine wE ?_)|((with_reducible refine wN ?_ ?_);focus exact needA)|(with_reducible refine wG ?_)|(refine FCall.pure (cR) ⟨Ln.sameB _ rfl,Ln.sameB _ rfl,True.intro⟩ rfl ?_)|(refine FCall.pure (cF) ⟨Ln.sameB _ rfl,Ln.sameB _ rfl,True.intro⟩ rfl ?_)|(with_reducible refine wP ?_)))
   all_goals (try conv=>whnf)
   ·(refine ⟨⟨_,[],[],Cut.nil _,Ln.sameB _ rfl,?_,rfl⟩⟩)
    rw [check_rows hq]
   ·(refine ⟨⟨_,[],[],Cut.nil _,Ln.sameB _ rfl,?_,rfl⟩⟩)
    rw [check_folk hq]
   ·(refine ⟨⟨_,[],[],Cut.nil _,Ln.sameB _ rfl,?_,rfl⟩⟩)
    rw [check_0.2 (by rw [ok_parts,hh,show p.needs.all (rowOk p.nT) = true by assumption,hq];rfl)]
  ·(repeat' ((try conv=>whnf);first|(with_reducible first|refine wT ?_|refine wF ?_|(refine wI (fun hq=>?_) (fun hq=>?_) <;> try simp only [zA,zE,zD,zJ,zB,zI,wK,wL] at hq)|refine wA ?_|refine wB ?_|refine wC ?_|refine wD ?_|refine wE ?_)|((with_reducible refine wN ?_ ?_);focus exact needA)|(with_reducible refine wG ?_)|(with_reducible refine wP ?_)))
   all_goals (try conv=>whnf)
   (refine ⟨⟨_,[],[],Cut.nil _,Ln.sameB _ rfl,?_,rfl⟩⟩)
   rw [check_head (Bool.eq_false_iff.2 fun h=>by have:=head_d.1 h;omega)]
 ·(repeat' ((try conv=>whnf);first|(with_reducible first|refine wT ?_|refine wF ?_|(refine wI (fun hq=>?_) (fun hq=>?_) <;> try simp only [zA,zE,zD,zJ,zB,zI,wK,wL] at hq)|refine wA ?_|refine wB ?_|refine wC ?_|refine wD ?_|refine wE ?_)|((with_reducible refine wN ?_ ?_);focus exact needA)|(with_reducible refine wG ?_)|(with_reducible refine wP ?_)))
  all_goals (try conv=>whnf)
  (refine ⟨⟨_,[],[],Cut.nil _,Ln.sameB _ rfl,?_,rfl⟩⟩)
  rw [check_head (Bool.eq_false_iff.2 fun h=>by have:=head_d.1 h;omega)]
end Go.Proofs.Ytjfldbkjfaopbaa

namespace Go.Proofs.Ytjfldbkjfaopbaa
open Go.RowKit

theorem needTo_le {p:Pool} {s T:Nat} (h:∀ t,t < p.nT → 0 ≤ (p.row s).getD t 0 ∧ (p.row s).getD t 0 ≤ 8):∀ k,k ≤ p.nT → 0 ≤ needTo p s T k ∧ needTo p s T k ≤ 8 * k
 | 0,_=>⟨Int.le_refl _,Int.le_refl _⟩
 | k + 1,hk=>by
  have:=needTo_le (T:=T) h k (by omega)
  have:=h k (by omega)
  simp only [needTo]
  split <;> omega
theorem whoTo_le (p:Pool) (g T:Nat):∀ k,whoTo p g T k ≤ k
 | 0=>Nat.le_refl _
 | k + 1=>by have:=whoTo_le p g T k;simp only [whoTo];split <;> omega
theorem need_b {p:Pool} (h:PoolOk p) {s:Nat} (hs:s < p.needs.length) (T:Nat):0 ≤ needT p s T ∧ needT p s T ≤ 40:=by
 have:=needTo_le (T:=T) (h.row s hs).2 p.nT (Nat.le_refl _)
 have:=h.t5
 unfold needT;omega
theorem who_b {p:Pool} (h:PoolOk p) (g T:Nat):whoT p g T ≤ 8:=by
 have:=whoTo_le p g T p.folk.length
 have:=h.n8
 unfold whoT;omega
theorem tg_lt {p:Pool} (h:PoolOk p) {i:Nat} (hi:i < p.folk.length):p.tg i < 2 ^ p.nT:=by
 have:=(h.folk i hi).1
 unfold Pool.tg;omega
theorem pow5 {n:Nat} (h:n ≤ 5):1 ≤ 2 ^ n ∧ 2 ^ n ≤ 32:=⟨Nat.two_pow_pos _,Nat.le_trans (Nat.pow_le_pow_right (by decide) h) (by decide)⟩
set_option maxHeartbeats 4000000
set_option maxRecDepth 100000
/-- What a possible watch is. -/
structure WatchOk (p:Pool) (w:List Int):Prop where
 len:w.length = p.needs.length
 el:∀ s,s < w.length → 0 ≤ w.getD s 0 ∧ (w.getD s 0).toNat < 2 ^ p.folk.length ∧ canT p s (w.getD s 0).toNat = true
 on:∀ i,i < p.folk.length → (onTo w i w.length:Int) ≤ p.most
theorem watch_d {p:Pool} {w:List Int} (h:isWatch p w = true):WatchOk p w:=by
 unfold isWatch at h
 simp only [Bool.and_eq_true,decide_eq_true_eq] at h
 obtain ⟨⟨a,b⟩,c⟩:=h
 refine ⟨a,fun s hs=>?_,fun i hi=>of_decide_eq_true (rall_get c hi)⟩
 have:=rall_get b hs
 unfold canBe at this
 simp only [inB,Bool.and_eq_true,decide_eq_true_eq] at this
 exact ⟨this.1.1,by omega,this.2⟩
theorem watch_lt {p:Pool} {w:List Int} (h:PoolOk p) (k:WatchOk p w) {s:Nat} (hs:s < w.length):0 ≤ w.getD s 0 ∧ (w.getD s 0).toNat < 256:=by
 have:=k.el s hs
 have:=pow8 h.n8
 omega
theorem checkW_d {p:Pool} {w:List Int} (h:checkW p w = 0):PoolOk p ∧ WatchOk p w:=by
 unfold checkW at h
 split at h
 ·rename_i h1
  split at h
  ·rename_i h2;exact ⟨pool_d h1,watch_d h2⟩
  ·cases h
 ·cases h
end Go.Proofs.Ytjfldbkjfaopbaa

namespace Go.Proofs.Ytjfldbkjfaopbaa
open Go.RowKit

theorem popTo_add {a b:Nat} (h:a &&& b = 0):∀ k,popTo (a ||| b) k = popTo a k + popTo b k
 | 0=>rfl
 | k + 1=>by
  have ih:=popTo_add h k
  have hb:¬ (a.testBit k = true ∧ b.testBit k = true):=fun ⟨h1,h2⟩=>by
   have:(a &&& b).testBit k = true:=by rw [Nat.testBit_and,h1,h2];rfl
   rw [h,Nat.zero_testBit] at this;cases this
  simp only [popTo,Nat.testBit_or,ih]
  cases ha:a.testBit k <;> cases hbb:b.testBit k <;> simp_all <;> omega
theorem popTo_bits {a b:Nat}:∀ k,(∀ i,i < k → a.testBit i = b.testBit i) → popTo a k = popTo b k
 | 0,_=>rfl
 | k + 1,h=>by rw [popTo,popTo,popTo_bits k (fun i hi=>h i (by omega)),h k (by omega)]
theorem popTo_sub {a b:Nat}:∀ k,(∀ i,i < k → a.testBit i = true → b.testBit i = true) → popTo a k ≤ popTo b k
 | 0,_=>Nat.le_refl _
 | k + 1,h=>by
  have:=popTo_sub k (fun i hi=>h i (by omega))
  have:=h k (by omega)
  simp only [popTo]
  cases ha:a.testBit k <;> cases hb:b.testBit k <;> simp_all <;> omega
/-- A part of a set with so many elements. -/
theorem part_of {g:Nat}:∀ k m,m ≤ popTo g k → ∃ a,(∀ i,a.testBit i = true → i < k ∧ g.testBit i = true) ∧ popTo a k = m
 | 0,m,h=>⟨0,fun i hi=>by simp at hi,by simp only [popTo] at *;omega⟩
 | k + 1,m,h=>by
  by_cases hm:m ≤ popTo g k
  ·obtain ⟨a,h1,h2⟩:=part_of (g:=g) k m hm
   refine ⟨a,fun i hi=>⟨by have:=(h1 i hi).1;omega,(h1 i hi).2⟩,?_⟩
   rw [popTo,h2,if_neg (fun h=>by have:=(h1 k h).1;omega)];rfl
  ·rw [popTo] at h
   have hb:g.testBit k = true:=by
    cases hb:g.testBit k
    ·rw [hb] at h;simp at h;omega
    ·rfl
   rw [hb,if_pos rfl] at h
   obtain ⟨a,h1,h2⟩:=part_of (g:=g) k (m - 1) (by omega)
   have hak:a.testBit k = false:=by
    cases hx:a.testBit k
    ·rfl
    ·have:=(h1 k hx).1;omega
   refine ⟨a ||| 2 ^ k,fun i hi=>?_,?_⟩
   ·rw [Nat.testBit_or,Bool.or_eq_true] at hi
    rcases hi with hi|hi
    ·exact ⟨by have:=(h1 i hi).1;omega,(h1 i hi).2⟩
    ·rw [Nat.testBit_two_pow] at hi
     have:k = i:=by simpa using hi
     subst this;exact ⟨by omega,hb⟩
   ·have e:popTo (a ||| 2 ^ k) k = popTo a k:=popTo_bits k fun i hi=>by
     rw [Nat.testBit_or,Nat.testBit_two_pow,decide_eq_false (by omega),Bool.or_false]
    rw [popTo,e,h2,Nat.testBit_or,Nat.testBit_two_pow,decide_eq_true rfl,Bool.or_true,if_pos rfl]
    omega
theorem lt_of_bits {a n:Nat} (h:∀ i,a.testBit i = true → i < n):a < 2 ^ n:=by
 refine Nat.lt_pow_two_of_testBit a fun i hi=>?_
 cases hx:a.testBit i
 ·rfl
 ·have:=h i hx;omega
theorem bit_lt {a n i:Nat} (h:a < 2 ^ n) (hi:a.testBit i = true):i < n:=by
 rcases Nat.lt_or_ge i n with h'|h'
 ·exact h'
 ·rw [Nat.testBit_lt_two_pow (Nat.lt_of_lt_of_le h (Nat.pow_le_pow_right (by decide) h'))] at hi;cases hi
theorem le_of_bits {a b:Nat} (h:∀ i,a.testBit i = true → b.testBit i = true):a ≤ b:=by
 have:a &&& b = a:=by
  apply Nat.eq_of_testBit_eq
  intro i
  rw [Nat.testBit_and]
  cases ha:a.testBit i
  ·rfl
  ·rw [h i ha];rfl
 rw [← this];exact Nat.and_le_right
theorem sdiff_z {a b:Nat}:sdiff a b = 0 ↔ ∀ i,a.testBit i = true → b.testBit i = true:=by
 constructor
 ·intro h i hi
  have:=testBit_sdiff a b i
  rw [h,Nat.zero_testBit,hi,Bool.true_and] at this
  cases hb:b.testBit i
  ·rw [hb] at this;cases this
  ·rfl
 ·intro h
  apply Nat.eq_of_testBit_eq
  intro k
  rw [testBit_sdiff,Nat.zero_testBit]
  cases ha:a.testBit k
  ·rfl
  ·rw [h k ha];rfl
/-- The people of a set who have some of some languages, as a set. -/
def whoSet (p:Pool) (T:Nat):Nat → Nat
 | 0=>0
 | k + 1=>whoSet p T k ||| if p.tg k &&& T ≠ 0 then 2 ^ k else 0
theorem whoSet_bit (p:Pool) (T:Nat):∀ k i,(whoSet p T k).testBit i = (decide (i < k) && decide (p.tg i &&& T ≠ 0))
 | 0,i=>by simp [whoSet]
 | k + 1,i=>by
  rw [whoSet,Nat.testBit_or,whoSet_bit p T k i]
  by_cases e:i = k
  ·subst e
   by_cases h:p.tg i &&& T ≠ 0
   ·rw [if_pos h,Nat.testBit_two_pow];simp [h]
   ·rw [if_neg h];simp [h]
  ·have hx:(if p.tg k &&& T ≠ 0 then 2 ^ k else 0).testBit i = false:=by
    split
    ·rw [Nat.testBit_two_pow];exact decide_eq_false (by omega)
    ·exact Nat.zero_testBit i
   rw [hx,Bool.or_false]
   by_cases h:i < k
   ·rw [decide_eq_true h,decide_eq_true (show i < k + 1 by omega)]
   ·rw [decide_eq_false h,decide_eq_false (show ¬ i < k + 1 by omega)]
theorem who_pop (p:Pool) (g T:Nat):∀ k,whoTo p g T k = popTo (g &&& whoSet p T p.folk.length) k ∨ p.folk.length < k
 | 0=>.inl rfl
 | k + 1=>by
  by_cases hk:p.folk.length < k + 1
  ·exact .inr hk
  ·left
   have ih:=(who_pop p g T k).resolve_right (by omega)
   rw [whoTo,popTo,ih,Nat.testBit_and,whoSet_bit,decide_eq_true (show k < p.folk.length by omega),Bool.true_and]
theorem who_eq (p:Pool) (g T:Nat):whoT p g T = popTo (g &&& whoSet p T p.folk.length) p.folk.length:=(who_pop p g T p.folk.length).resolve_right (by omega)
theorem pop_n {p:Pool} (h:PoolOk p) {g:Nat} (hg:g < 2 ^ p.folk.length):pop g = popTo g p.folk.length:=by
 have hp:=pow8 h.n8
 rw [← pop_popTo g (by omega)]
 have:∀ k,popTo g (p.folk.length + k) = popTo g p.folk.length:=by
  intro k
  induction k with
  | zero=>rfl
  | succ k ih =>
   rw [← Nat.add_assoc,popTo,ih,Nat.testBit_lt_two_pow (Nat.lt_of_lt_of_le hg (Nat.pow_le_pow_right (by decide) (by omega)))];rfl
 have h2:=this (8 - p.folk.length)
 rwa [show p.folk.length + (8 - p.folk.length) = 8 by have:=h.n8;omega] at h2
/-- What is left of a set with some languages when some are ill. -/
theorem who_sdiff (p:Pool) (g a T:Nat):whoT p (sdiff g a) T + popTo (g &&& whoSet p T p.folk.length &&& a) p.folk.length = whoT p g T:=by
 rw [who_eq,who_eq,← popTo_add]
 ·refine popTo_bits _ fun i hi=>?_
  rw [Nat.testBit_or,Nat.testBit_and,Nat.testBit_and,Nat.testBit_and,testBit_sdiff]
  cases g.testBit i <;> cases a.testBit i <;> cases (whoSet p T p.folk.length).testBit i <;> rfl
 ·apply Nat.eq_of_testBit_eq
  intro i
  rw [Nat.testBit_and,Nat.testBit_and,Nat.testBit_and,Nat.testBit_and,testBit_sdiff,Nat.zero_testBit]
  cases g.testBit i <;> cases a.testBit i <;> cases (whoSet p T p.folk.length).testBit i <;> rfl
theorem who_le_pop {p:Pool} (h:PoolOk p) {g:Nat} (hg:g < 2 ^ p.folk.length) (T:Nat):whoT p g T ≤ pop g:=by
 rw [pop_n h hg,who_eq]
 exact popTo_sub _ fun i _ hi=>by rw [Nat.testBit_and,Bool.and_eq_true] at hi;exact hi.1
theorem stands_iff {p:Pool} {s g:Nat} {k:Int}:standsT p s g k = true ↔ ∀ a,(∀ i,a.testBit i = true → g.testBit i = true) → (pop a:Int) ≤ k → ∀ T,T < 2 ^ p.nT → missT p s (sdiff g a) T ≤ 0:=by
 unfold standsT
 constructor
 ·intro h a ha hk T hT
  have:=rall_get h (i:=a) (by have:=le_of_bits ha;omega)
  rw [decide_eq_true (sdiff_z.2 ha),decide_eq_true hk] at this
  exact of_decide_eq_true (rall_get (show servesT p s (sdiff g a) = true from this) hT)
 ·intro h
  refine rall_yes fun a _=>?_
  by_cases h1:sdiff a g = 0
  ·by_cases h2:(pop a:Int) ≤ k
   ·have hs:servesT p s (sdiff g a) = true:=rall_yes fun T hT=>decide_eq_true (h a (sdiff_z.1 h1) h2 T hT)
    rw [hs,Bool.or_true]
   ·rw [decide_eq_false h2,Bool.and_false];rfl
  ·rw [decide_eq_false h1];rfl
/-- In a slot so many can be ill exactly if for each set of languages with a need so many more have one of them. -/
theorem stands_need {p:Pool} (h:PoolOk p) {s g:Nat} (hs:s < p.needs.length) (hn:∀ T,0 ≤ needT p s T) (hg:g < 2 ^ p.folk.length) {k:Int} (hk:0 ≤ k):standsT p s g k = true ↔ ∀ T,T < 2 ^ p.nT → 0 < needT p s T → k ≤ (whoT p g T:Int) - needT p s T:=by
 rw [stands_iff]
 constructor
 ·intro H T hT hnT
  obtain ⟨a,a1,a2⟩:=part_of (g:=g &&& whoSet p T p.folk.length) p.folk.length (min k.toNat (whoT p g T)) (by rw [← who_eq];omega)
  have ag:∀ i,a.testBit i = true → g.testBit i = true:=fun i hi=>by
   have:=(a1 i hi).2
   rw [Nat.testBit_and,Bool.and_eq_true] at this
   exact this.1
  have al:a < 2 ^ p.folk.length:=lt_of_bits fun i hi=>(a1 i hi).1
  have ap:=pop_n h al
  rw [a2] at ap
  have:=H a ag (by rw [ap];omega) T hT
  have hw:=who_sdiff p g a T
  have e:popTo (g &&& whoSet p T p.folk.length &&& a) p.folk.length = popTo a p.folk.length:=popTo_bits _ fun i hi=>by
   rw [Nat.testBit_and]
   cases hx:a.testBit i
   ·rw [Bool.and_false]
   ·rw [(a1 i hx).2];rfl
  rw [e,a2] at hw
  unfold missT at this
  omega
 ·intro H a ag ak T hT
  have hw:=who_sdiff p g a T
  unfold missT
  by_cases h0:0 < needT p s T
  ·have:=H T hT h0
   have al:a < 2 ^ p.folk.length:=lt_of_bits fun i hi=>bit_lt hg (ag i hi)
   have hle:popTo (g &&& whoSet p T p.folk.length &&& a) p.folk.length ≤ pop a:=by
    rw [pop_n h al]
    exact popTo_sub _ fun i _ hi=>by rw [Nat.testBit_and,Bool.and_eq_true] at hi;exact hi.2
   omega
  ·have:=hn T;omega
theorem spareTo_le {p:Pool} {s g:Nat} {k:Int}:∀ n,(k ≤ spareTo p s g n ↔ k ≤ pop g ∧ ∀ T,T < n → 0 < needT p s T → k ≤ (whoT p g T:Int) - needT p s T)
 | 0=>by simp only [spareTo];exact ⟨fun h=>⟨h,fun T hT=>by omega⟩,fun h=>h.1⟩
 | n + 1=>by
  have ih:=spareTo_le (p:=p) (s:=s) (g:=g) (k:=k) n
  rw [spareTo]
  split
  ·rename_i h0
   rw [Int.le_min,ih]
   constructor
   ·rintro ⟨⟨h1,h2⟩,h3⟩
    refine ⟨h1,fun T hT hnT=>?_⟩
    rcases Nat.lt_or_ge T n with h'|h'
    ·exact h2 T h' hnT
    ·obtain rfl:T = n:=by omega
     exact h3
   ·rintro ⟨h1,h2⟩
    exact ⟨⟨h1,fun T hT=>h2 T (by omega)⟩,h2 n (by omega) h0⟩
  ·rename_i h0
   rw [ih]
   constructor
   ·rintro ⟨h1,h2⟩
    refine ⟨h1,fun T hT hnT=>?_⟩
    rcases Nat.lt_or_ge T n with h'|h'
    ·exact h2 T h' hnT
    ·obtain rfl:T = n:=by omega
     exact absurd hnT h0
   ·rintro ⟨h1,h2⟩
    exact ⟨h1,fun T hT=>h2 T (by omega)⟩
theorem spare_le {p:Pool} (s g:Nat):spareTo p s g (2 ^ p.nT) ≤ pop g:=((spareTo_le (2 ^ p.nT)).1 (Int.le_refl _)).1
theorem spare_b {p:Pool} (s g:Nat):-1 ≤ spareT p s g ∧ spareT p s g ≤ pop g:=by
 have:=spare_le (p:=p) s g
 unfold spareT;omega
theorem need_nn {p:Pool} (h:PoolOk p) {s:Nat} (hs:s < p.needs.length) (T:Nat):0 ≤ needT p s T:=by
 have key:∀ k,k ≤ p.nT → 0 ≤ needTo p s T k:=by
  intro k
  induction k with
  | zero=>intro _;exact Int.le_refl _
  | succ k ih =>
   intro hk
   have:=ih (by omega)
   have:=(h.row s hs).2 k (by omega)
   simp only [needTo]
   split <;> omega
 exact key _ (Nat.le_refl _)
/-- THE READY SLOTS. -/
theorem stands_spare {p:Pool} (h:PoolOk p) {s g:Nat} (hs:s < p.needs.length) (hg:g < 2 ^ p.folk.length) {k:Int} (hk:0 ≤ k):standsT p s g k = true ↔ (k ≤ spareT p s g ∨ (pop g:Int) ≤ spareT p s g):=by
 have hm:∀ x:Int,0 ≤ x → (x ≤ spareT p s g ↔ x ≤ pop g ∧ ∀ T,T < 2 ^ p.nT → 0 < needT p s T → x ≤ (whoT p g T:Int) - needT p s T):=fun x hx=>by
  rw [← spareTo_le];unfold spareT;omega
 rw [stands_need h hs (need_nn h hs) hg hk,hm k hk,hm (pop g) (by omega)]
 constructor
 ·intro H
  by_cases hkp:k ≤ pop g
  ·exact .inl ⟨hkp,H⟩
  ·refine .inr ⟨Int.le_refl _,fun T hT hn=>?_⟩
   have:=H T hT hn
   have:=who_le_pop h hg T
   omega
 ·rintro (⟨_,H⟩|⟨_,H⟩)
  ·exact H
  ·intro T hT hn
   have:=H T hT hn
   have:=who_le_pop h hg T
   omega
theorem stands_mono {p:Pool} {s g:Nat} {k k':Int} (hk:k' ≤ k) (h:standsT p s g k = true):standsT p s g k' = true:=stands_iff.2 fun a a1 a2=>stands_iff.1 h a a1 (Int.le_trans a2 hk)
end Go.Proofs.Ytjfldbkjfaopbaa
