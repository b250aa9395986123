/- Glosses: films, valid glosses, in the program. / Glosses: the insertion sort of few messages. / Glosses: math/bits.Len by the library's contract. / Glosses: SortFunc of few messages; boxes of messages. / Glosses: boxes of messages; Check of the program. / Glosses: fill, sorted, check, Check of the program. / Glosses: Clone, DeleteFunc of messages; held, at (printed by gen_tsv.py). / Glosses: how many elements a set of at most ten has, in the program. / Glosses: readings of the program (printed by gen_tsx.py). -/
import Derived.Test.YtodpjdmdmmnlpaaGreatBt2
import Derived.Test.YtodpjdmdmmnlpaaGreatBt1
import Derived.Shelf.Lay
import Derived.Shelf.Small.Bits
import Derived.Ground.NamesProg
set_option linter.unusedSimpArgs false
set_option linter.unusedVariables false
namespace Go.Proofs.YtodpjdmdmmnlpaaGreat
open Go.RowKit

abbrev cFilms (z e:Bool) (f:Films):Nat → AV:=ofL [aInts z e f.fr,AI f.n]
abbrev aFilms (z e:Bool) (f:Films):AV:=.agg 2 (cFilms z e f)
def minK (l:List Int):Nat → Int
 | 0=>l.getD 0 0
 | k + 1=>min (minK l k) (l.getD (k + 1) 0)
def maxK (l:List Int):Nat → Int
 | 0=>l.getD 0 0
 | k + 1=>max (maxK l k) (l.getD (k + 1) 0)
theorem minK_le {l:List Int} {b:Int}:∀ {k:Nat},(∀ i,i ≤ k → b ≤ l.getD i 0) → b ≤ minK l k
 | 0,h=>h 0 (Nat.le_refl _)
 | k + 1,h=>by
  have a:=minK_le (l:=l) (b:=b) (k:=k) fun i hi=>h i (by omega)
  have b:=h (k + 1) (Nat.le_refl _)
  simp only [minK];omega
theorem maxK_le {l:List Int} {b:Int}:∀ {k:Nat},(∀ i,i ≤ k → l.getD i 0 ≤ b) → maxK l k ≤ b
 | 0,h=>h 0 (Nat.le_refl _)
 | k + 1,h=>by
  have a:=maxK_le (l:=l) (b:=b) (k:=k) fun i hi=>h i (by omega)
  have b:=h (k + 1) (Nat.le_refl _)
  simp only [maxK];omega
set_option maxHeartbeats 8000000
set_option maxRecDepth 100000
theorem min_ok (z e:Bool) (l:List Int) (h1:1 ≤ l.length) (h2:l.length ≤ 1000):ACall Tryz.prog 76 [aInts z e l] [] (fun r h=>r = AI (minK l (l.length - 1)) ∧ h = []):=by
 (refine fcall_of mixed Tryz.func76 rfl (by decide) (hs:={}) ?k (ac:=?ac) ?c (rs:=?rs) ?r ?l ?H;(case k=>kernel_rfl);(case c=>(conv=>(lhs;cbv)));(case r=>(conv=>(lhs;cbv)));(case l=>exact Nat.le_of_ble_eq_true rfl))
 (repeat' ((try conv=>whnf);first|(with_reducible first|refine wT ?_|refine wF ?_|(refine wI (fun hq=>?_) (fun hq=>?_) <;> try simp only [zA,zE,zD,zJ,zB,zI,wK,wL] at hq)|refine wA ?_|refine wB ?_|refine wC ?_|refine wD ?_|refine wE ?_)|((with_reducible refine wN ?_ ?_);focus exact needA)|(with_reducible refine wG ?_)|(with_reducible refine wP ?_)))
 all_goals (try conv=>whnf)
 refine FLoop.of (ACalls.mono _) (X:=Nat) (fun i=>[(0,aInts z e l),(3,AI (minK l i)),(4,AI (i + 1:Nat))]) (fun _=>[]) (fun i=>i + 1 ≤ l.length) (fun i=>l.length - i) 0 ⟨h1,[],Cut.A,allA⟩ ?_
 intro i hi
 by_cases hlt:i + 1 < l.length
 ·(repeat' ((try conv=>whnf);first|(with_reducible first|refine wT ?_|refine wF ?_|(refine wI (fun hq=>?_) (fun hq=>?_) <;> try simp only [zA,zE,zD,zJ,zB,zI,wK,wL] at hq)|refine wA ?_|refine wB ?_|refine wC ?_|refine wD ?_|refine wE ?_)|((with_reducible refine wN ?_ ?_);focus exact needA)|(with_reducible refine wG ?_)|(with_reducible refine wP ?_)))
  all_goals (try conv=>whnf)
  (exact ⟨⟨(i + 1),hlt,by show _ < _;omega,[],Cut.A,allA⟩⟩)
 ·have e1:i = l.length - 1:=by omega
  rw [← e1]
  (repeat' ((try conv=>whnf);first|(with_reducible first|refine wT ?_|refine wF ?_|(refine wI (fun hq=>?_) (fun hq=>?_) <;> try simp only [zA,zE,zD,zJ,zB,zI,wK,wL] at hq)|refine wA ?_|refine wB ?_|refine wC ?_|refine wD ?_|refine wE ?_)|((with_reducible refine wN ?_ ?_);focus exact needA)|(with_reducible refine wG ?_)|(with_reducible refine wP ?_)))
  all_goals (try conv=>whnf)
  (refine ⟨⟨_,[],[],Cut.nil _,Ln.sameB _ rfl,?_,rfl⟩⟩)
  rfl
theorem max_ok (z e:Bool) (l:List Int) (h1:1 ≤ l.length) (h2:l.length ≤ 1000):ACall Tryz.prog 77 [aInts z e l] [] (fun r h=>r = AI (maxK l (l.length - 1)) ∧ h = []):=by
 (refine fcall_of mixed Tryz.func77 rfl (by decide) (hs:={}) ?k (ac:=?ac) ?c (rs:=?rs) ?r ?l ?H;(case k=>kernel_rfl);(case c=>(conv=>(lhs;cbv)));(case r=>(conv=>(lhs;cbv)));(case l=>exact Nat.le_of_ble_eq_true rfl))
 (repeat' ((try conv=>whnf);first|(with_reducible first|refine wT ?_|refine wF ?_|(refine wI (fun hq=>?_) (fun hq=>?_) <;> try simp only [zA,zE,zD,zJ,zB,zI,wK,wL] at hq)|refine wA ?_|refine wB ?_|refine wC ?_|refine wD ?_|refine wE ?_)|((with_reducible refine wN ?_ ?_);focus exact needA)|(with_reducible refine wG ?_)|(with_reducible refine wP ?_)))
 all_goals (try conv=>whnf)
 refine FLoop.of (ACalls.mono _) (X:=Nat) (fun i=>[(0,aInts z e l),(3,AI (maxK l i)),(4,AI (i + 1:Nat))]) (fun _=>[]) (fun i=>i + 1 ≤ l.length) (fun i=>l.length - i) 0 ⟨h1,[],Cut.A,allA⟩ ?_
 intro i hi
 by_cases hlt:i + 1 < l.length
 ·(repeat' ((try conv=>whnf);first|(with_reducible first|refine wT ?_|refine wF ?_|(refine wI (fun hq=>?_) (fun hq=>?_) <;> try simp only [zA,zE,zD,zJ,zB,zI,wK,wL] at hq)|refine wA ?_|refine wB ?_|refine wC ?_|refine wD ?_|refine wE ?_)|((with_reducible refine wN ?_ ?_);focus exact needA)|(with_reducible refine wG ?_)|(with_reducible refine wP ?_)))
  all_goals (try conv=>whnf)
  (exact ⟨⟨(i + 1),hlt,by show _ < _;omega,[],Cut.A,allA⟩⟩)
 ·have e1:i = l.length - 1:=by omega
  rw [← e1]
  (repeat' ((try conv=>whnf);first|(with_reducible first|refine wT ?_|refine wF ?_|(refine wI (fun hq=>?_) (fun hq=>?_) <;> try simp only [zA,zE,zD,zJ,zB,zI,wK,wL] at hq)|refine wA ?_|refine wB ?_|refine wC ?_|refine wD ?_|refine wE ?_)|((with_reducible refine wN ?_ ?_);focus exact needA)|(with_reducible refine wG ?_)|(with_reducible refine wP ?_)))
  all_goals (try conv=>whnf)
  (refine ⟨⟨_,[],[],Cut.nil _,Ln.sameB _ rfl,?_,rfl⟩⟩)
  rfl
theorem filmsOk_ok (z e:Bool) (f:Films) (h:FilmsOk f):ACall Tryz.prog 44 [aFilms z e f] [] (fun r h=>r = .bool true ∧ h = []):=by
 have h1:=h.l
 have h2:=h.n
 have c1:=min_ok z e f.fr h1.1 (by omega)
 have c2:=max_ok z e f.fr h1.1 (by omega)
 have b1:1 ≤ minK f.fr (f.fr.length - 1):=minK_le fun i hi=>(h.fr i (by omega)).1
 have b2:maxK f.fr (f.fr.length - 1) ≤ 200:=maxK_le fun i hi=>(h.fr i (by omega)).2
 (refine fcall_of mixed Tryz.func44 rfl (by decide) (hs:={}) ?k (ac:=?ac) ?c (rs:=?rs) ?r ?l ?H;(case k=>kernel_rfl);(case c=>(conv=>(lhs;cbv)));(case r=>(conv=>(lhs;cbv)));(case l=>exact Nat.le_of_ble_eq_true rfl))
 (repeat' ((try conv=>whnf);first|(with_reducible first|refine wT ?_|refine wF ?_|(refine wI (fun hq=>?_) (fun hq=>?_) <;> try simp only [zA,zE,zD,zJ,zB,zI,wK,wL] at hq)|refine wA ?_|refine wB ?_|refine wC ?_|refine wD ?_|refine wE ?_)|((with_reducible refine wN ?_ ?_);focus exact needA)|(with_reducible refine wG ?_)|(refine FCall.pure (c1) ⟨Ln.sameB _ rfl,True.intro⟩ rfl ?_)|(refine FCall.pure (c2) ⟨Ln.sameB _ rfl,True.intro⟩ rfl ?_)|(with_reducible refine wP ?_)))
 all_goals (try conv=>whnf)
 all_goals first
  | (exfalso;omega)
  | ((refine ⟨⟨_,[],[],Cut.nil _,Ln.sameB _ rfl,?_,rfl⟩⟩);exact bool_eq (decide_eq_true (by omega)))
theorem author_ok (n:Int):ACall Tryz.prog 101 [AI n] [] (fun r h=>r = .bool (inB n 0 7) ∧ h = []):=by
 (refine fcall_of mixed Tryz.func101 rfl (by decide) (hs:={}) ?k (ac:=?ac) ?c (rs:=?rs) ?r ?l ?H;(case k=>kernel_rfl);(case c=>(conv=>(lhs;cbv)));(case r=>(conv=>(lhs;cbv)));(case l=>exact Nat.le_of_ble_eq_true rfl))
 (repeat' ((try conv=>whnf);first|(with_reducible first|refine wT ?_|refine wF ?_|(refine wI (fun hq=>?_) (fun hq=>?_) <;> try simp only [zA,zE,zD,zJ,zB,zI,wK,wL] at hq)|refine wA ?_|refine wB ?_|refine wC ?_|refine wD ?_|refine wE ?_)|((with_reducible refine wN ?_ ?_);focus exact needA)|(with_reducible refine wG ?_)|(with_reducible refine wP ?_)))
 all_goals ((refine ⟨⟨_,[],[],Cut.nil _,Ln.sameB _ rfl,?_,rfl⟩⟩);exact bool_eq (by rw [Bool.eq_iff_iff];simp only [decide_eq_true_eq,Bool.false_eq_true,false_iff];omega))
theorem film_ok (z e:Bool) (f:Films) (n:Int) (hl:f.fr.length ≤ 1000):ACall Tryz.prog 28 [aFilms z e f,AI n] [] (fun r h=>r = .bool (decide (0 ≤ n ∧ n < f.fr.length)) ∧ h = []):=by
 (refine fcall_of mixed Tryz.func28 rfl (by decide) (hs:={}) ?k (ac:=?ac) ?c (rs:=?rs) ?r ?l ?H;(case k=>kernel_rfl);(case c=>(conv=>(lhs;cbv)));(case r=>(conv=>(lhs;cbv)));(case l=>exact Nat.le_of_ble_eq_true rfl))
 (repeat' ((try conv=>whnf);first|(with_reducible first|refine wT ?_|refine wF ?_|(refine wI (fun hq=>?_) (fun hq=>?_) <;> try simp only [zA,zE,zD,zJ,zB,zI,wK,wL] at hq)|refine wA ?_|refine wB ?_|refine wC ?_|refine wD ?_|refine wE ?_)|((with_reducible refine wN ?_ ?_);focus exact needA)|(with_reducible refine wG ?_)|(with_reducible refine wP ?_)))
 all_goals ((refine ⟨⟨_,[],[],Cut.nil _,Ln.sameB _ rfl,?_,rfl⟩⟩);exact bool_eq (by rw [Bool.eq_iff_iff];simp only [decide_eq_true_eq,Bool.false_eq_true,false_iff];omega))
theorem takes_ok (z e:Bool) (f:Films) (g:Gl) (hf:FilmsOk f) (h:TakesOk f g):ACall Tryz.prog 79 [aFilms z e f,aGl g] [] (fun r h=>r = .bool true ∧ h = []):=by
 have c1:=author_ok g.au
 rw [show inB g.au 0 7 = true from decide_eq_true h.au] at c1
 have c2:=film_ok z e f g.fi (by have:=hf.l;omega)
 rw [show decide (0 ≤ g.fi ∧ g.fi < f.fr.length) = true from decide_eq_true h.fi] at c2
 have h2:=h.st
 have h3:=h.fi
 have h4:=h.fr
 have h5:=h.to
 have h6:=h.sg
 have h7:=hf.n
 have h8:=hf.l
 have h9:((2 ^ f.n.toNat:Nat):Int) ≤ 1024:=by
  have:2 ^ f.n.toNat ≤ 2 ^ 10:=Nat.pow_le_pow_right (by decide) (by omega)
  omega
 (refine fcall_of mixed Tryz.func79 rfl (by decide) (hs:={}) ?k (ac:=?ac) ?c (rs:=?rs) ?r ?l ?H;(case k=>kernel_rfl);(case c=>(conv=>(lhs;cbv)));(case r=>(conv=>(lhs;cbv)));(case l=>exact Nat.le_of_ble_eq_true rfl))
 (repeat' ((try conv=>whnf);first|(with_reducible first|refine wT ?_|refine wF ?_|(refine wI (fun hq=>?_) (fun hq=>?_) <;> try simp only [zA,zE,zD,zJ,zB,zI,wK,wL] at hq)|refine wA ?_|refine wB ?_|refine wC ?_|refine wD ?_|refine wE ?_)|((with_reducible refine wN ?_ ?_);focus exact needA)|(with_reducible refine wG ?_)|(refine FCall.pure (c1) ⟨Ln.sameB _ rfl,True.intro⟩ rfl ?_)|(refine FCall.pure (c2) ⟨Ln.sameB _ rfl,Ln.sameB _ rfl,True.intro⟩ rfl ?_)|(refine FBit.shl1I rfl (by omega) ?_)|(with_reducible refine wP ?_)))
 all_goals (try conv=>whnf)
 all_goals first
  | (exfalso;omega)
  | ((refine ⟨⟨_,[],[],Cut.nil _,Ln.sameB _ rfl,?_,rfl⟩⟩);exact bool_eq (decide_eq_true (by omega)))
abbrev iFilms (z e:Bool) (f:Films):AV:=.ip 2 (cFilms z e f) 0
theorem check1g_ok (z e:Bool) (f:Films) (g:Gl) (hf:FilmsOk f) (h:TakesOk f g):ACall Tryz.prog 78 [aGl g,iFilms z e f] [] (fun r h=>r = .bool false ∧ h = []):=by
 have cT:=takes_ok z e f g hf h
 (refine fcall_of mixed Tryz.func78 rfl (by decide) (hs:={}) ?k (ac:=?ac) ?c (rs:=?rs) ?r ?l ?H;(case k=>kernel_rfl);(case c=>(conv=>(lhs;cbv)));(case r=>(conv=>(lhs;cbv)));(case l=>exact Nat.le_of_ble_eq_true rfl))
 (repeat' ((try conv=>whnf);first|(with_reducible first|refine wT ?_|refine wF ?_|(refine wI (fun hq=>?_) (fun hq=>?_) <;> try simp only [zA,zE,zD,zJ,zB,zI,wK,wL] at hq)|refine wA ?_|refine wB ?_|refine wC ?_|refine wD ?_|refine wE ?_)|((with_reducible refine wN ?_ ?_);focus exact needA)|(with_reducible refine wG ?_)|(refine FCall.pure (cT) ⟨Ln.sameB _ rfl,Ln.sameB _ rfl,True.intro⟩ rfl ?_)|(with_reducible refine wP ?_)))
 all_goals (try conv=>whnf)
 (refine ⟨⟨_,[],[],Cut.nil _,Ln.sameB _ rfl,?_,rfl⟩⟩)
 rfl
theorem common_ok (a b:Gl):ACall Tryz.prog 53 [aGl a,aGl b] [] (fun r h=>r = .bool (common a b) ∧ h = []):=by
 unfold common
 (refine fcall_of mixed Tryz.func53 rfl (by decide) (hs:={}) ?k (ac:=?ac) ?c (rs:=?rs) ?r ?l ?H;(case k=>kernel_rfl);(case c=>(conv=>(lhs;cbv)));(case r=>(conv=>(lhs;cbv)));(case l=>exact Nat.le_of_ble_eq_true rfl))
 (repeat' ((try conv=>whnf);first|(with_reducible first|refine wT ?_|refine wF ?_|(refine wI (fun hq=>?_) (fun hq=>?_) <;> try simp only [zA,zE,zD,zJ,zB,zI,wK,wL] at hq)|refine wA ?_|refine wB ?_|refine wC ?_|refine wD ?_|refine wE ?_)|((with_reducible refine wN ?_ ?_);focus exact needA)|(with_reducible refine wG ?_)|(with_reducible refine wP ?_)))
 all_goals (try conv=>whnf)
 all_goals ((refine ⟨⟨_,[],[],Cut.nil _,Ln.sameB _ rfl,?_,rfl⟩⟩);exact bool_eq (by rw [Bool.eq_iff_iff];simp only [Bool.and_eq_true,decide_eq_true_eq,Bool.false_eq_true,false_iff];omega))
theorem gorder_ok (a b:Gl) (h1:-100000 ≤ a.au ∧ a.au ≤ 100000) (h2:-100000 ≤ b.au ∧ b.au ≤ 100000) (h3:-100000 ≤ a.st ∧ a.st ≤ 100000) (h4:-100000 ≤ b.st ∧ b.st ≤ 100000):ACall Tryz.prog 82 [aGl a,aGl b] [] (fun r h=>r = AI (cmpG a b) ∧ h = []):=by
 have cO:=or_ok 2 (fun k=>match k with|0=>a.au - b.au|_=>a.st - b.st) (by omega)
 rw [or_v2] at cO
 change ACall _ _ _ _ (fun r h=>r = AI (cmpG a b) ∧ h = []) at cO
 (refine fcall_of mixed Tryz.func82 rfl (by decide) (hs:={}) ?k (ac:=?ac) ?c (rs:=?rs) ?r ?l ?H;(case k=>kernel_rfl);(case c=>(conv=>(lhs;cbv)));(case r=>(conv=>(lhs;cbv)));(case l=>exact Nat.le_of_ble_eq_true rfl))
 (repeat' ((try conv=>whnf);first|(with_reducible first|refine wT ?_|refine wF ?_|(refine wI (fun hq=>?_) (fun hq=>?_) <;> try simp only [zA,zE,zD,zJ,zB,zI,wK,wL] at hq)|refine wA ?_|refine wB ?_|refine wC ?_|refine wD ?_|refine wE ?_)|((with_reducible refine wN ?_ ?_);focus exact needA)|(with_reducible refine wG ?_)|(refine FCall.pure cO ⟨Ln.row2 rfl rfl,True.intro⟩ rfl ?_)|(with_reducible refine wP ?_)))
 all_goals (try conv=>whnf)
 (refine ⟨⟨_,[],[],Cut.nil _,Ln.sameB _ rfl,?_,rfl⟩⟩)
 rfl
abbrev iGl (g:Gl):AV:=.ip 6 (cGl g) 0
theorem later_ok (g o:Gl):ACall Tryz.prog 52 [aGl o,iGl g] [] (fun r h=>r = .bool (laterB g o) ∧ h = []):=by
 have c1:=common_ok o g
 unfold laterB
 (refine fcall_of mixed Tryz.func52 rfl (by decide) (hs:={}) ?k (ac:=?ac) ?c (rs:=?rs) ?r ?l ?H;(case k=>kernel_rfl);(case c=>(conv=>(lhs;cbv)));(case r=>(conv=>(lhs;cbv)));(case l=>exact Nat.le_of_ble_eq_true rfl))
 (repeat' ((try conv=>whnf);first|(with_reducible first|refine wT ?_|refine wF ?_|(refine wI (fun hq=>?_) (fun hq=>?_) <;> try simp only [zA,zE,zD,zJ,zB,zI,wK,wL] at hq)|refine wA ?_|refine wB ?_|refine wC ?_|refine wD ?_|refine wE ?_)|((with_reducible refine wN ?_ ?_);focus exact needA)|(with_reducible refine wG ?_)|(refine FCall.pure (c1) ⟨Ln.sameB _ rfl,Ln.sameB _ rfl,True.intro⟩ rfl ?_)|(with_reducible refine wP ?_)))
 all_goals (try conv=>whnf)
 all_goals ((refine ⟨⟨_,[],[],Cut.nil _,Ln.sameB _ rfl,?_,rfl⟩⟩);first|(simp_all;done)|(rw [decide_eq_false (p:=g.st < o.st) (by omega),Bool.and_false];rfl)|skip)
end Go.Proofs.YtodpjdmdmmnlpaaGreat

namespace Go.Proofs.YtodpjdmdmmnlpaaGreat
open Go.RowKit

/-- The messages with those at j - 1 and j exchanged. -/
def swp (L:List Gl) (j:Nat):List Gl:=(L.set j (L.getD (j - 1) gl0)).set (j - 1) (L.getD j gl0)
theorem swp_len (L:List Gl) (j:Nat):(swp L j).length = L.length:=by simp [swp]
theorem getD_set {L:List Gl} {j k:Nat} {x:Gl} (hj:j < L.length):(L.set j x).getD k gl0 = if k = j then x else L.getD k gl0:=by
 by_cases e:k = j
 ·subst e;simp [List.getD,hj]
 ·simp [List.getD,List.getElem?_set,e,Ne.symm e]
theorem swp_get {L:List Gl} {j k:Nat} (hj:j < L.length) (h0:0 < j):(swp L j).getD k gl0 = if k = j - 1 then L.getD j gl0 else if k = j then L.getD (j - 1) gl0 else L.getD k gl0:=by
 unfold swp
 rw [getD_set (by simp;omega),getD_set hj]
theorem swp_perm {L:List Gl} {j:Nat} (hj:j < L.length) (h0:0 < j):(swp L j).Perm L:=by
 have h1:j - 1 < L.length:=by omega
 have e1:L.getD (j - 1) gl0 = L[j - 1]:=by simp [List.getD,h1]
 have e2:L.getD j gl0 = L[j]:=by simp [List.getD,hj]
 unfold swp
 rw [e1,e2]
 exact List.set_set_perm hj h1
/-- The keys of two different messages differ. -/
theorem keys_at {L:List Gl} (h:Keys L) {a b:Nat} (ha:a < L.length) (hb:b < L.length) (hne:a ≠ b):¬ ((L.getD a gl0).au = (L.getD b gl0).au ∧ (L.getD a gl0).st = (L.getD b gl0).st):=by
 have hp:=List.pairwise_iff_getElem.1 h
 have ea:L.getD a gl0 = L[a]:=by simp [List.getD,ha]
 have eb:L.getD b gl0 = L[b]:=by simp [List.getD,hb]
 rw [ea,eb]
 rcases Nat.lt_or_gt_of_ne hne with hlt|hlt
 ·exact hp a b ha hb hlt
 ·intro e;exact hp b a hb ha hlt ⟨e.1.symm,e.2.symm⟩
theorem keys_perm {L A:List Gl} (hp:L.Perm A) (h:Keys A):Keys L:=(hp.pairwise_iff (fun {x y} hxy e=>hxy ⟨e.1.symm,e.2.symm⟩)).2 h
/-- The first i messages are in order. -/
def SortedTo (L:List Gl) (i:Nat):Prop:=∀ a b,a < b → b < i → keyLt (L.getD a gl0) (L.getD b gl0)
structure InsI (A L:List Gl) (i j:Nat):Prop where
 len:L.length = A.length
 perm:L.Perm A
 ji:j ≤ i
 s1:∀ a b,a < b → b ≤ i → a ≠ j → b ≠ j → keyLt (L.getD a gl0) (L.getD b gl0)
 s2:∀ b,j < b → b ≤ i → keyLt (L.getD j gl0) (L.getD b gl0)
theorem insI_start {A L:List Gl} {i:Nat} (hl:L.length = A.length) (hp:L.Perm A) (h:SortedTo L i):InsI A L i i :=
 ⟨hl,hp,Nat.le_refl _,fun a b h1 h2 _ h4=>h a b h1 (by omega),fun b h1 h2=>by omega⟩
theorem insI_step {A L:List Gl} {i j:Nat} (h:InsI A L i j) (hi:i < A.length) (h0:0 < j) (hlt:keyLt (L.getD j gl0) (L.getD (j - 1) gl0)):InsI A (swp L j) i (j - 1):=by
 have hj:j < L.length:=by have:=h.len;have:=h.ji;omega
 refine ⟨by rw [swp_len];exact h.len,(swp_perm hj h0).trans h.perm,by have:=h.ji;omega,fun a b h1 h2 h3 h4=>?_,fun b h1 h2=>?_⟩
 ·rw [swp_get hj h0,swp_get hj h0,if_neg h3,if_neg h4]
  by_cases ea:a = j
  ·subst ea
   rw [if_pos rfl,if_neg (by omega)]
   exact h.s1 (a - 1) b (by omega) h2 (by omega) (by omega)
  ·rw [if_neg ea]
   by_cases eb:b = j
   ·subst eb
    rw [if_pos rfl]
    exact h.s1 a (b - 1) (by omega) (by omega) ea (by omega)
   ·rw [if_neg eb]
    exact h.s1 a b h1 h2 ea eb
 ·rw [swp_get hj h0,swp_get hj h0,if_pos rfl,if_neg (by omega)]
  by_cases eb:b = j
  ·subst eb;rw [if_pos rfl];exact hlt
  ·rw [if_neg eb];exact h.s2 b (by omega) h2
theorem insI_end {A L:List Gl} {i j:Nat} (h:InsI A L i j) (h0:j = 0 ∨ keyLt (L.getD (j - 1) gl0) (L.getD j gl0)):SortedTo L (i + 1):=fun a b h1 h2=>by
 by_cases ea:a = j
 ·subst ea;exact h.s2 b h1 (by omega)
 ·by_cases eb:b = j
  ·subst eb
   rcases h0 with h0|h0
   ·omega
   ·by_cases e:a = b - 1
    ·subst e;exact h0
    ·exact keyLt_trans (h.s1 a (b - 1) (by omega) (by have:=h.ji;omega) ea (by omega)) h0
  ·exact h.s1 a b h1 (by omega) ea eb
theorem sorted_pair {L:List Gl} (h:SortedTo L L.length):L.Pairwise keyLt:=List.pairwise_iff_getElem.2 fun a b ha hb hlt=>by
 have:=h a b hlt hb
 rwa [List.getD,List.getElem?_eq_getElem ha,List.getD,List.getElem?_eq_getElem hb] at this
/-- Messages of moderate keys. -/
def MidK (A:List Gl):Prop:=∀ g,g ∈ A → (0 ≤ g.au ∧ g.au ≤ 7) ∧ 0 ≤ g.st ∧ g.st ≤ 9999
theorem mid_at {A L:List Gl} (hp:L.Perm A) (h:MidK A) {k:Nat} (hk:k < L.length):(0 ≤ (L.getD k gl0).au ∧ (L.getD k gl0).au ≤ 7) ∧ 0 ≤ (L.getD k gl0).st ∧ (L.getD k gl0).st ≤ 9999 :=
 h _ (hp.mem_iff.1 (by rw [List.getD,List.getElem?_eq_getElem hk];exact List.getElem_mem hk))
abbrev rowG (n:Nat) (L:List Gl):AB:=.row n 6 (fun k=>cGl (L.getD k gl0))
abbrev fOrd : AV:=.fn 82 0 (ofL [])
theorem swp_row {L:List Gl} {j:Nat} (hj:j < L.length) (h0:0 < j) {u v:Nat → AV} (hu:∀ o,o < 6 → u o = cGl (L.getD (j - 1) gl0) o) (hv:∀ o,o < 6 → v o = cGl (L.getD j gl0) o) (k o:Nat) (ho:o < 6) :
  cGl ((swp L j).getD k gl0) o = updRm (updRm (fun k=>cGl (L.getD k gl0)) j u) (j - 1) v k o:=by
 rw [swp_get hj h0]
 simp only [updRm]
 by_cases e:k = j - 1
 ·rw [if_pos e,if_pos e];exact (hv o ho).symm
 ·rw [if_neg e,if_neg e]
  by_cases e2:k = j
  ·rw [if_pos e2,if_pos e2];exact (hu o ho).symm
  ·rw [if_neg e2,if_neg e2]
theorem Ln.eqI {σ:Nat → Nat → Prop} {Bp:Nat → Prop} {H:List AB} {a b:Int} (h:a = b):Ln σ Bp H (AI a) (AI b):=by subst h;exact Ln.sameB _ rfl
set_option maxHeartbeats 8000000
set_option maxRecDepth 100000
theorem insert_ok (A:List Gl) (hn:A.length ≤ 12) (hk:Keys A) (hm:MidK A):ACall Tryz.prog 122 [.own 0 A.length,AI 0,AI A.length,fOrd] [rowG A.length A] (fun r h=>r = .tup 0 (ofL []) ∧ h = [rowG A.length (srt A)]):=by
 (refine fcall_of mixed Tryz.func122 rfl (by decide) (hs:={}) ?k (ac:=?ac) ?c (rs:=?rs) ?r ?l ?H;(case k=>kernel_rfl);(case c=>(conv=>(lhs;cbv)));(case r=>(conv=>(lhs;cbv)));(case l=>exact Nat.le_of_ble_eq_true rfl))
 (repeat' ((try conv=>whnf);first|(with_reducible first|refine wT ?_|refine wF ?_|(refine wI (fun hq=>?_) (fun hq=>?_) <;> try simp only [zA,zE,zD,zJ,zB,zI,wK,wL] at hq)|refine wA ?_|refine wB ?_|refine wC ?_|refine wD ?_|refine wE ?_)|((with_reducible refine wN ?_ ?_);focus exact needA)|(with_reducible refine wG ?_)|(with_reducible refine wP ?_)))
 all_goals (try conv=>whnf)
 refine FLoop.of (ACalls.mono _) (X:=Nat × List Gl) (fun x=>[(0,.own 0 A.length),(1,AI 0),(2,AI A.length),(3,fOrd),(8,AI x.1)]) (fun x=>[rowG A.length x.2]) (fun x=>1 ≤ x.1 ∧ x.2.length = A.length ∧ x.2.Perm A ∧ SortedTo x.2 (min x.1 A.length)) (fun x=>A.length - x.1) (1,A) ⟨⟨Nat.le_refl _,rfl,List.Perm.refl _,fun a b h1 h2=>by omega⟩,[0],Cut.A,allA⟩ ?_
 rintro ⟨i,L⟩ ⟨h1,h2,h3,h4⟩
 change 1 ≤ i at h1
 change L.length = A.length at h2
 change L.Perm A at h3
 change SortedTo L (min i A.length) at h4
 dsimp only
 by_cases hlt:i < A.length
 ·rw [show min i A.length = i by omega] at h4
  (repeat' ((try conv=>whnf);first|(with_reducible first|refine wT ?_|refine wF ?_|(refine wI (fun hq=>?_) (fun hq=>?_) <;> try simp only [zA,zE,zD,zJ,zB,zI,wK,wL] at hq)|refine wA ?_|refine wB ?_|refine wC ?_|refine wD ?_|refine wE ?_)|((with_reducible refine wN ?_ ?_);focus exact needA)|(with_reducible refine wG ?_)|(with_reducible refine wP ?_)))
  all_goals (try conv=>whnf)
  refine FLoop.of (ACalls.mono _) (X:=Nat × List Gl) (fun x=>[(0,.own 0 A.length),(1,AI 0),(2,AI A.length),(3,fOrd),(8,AI i),(9,AI x.1)]) (fun x=>[rowG A.length x.2]) (fun x=>InsI A x.2 i x.1) (fun x=>x.1) (i,L) ⟨insI_start h2 h3 h4,[0],Cut.A,allA⟩ ?_
  rintro ⟨j,R⟩ hI
  change InsI A R i j at hI
  dsimp only
  have hji:=hI.ji
  have hRl:=hI.len
  by_cases h0:0 < j
  ·have b1:=mid_at hI.perm hm (k:=j) (by omega)
   have b2:=mid_at hI.perm hm (k:=j - 1) (by omega)
   have hix:((j:Int) - 1).toNat = j - 1:=by omega
   have cO:=gorder_ok (R.getD j gl0) (R.getD ((j:Int) - 1).toNat gl0) (by omega) (by rw [hix];omega) (by omega) (by rw [hix];omega)
   by_cases hkl:keyLt (R.getD j gl0) (R.getD (j - 1) gl0)
   ·have hc:cmpG (R.getD j gl0) (R.getD ((j:Int) - 1).toNat gl0) < 0:=by rw [hix];exact cmpG_neg.2 hkl
    (repeat' ((try conv=>whnf);first|(with_reducible first|refine wT ?_|refine wF ?_|(refine wI (fun hq=>?_) (fun hq=>?_) <;> try simp only [zA,zE,zD,zJ,zB,zI,wK,wL] at hq)|refine wA ?_|refine wB ?_|refine wC ?_|refine wD ?_|refine wE ?_)|((with_reducible refine wN ?_ ?_);focus exact needA)|(with_reducible refine wG ?_)|(refine FCall.pure (cO) ⟨Ln.sameB _ rfl,Ln.sameB _ rfl,True.intro⟩ rfl ?_)|(with_reducible refine wP ?_)))
    all_goals (try conv=>whnf)
    exact ⟨⟨(j - 1,swp R j),insI_step hI hlt h0 hkl,by show j - 1 < j;omega,[0],wO rfl rfl rfl (wV rfl (LnB.rowE (Nat.le_refl _) (fun k hk o ho=>by rw [swp_row (by omega) h0 (u:=cGl (R.getD ((j:Int) - 1).toNat gl0)) (v:=cGl (R.getD j gl0)) (fun o ho=>by rw [hix]) (fun o ho=>rfl) k o ho];show _ = updRm (updRm _ _ _) ((j:Int) - 1).toNat _ k o;rw [hix];rfl)) wX),Ln.A,Ln.A,Ln.A,Ln.A,Ln.A,Ln.eqI (by omega),True.intro⟩⟩
   ·have hc:¬ cmpG (R.getD j gl0) (R.getD ((j:Int) - 1).toNat gl0) < 0:=fun e=>hkl (by rw [hix] at e;exact cmpG_neg.1 e)
    (repeat' ((try conv=>whnf);first|(with_reducible first|refine wT ?_|refine wF ?_|(refine wI (fun hq=>?_) (fun hq=>?_) <;> try simp only [zA,zE,zD,zJ,zB,zI,wK,wL] at hq)|refine wA ?_|refine wB ?_|refine wC ?_|refine wD ?_|refine wE ?_)|((with_reducible refine wN ?_ ?_);focus exact needA)|(with_reducible refine wG ?_)|(refine FCall.pure (cO) ⟨Ln.sameB _ rfl,Ln.sameB _ rfl,True.intro⟩ rfl ?_)|(with_reducible refine wP ?_)))
    all_goals (try conv=>whnf)
    exact ⟨⟨(i + 1,R),⟨by omega,hRl,hI.perm,by rw [show min (i + 1) A.length = i + 1 by omega];exact insI_end hI (.inr (key_tot (keys_at (keys_perm hI.perm hk) (by omega) (by omega) (by omega)) hkl))⟩,by show _ < _;omega,[0],Cut.A,allA⟩⟩
  ·obtain rfl:j = 0:=by omega
   (repeat' ((try conv=>whnf);first|(with_reducible first|refine wT ?_|refine wF ?_|(refine wI (fun hq=>?_) (fun hq=>?_) <;> try simp only [zA,zE,zD,zJ,zB,zI,wK,wL] at hq)|refine wA ?_|refine wB ?_|refine wC ?_|refine wD ?_|refine wE ?_)|((with_reducible refine wN ?_ ?_);focus exact needA)|(with_reducible refine wG ?_)|(with_reducible refine wP ?_)))
   all_goals (try conv=>whnf)
   exact ⟨⟨(i + 1,R),⟨by omega,hRl,hI.perm,by rw [show min (i + 1) A.length = i + 1 by omega];exact insI_end hI (.inl rfl)⟩,by show _ < _;omega,[0],Cut.A,allA⟩⟩
 ·rw [show min i A.length = A.length by omega,← h2] at h4
  have e:L = srt A:=srt_eq hk h3 (sorted_pair h4)
  (repeat' ((try conv=>whnf);first|(with_reducible first|refine wT ?_|refine wF ?_|(refine wI (fun hq=>?_) (fun hq=>?_) <;> try simp only [zA,zE,zD,zJ,zB,zI,wK,wL] at hq)|refine wA ?_|refine wB ?_|refine wC ?_|refine wD ?_|refine wE ?_)|((with_reducible refine wN ?_ ?_);focus exact needA)|(with_reducible refine wG ?_)|(with_reducible refine wP ?_)))
  all_goals (try conv=>whnf)
  exact ⟨⟨_,[rowG A.length (srt A)],[0],(by rw [← e];exact Cut.A),Ln.A,rfl,rfl⟩⟩
end Go.Proofs.YtodpjdmdmmnlpaaGreat

namespace Go.Proofs.YtodpjdmdmmnlpaaGreat
open Go.Shelf

shelf_lay Lays.n125 Nm 125 at Tryz as Tryz.lays125
theorem len_calls (x:Int) (w:World) (h0:0 ≤ x) (h1:x ≤ 18446744073709551615):Calls Tryz.prog 100 #[.int .u64 x] w fun e w'=>e = .returned (.int .i64 (Lib.bitLen x.toNat)) ∧ w' = w:=Any.bits_Len Tryz.lays125 x w h0 h1
end Go.Proofs.YtodpjdmdmmnlpaaGreat

namespace Go.Proofs.YtodpjdmdmmnlpaaGreat
open Go.RowKit

theorem len_ok (x:Int) (h0:0 ≤ x) (h1:x ≤ 18446744073709551615):ACall Tryz.prog 100 [.int .u64 x] [] (fun r h=>r = AI (Lib.bitLen x.toNat:Nat) ∧ h = []):=by
 refine ⟨⟨_,Tryz.func100,rfl,rfl⟩,fun F g w vs k hs hv=>?_⟩
 have h2:vs = #[.int .u64 x]:=by
  have hv0:=hv 0 _ rfl
  match vs,hs with
  | ⟨[v]⟩,_ =>
   have:v = .int .u64 x:=hv0
   rw [this]
 rw [h2]
 refine (len_calls x w h0 h1).mono fun en w' ⟨he,hw⟩=>?_
 subst hw
 exact ⟨_,AI (Lib.bitLen x.toNat:Nat),[],g,he,Tr.refl k,rfl,rfl,rfl⟩
set_option maxHeartbeats 8000000
set_option maxRecDepth 100000
theorem pdqG_ok (A:List Gl) (hn:A.length ≤ 12) (hk:Keys A) (hm:MidK A) (l:Int):ACall Tryz.prog 102 [.own 0 A.length,AI 0,AI A.length,AI l,fOrd] [rowG A.length A] (fun r h=>r = .tup 0 (ofL []) ∧ h = [rowG A.length (srt A)]):=by
 (refine fcall_of mixed Tryz.func102 rfl (by decide) (hs:={}) ?k (ac:=?ac) ?c (rs:=?rs) ?r ?l ?H;(case k=>kernel_rfl);(case c=>(conv=>(lhs;cbv)));(case r=>(conv=>(lhs;cbv)));(case l=>exact Nat.le_of_ble_eq_true rfl))
 (repeat' ((try conv=>whnf);first|(with_reducible first|refine wT ?_|refine wF ?_|(refine wI (fun hq=>?_) (fun hq=>?_) <;> try simp only [zA,zE,zD,zJ,zB,zI,wK,wL] at hq)|refine wA ?_|refine wB ?_|refine wC ?_|refine wD ?_|refine wE ?_)|((with_reducible refine wN ?_ ?_);focus exact needA)|(with_reducible refine wG ?_)|(with_reducible refine wP ?_)))
 all_goals (try conv=>whnf)
 refine FLoop.of (ACalls.mono _) (X:=Unit) (fun _=>[(0,.own 0 A.length),(1,AI 0),(2,AI A.length),(3,AI l),(4,fOrd),(10,.bool true),(11,.bool true)]) (fun _=>[rowG A.length A]) (fun _=>True) (fun _=>0) () ⟨True.intro,[0],Cut.A,allA⟩ ?_
 rintro _ _
 (repeat' ((try conv=>whnf);first|(with_reducible first|refine wT ?_|refine wF ?_|(refine wI (fun hq=>?_) (fun hq=>?_) <;> try simp only [zA,zE,zD,zJ,zB,zI,wK,wL] at hq)|refine wA ?_|refine wB ?_|refine wC ?_|refine wD ?_|refine wE ?_)|((with_reducible refine wN ?_ ?_);focus exact needA)|(with_reducible refine wG ?_)|((refine FCall.give [0] [] ((insert_ok A hn hk hm)) rfl rfl ⟨⟨_,rfl,trivial,LnB.A⟩,True.intro⟩ ⟨Ln.A,Ln.A,Ln.A,Ln.A,True.intro⟩ ?_);rintro _ _ ⟨rfl,rfl⟩;(refine ⟨by first|exact Nat.le_of_ble_eq_true rfl|omega,.inl rfl,?_⟩))|(with_reducible refine wP ?_)))
 all_goals (try conv=>whnf)
 exact ⟨⟨_,[rowG A.length (srt A)],[0],Cut.A,Ln.A,rfl,rfl⟩⟩
theorem sortG_ok (A:List Gl) (hn:A.length ≤ 12) (hk:Keys A) (hm:MidK A):ACall Tryz.prog 81 [.own 0 A.length,fOrd] [rowG A.length A] (fun r h=>r = .tup 0 (ofL []) ∧ h = [rowG A.length (srt A)]):=by
 (refine fcall_of mixed Tryz.func81 rfl (by decide) (hs:={}) ?k (ac:=?ac) ?c (rs:=?rs) ?r ?l ?H;(case k=>kernel_rfl);(case c=>(conv=>(lhs;cbv)));(case r=>(conv=>(lhs;cbv)));(case l=>exact Nat.le_of_ble_eq_true rfl))
 (repeat' ((try conv=>whnf);first|(with_reducible first|refine wT ?_|refine wF ?_|(refine wI (fun hq=>?_) (fun hq=>?_) <;> try simp only [zA,zE,zD,zJ,zB,zI,wK,wL] at hq)|refine wA ?_|refine wB ?_|refine wC ?_|refine wD ?_|refine wE ?_)|((with_reducible refine wN ?_ ?_);focus exact needA)|(with_reducible refine wG ?_)|(refine FCall.pure ((len_ok A.length (by omega) (by omega))) ⟨Ln.sameB _ rfl,True.intro⟩ rfl ?_)|((refine FCall.give [0] [] ((pdqG_ok A hn hk hm _)) rfl rfl ⟨⟨_,rfl,trivial,LnB.A⟩,True.intro⟩ ⟨Ln.A,Ln.A,Ln.A,Ln.A,Ln.A,True.intro⟩ ?_);rintro _ _ ⟨rfl,rfl⟩;(refine ⟨by first|exact Nat.le_of_ble_eq_true rfl|omega,.inl rfl,?_⟩))|(with_reducible refine Fits.inU (by omega) ?_)|(with_reducible refine wP ?_)))
 all_goals (try conv=>whnf)
 exact ⟨⟨_,[rowG A.length (srt A)],[0],Cut.A,Ln.A,rfl,rfl⟩⟩
theorem sortG_n (A:List Gl) (n:Nat) (h:A.length = n) (hn:n ≤ 12) (hk:Keys A) (hm:MidK A):ACall Tryz.prog 81 [.own 0 n,fOrd] [rowG n A] (fun r h=>r = .tup 0 (ofL []) ∧ h = [rowG n (srt A)]):=by
 subst h;exact sortG_ok A hn hk hm
end Go.Proofs.YtodpjdmdmmnlpaaGreat

namespace Go.Proofs.YtodpjdmdmmnlpaaGreat
open Go.RowKit

def pG (g:Gl):List Int × AV:=([g.au,g.st],aGl g)
theorem map_none {α:Type} {p:α → List Int × AV} {key:List Int}:∀ {I:List α},(∀ x,x ∈ I → (p x).1 ≠ key) → alook (I.map p) key = none ∧ ∀ v,aput (I.map p) key v = I.map p ++ [(key,v)]
 | [],_=>⟨rfl,fun v=>rfl⟩
 | x :: I,h=>by
  obtain ⟨h1,h2⟩:=map_none (p:=p) (key:=key) (I:=I) fun y hy=>h y (List.mem_cons_of_mem _ hy)
  have hx:=h x List.mem_cons_self
  constructor
  ·unfold alook at h1 ⊢
   rw [List.map_cons,List.find?_cons,show ((p x).1 == key) = false from by simpa using hx]
   exact h1
  ·intro v
   rw [List.map_cons]
   show (if (p x).1 = key then _ else _) = _
   rw [if_neg hx,h2 v];rfl
theorem glook {M:List Gl} (hk:Keys M) {k:Nat} (h:k < M.length):alook ((M.take k).map pG) [(M.getD k gl0).au,(M.getD k gl0).st] = none ∧ ∀ v,aput ((M.take k).map pG) [(M.getD k gl0).au,(M.getD k gl0).st] v = (M.take k).map pG ++ [([(M.getD k gl0).au,(M.getD k gl0).st],v)] :=
 map_none fun x hx e=>by
  obtain ⟨i,hi,rfl⟩:=List.getElem_of_mem hx
  rw [List.length_take] at hi
  have e1:(M.take k)[i]'(by rw [List.length_take];exact hi) = M.getD i gl0:=by
   rw [List.getElem_take,List.getD,List.getElem?_eq_getElem (show i < M.length by omega)];rfl
  rw [e1] at e
  have e':[(M.getD i gl0).au,(M.getD i gl0).st] = [(M.getD k gl0).au,(M.getD k gl0).st]:=e
  injection e' with a b
  injection b with b _
  exact keys_at hk (show i < M.length by omega) h (by omega) ⟨a,b⟩
theorem take_snoc {M:List Gl} {k:Nat} (h:k < M.length):(M.take (k + 1)).map pG = (M.take k).map pG ++ [([(M.getD k gl0).au,(M.getD k gl0).st],aGl (M.getD k gl0))]:=by
 rw [List.take_add_one,List.getElem?_eq_getElem h,List.map_append]
 simp only [Option.toList,List.map_cons,List.map_nil,List.getD,List.getElem?_eq_getElem h,Option.getD_some]
 rfl
theorem perm_of : ∀ {l1 l2:List Nat},l1.Nodup → (∀ x,x ∈ l1 → x ∈ l2) → l2.length ≤ l1.length → l1.Perm l2
 | [],l2,_,_,h=>by rw [List.length_eq_zero_iff.1 (Nat.le_zero.1 h)]
 | a :: t,l2,hn,hs,hl=>by
  rw [List.nodup_cons] at hn
  have ha:=hs a List.mem_cons_self
  have hp:=List.perm_cons_erase ha
  have hlen:=List.length_erase_of_mem ha
  rw [List.length_cons] at hl
  have hpos:0 < l2.length:=List.length_pos_of_mem ha
  refine List.Perm.trans ((perm_of hn.2 (fun x hx=>?_) (by rw [hlen];omega)).cons a) hp.symm
  exact (List.mem_erase_of_ne (fun e:x = a=>hn.1 (by rw [← e];exact hx))).2 (hs x (List.mem_cons_of_mem _ hx))
theorem range_map (M:List Gl):(List.range M.length).map (fun i=>M.getD i gl0) = M:=by
 apply List.ext_getElem
 ·simp
 ·intro i h1 h2
  simp [List.getD,h2]
theorem perm_seen {M:List Gl} {sE:List Nat} (hn:sE.Nodup) (hs:∀ i,i ∈ sE → i < M.length) (hl:sE.length = M.length):(sE.map fun i=>M.getD i gl0).Perm M:=by
 have h:=(perm_of hn (fun x hx=>List.mem_range.2 (hs x hx)) (by rw [List.length_range];omega)).map fun i=>M.getD i gl0
 rwa [range_map] at h
abbrev bxG : AB:=.box 2 (ofL [.mpv 0,AI 0])
set_option maxHeartbeats 8000000
set_option maxRecDepth 100000
theorem put_ok (z e:Bool) (M:List Gl) (hl:M.length ≤ 1000) (hk:Keys M) (hm:MidK M):ACall Tryz.prog 80 [.ptr 1 0,aGls z e M] [.mp 2 [],bxG] (fun r h=>r = .tup 0 (ofL []) ∧ h = [.mp 2 (M.map pG),bxG]):=by
 (refine fcall_of mixed Tryz.func80 rfl (by decide) (hs:={ ord:=[(4,[(0,[]),(1,[]),(2,[]),(3,[]),(4,[]),(5,[]),(6,[]),(7,[]),(8,[]),(9,[3,4,5]),(10,[]),(11,[])])] }) ?k (ac:=?ac) ?c (rs:=?rs) ?r ?l ?H;(case k=>kernel_rfl);(case c=>(conv=>(lhs;cbv)));(case r=>(conv=>(lhs;cbv)));(case l=>exact Nat.le_of_ble_eq_true rfl))
 (repeat' ((try conv=>whnf);first|(with_reducible first|refine wT ?_|refine wF ?_|(refine wI (fun hq=>?_) (fun hq=>?_) <;> try simp only [zA,zE,zD,zJ,zB,zI,wK,wL] at hq)|refine wA ?_|refine wB ?_|refine wC ?_|refine wD ?_|refine wE ?_)|((with_reducible refine wN ?_ ?_);focus exact needA)|(with_reducible refine wG ?_)|(with_reducible refine wP ?_)))
 all_goals (try conv=>whnf)
 refine FLoop.of (ACalls.mono _) (X:=Nat) (fun k=>[(0,.ptr 1 0),(9,aGls z e M),(10,AI M.length),(11,AI k)]) (fun k=>[.mp 2 ((M.take k).map pG),bxG]) (fun k=>k ≤ M.length) (fun k=>M.length - k) 0 ⟨Nat.zero_le _,[0,1],Cut.A,allA⟩ ?_
 intro k hk2
 by_cases hlt:k < M.length
 ·obtain ⟨h1,h2⟩:=glook hk hlt
  have b:=mid_at (List.Perm.refl M) hm hlt
  have hs:=take_snoc hlt
  rw [← h2] at hs
  (repeat' ((try conv=>whnf);first|(with_reducible first|refine wT ?_|refine wF ?_|(refine wI (fun hq=>?_) (fun hq=>?_) <;> try simp only [zA,zE,zD,zJ,zB,zI,wK,wL] at hq)|refine wA ?_|refine wB ?_|refine wC ?_|refine wD ?_|refine wE ?_)|((with_reducible refine wN ?_ ?_);focus exact needA)|(with_reducible refine wG ?_)|(refine FLook.no h1 ?_)|(refine Need.in64 (by omega) ?_)|(refine Need.mk ?_ ?_)|(exact Same.mk rfl)|(with_reducible refine wP ?_)))
  all_goals (try conv=>whnf)
  (exact ⟨⟨(k + 1),hlt,by show _ < _;omega,[0,1],(by (refine wO rfl rfl rfl ?_;repeat (first|exact wX|(refine wV rfl (by first|exact LnB.rowS|(rw [hs];exact LnB.mpS)|exact LnB.A) ?_)|(refine CutL.gone (Nat.lt_of_lt_of_le (Nat.lt_succ_self _) (Nat.le_of_ble_eq_true rfl)) ?_)))),allA⟩⟩)
 ·obtain rfl:k = M.length:=by omega
  (repeat' ((try conv=>whnf);first|(with_reducible first|refine wT ?_|refine wF ?_|(refine wI (fun hq=>?_) (fun hq=>?_) <;> try simp only [zA,zE,zD,zJ,zB,zI,wK,wL] at hq)|refine wA ?_|refine wB ?_|refine wC ?_|refine wD ?_|refine wE ?_)|((with_reducible refine wN ?_ ?_);focus exact needA)|(with_reducible refine wG ?_)|(with_reducible refine wP ?_)))
  all_goals (try conv=>whnf)
  exact ⟨⟨_,[.mp 2 (M.map pG),bxG],[0,1],(by rw [List.take_of_length_le (Nat.le_refl _)];exact Cut.A),Ln.A,rfl,rfl⟩⟩
end Go.Proofs.YtodpjdmdmmnlpaaGreat

namespace Go.Proofs.YtodpjdmdmmnlpaaGreat
open Go.RowKit

abbrev aOne (v:AV):AV:=.sl false true 1 1 (fun _ _=>v)
/-- The messages that were seen. -/
def seenL (M:List Gl) (sE:List Nat):List Gl:=sE.map fun i=>M.getD i gl0
theorem seen_len (M:List Gl) (sE:List Nat):(seenL M sE).length = sE.length:=by simp [seenL]
theorem seen_snoc (M:List Gl) (sE:List Nat) (i:Nat):seenL M (sE ++ [i]) = seenL M sE ++ [M.getD i gl0]:=by simp [seenL]
theorem getG_l {a b:List Gl} {k:Nat} (h:k < a.length):(a ++ b).getD k gl0 = a.getD k gl0:=by simp [List.getD,List.getElem?_append_left h]
theorem getG_n {a:List Gl} {x:Gl} {k:Nat} (h:k = a.length):(a ++ [x]).getD k gl0 = x:=by subst h;simp [List.getD]
theorem pG_at {M:List Gl} {i:Nat} (h:i < M.length):(M.map pG).getD i default = ([(M.getD i gl0).au,(M.getD i gl0).st],aGl (M.getD i gl0)):=by
 simp [List.getD,h,pG]
theorem elem6 {x:Nat → AV} {v:AV} (h0:x 0 = elemC v 0) (h1:x 1 = elemC v 1) (h2:x 2 = elemC v 2) (h3:x 3 = elemC v 3) (h4:x 4 = elemC v 4) (h5:x 5 = elemC v 5):∀ o,o < 6 → x o = elemC v o:=fun o ho=>by
 rcases (show o = 0 ∨ o = 1 ∨ o = 2 ∨ o = 3 ∨ o = 4 ∨ o = 5 by omega) with rfl|rfl|rfl|rfl|rfl|rfl <;> assumption
theorem Ln.one {σ:Nat → Nat → Prop} {Bp:Nat → Prop} {H:List AB} {c:Nat → Nat → AV} {v:AV} (h:c 0 0 = v):Ln σ Bp H (.sl false true 1 1 c) (aOne v):=Ln.sl _ _ _ _ _ _ _ (fun h=>h) fun k hk o ho=>by
 obtain rfl:k = 0:=by omega
 obtain rfl:o = 0:=by omega
 exact h.symm
set_option maxHeartbeats 8000000
set_option maxRecDepth 100000
theorem gfill_ok (z e:Bool) (M:List Gl) (hl:M.length ≤ 1000) (hk:Keys M) (hm:MidK M):ACall Tryz.prog 46 [aOne (aGls z e M)] [] (fun r h=>r = .ptr 1 0 ∧ h = [.mp 2 (M.map pG),bxG]):=by
 (refine fcall_of mixed Tryz.func46 rfl (by decide) (hs:={}) ?k (ac:=?ac) ?c (rs:=?rs) ?r ?l ?H;(case k=>kernel_rfl);(case c=>(conv=>(lhs;cbv)));(case r=>(conv=>(lhs;cbv)));(case l=>exact Nat.le_of_ble_eq_true rfl))
 (repeat' ((try conv=>whnf);first|(with_reducible first|refine wT ?_|refine wF ?_|(refine wI (fun hq=>?_) (fun hq=>?_) <;> try simp only [zA,zE,zD,zJ,zB,zI,wK,wL] at hq)|refine wA ?_|refine wB ?_|refine wC ?_|refine wD ?_|refine wE ?_)|((with_reducible refine wN ?_ ?_);focus exact needA)|(with_reducible refine wG ?_)|(with_reducible refine wP ?_)))
 all_goals (try conv=>whnf)
 refine FLoop.of (ACalls.mono _) (X:=Nat) (fun k=>[(3,.ptr 1 0),(9,aOne (aGls z e M)),(10,AI 1),(11,AI k)]) (fun k=>match k with
  | 0=>[.mp 2 [],bxG]
  | _ + 1=>[.mp 2 (M.map pG),bxG]) (fun k=>k ≤ 1) (fun k=>1 - k) 0 ⟨Nat.zero_le _,[0,1],Cut.A,allA⟩ ?_
 intro k hk2
 rcases k with _|k
 ·(repeat' ((try conv=>whnf);first|(with_reducible first|refine wT ?_|refine wF ?_|(refine wI (fun hq=>?_) (fun hq=>?_) <;> try simp only [zA,zE,zD,zJ,zB,zI,wK,wL] at hq)|refine wA ?_|refine wB ?_|refine wC ?_|refine wD ?_|refine wE ?_)|((with_reducible refine wN ?_ ?_);focus exact needA)|(with_reducible refine wG ?_)|((refine FCall.give [0,1] [] ((put_ok z e M hl hk hm)) rfl rfl ⟨⟨_,rfl,trivial,LnB.A⟩,⟨_,rfl,trivial,LnB.A⟩,True.intro⟩ ⟨Ln.A,Ln.A,True.intro⟩ ?_);rintro _ _ ⟨rfl,rfl⟩;(refine ⟨by first|exact Nat.le_of_ble_eq_true rfl|omega,.inl rfl,?_⟩))|(with_reducible refine wP ?_)))
  all_goals (try conv=>whnf)
  (exact ⟨⟨(0 + 1),Nat.le_refl _,by decide,[0,1],Cut.A,allA⟩⟩)
 ·obtain rfl:k = 0:=by omega
  (repeat' ((try conv=>whnf);first|(with_reducible first|refine wT ?_|refine wF ?_|(refine wI (fun hq=>?_) (fun hq=>?_) <;> try simp only [zA,zE,zD,zJ,zB,zI,wK,wL] at hq)|refine wA ?_|refine wB ?_|refine wC ?_|refine wD ?_|refine wE ?_)|((with_reducible refine wN ?_ ?_);focus exact needA)|(with_reducible refine wG ?_)|(with_reducible refine wP ?_)))
  all_goals (try conv=>whnf)
  exact ⟨⟨.ptr 1 0,[.mp 2 (M.map pG),bxG],[0,1],Cut.A,Ln.A,rfl,rfl⟩⟩
theorem sorted_ok (M:List Gl) (h1:1 ≤ M.length) (hl:M.length ≤ 12) (hk:Keys M) (hm:MidK M):ACall Tryz.prog 47 [.ptr 1 0] [.mp 2 (M.map pG),bxG] (fun r h=>r = aGls false false (srt M) ∧ h = [.mp 2 (M.map pG),bxG]):=by
 have hpl:(M.map pG).length = M.length:=List.length_map _
 (refine fcall_of mixed Tryz.func47 rfl (by decide) (hs:={}) ?k (ac:=?ac) ?c (rs:=?rs) ?r ?l ?H;(case k=>kernel_rfl);(case c=>(conv=>(lhs;cbv)));(case r=>(conv=>(lhs;cbv)));(case l=>exact Nat.le_of_ble_eq_true rfl))
 (repeat' ((try conv=>whnf);first|(with_reducible first|refine wT ?_|refine wF ?_|(refine wI (fun hq=>?_) (fun hq=>?_) <;> try simp only [zA,zE,zD,zJ,zB,zI,wK,wL] at hq)|refine wA ?_|refine wB ?_|refine wC ?_|refine wD ?_|refine wE ?_)|((with_reducible refine wN ?_ ?_);focus exact needA)|(with_reducible refine wG ?_)|(with_reducible refine wP ?_)))
 all_goals (try conv=>whnf)
 refine FLoop.of (ACalls.mono _) (X:=Nat × List Nat) (fun x=>[(3,match x.1 with|0=>nilS|m + 1=>.own 3 (m + 1)),(10,.ptr 2 0)]) (fun x=>match x.1 with
  | 0=>[.mp 2 (M.map pG),bxG,.mit (.mpv 0) (M.map pG).length x.2]
  | m + 1=>[.mp 2 (M.map pG),bxG,.mit (.mpv 0) (M.map pG).length x.2,rowG (m + 1) (seenL M x.2)]) (fun x=>x.1 = x.2.length ∧ x.2.Nodup ∧ (∀ i,i ∈ x.2 → i < M.length)) (fun x=>M.length - x.1) (0,[]) ⟨⟨rfl,List.nodup_nil,fun i hi=>by cases hi⟩,[0,1,2],wO rfl rfl rfl (wV rfl LnB.A (wV rfl LnB.A (wV rfl (LnB.mitS rfl) wX))),allA⟩ ?_
 rintro ⟨m,sE⟩ ⟨hm1,hnd,hlt⟩
 change m = sE.length at hm1
 change sE.Nodup at hnd
 change ∀ i,i ∈ sE → i < M.length at hlt
 dsimp only
 have hE:∀ i,i < (M.map pG).length → (M.map pG).getD i default = ([(M.getD i gl0).au,(M.getD i gl0).st],aGl (M.getD i gl0)):=fun i hi=>pG_at (by omega)
 have hsl:=seen_len M sE
 have hle:sE.length ≤ M.length:=by
  have:=List.Nodup.length_le_of_subset hnd (l₂:=List.range M.length) (fun x hx=>List.mem_range.2 (hlt x hx))
  rwa [List.length_range] at this
 have less:∀ i,i < (M.map pG).length → i ∉ sE → sE.length + 1 ≤ M.length:=fun i hi hn=>by
  have:=List.Nodup.length_le_of_subset (l₁:=i :: sE) (List.nodup_cons.2 ⟨hn,hnd⟩) (l₂:=List.range M.length) (fun x hx=>List.mem_range.2 (by
   rcases List.mem_cons.1 hx with rfl|hx
   ·omega
   ·exact hlt x hx))
  rw [List.length_range,List.length_cons] at this
  exact this
 have new:∀ i,i < (M.map pG).length → i ∉ sE → (m + 1 = (sE ++ [i]).length ∧ (sE ++ [i]).Nodup ∧ (∀ j,j ∈ sE ++ [i] → j < M.length)):=fun i hi hn=>by
  refine ⟨by simp [hm1],?_,fun j hj=>?_⟩
  ·rw [List.nodup_append]
   exact ⟨hnd,by simp,fun a ha b hb=>by rw [List.mem_singleton.1 hb];intro e;exact hn (e ▸ ha)⟩
  ·rcases List.mem_append.1 hj with h|h
   ·exact hlt j h
   ·rw [List.mem_singleton.1 h];omega
 rcases m with _|m
 ·(repeat' ((try conv=>whnf);first|(with_reducible first|refine wT ?_|refine wF ?_|(refine wI (fun hq=>?_) (fun hq=>?_) <;> try simp only [zA,zE,zD,zJ,zB,zI,wK,wL] at hq)|refine wA ?_|refine wB ?_|refine wC ?_|refine wD ?_|refine wE ?_)|((with_reducible refine wN ?_ ?_);focus exact needA)|(refine FNext.mk (fun hlen=>?_) (fun i hi hn=>?_))|(refine FEnt.of (hE i hi) ?_)|(refine FLast.app ?_)|(with_reducible refine wP ?_)))
  all_goals (try conv=>whnf)
  ·exfalso;omega
  ·have hlen:sE = []:=List.length_eq_zero_iff.1 hm1.symm
   subst hlen
   exact ⟨⟨(0 + 1,[] ++ [i]),new i hi hn,by show _ < _;omega,[0,1,2,4],wO rfl rfl rfl (wV rfl LnB.A (wV rfl LnB.A (wV rfl (LnB.mitS rfl) (wV rfl (LnB.app (fun k hk=>absurd hk (Nat.not_lt_zero k)) (elem6 rfl rfl rfl rfl rfl rfl)) wX)))),allA⟩⟩
 ·(repeat' ((try conv=>whnf);first|(with_reducible first|refine wT ?_|refine wF ?_|(refine wI (fun hq=>?_) (fun hq=>?_) <;> try simp only [zA,zE,zD,zJ,zB,zI,wK,wL] at hq)|refine wA ?_|refine wB ?_|refine wC ?_|refine wD ?_|refine wE ?_)|((with_reducible refine wN ?_ ?_);focus exact needA)|(with_reducible refine wG ?_)|(refine FNext.mk (fun hlen=>?_) (fun i hi hn=>?_))|(refine FEnt.of (hE i hi) ?_)|(refine FLast.app ?_)|((refine FCall.give [3] [] ((sortG_n (seenL M sE) (m + 1) (by omega) (by omega) (keys_perm (perm_seen hnd hlt (by omega)) hk) (fun g hg=>hm g ((perm_seen hnd hlt (by omega)).mem_iff.1 hg)))) rfl rfl ⟨⟨_,rfl,trivial,LnB.A⟩,True.intro⟩ ⟨Ln.A,Ln.A,True.intro⟩ ?_);rintro _ _ ⟨rfl,rfl⟩;(refine ⟨by first|exact Nat.le_of_ble_eq_true rfl|omega,.inl rfl,?_⟩))|(with_reducible refine wP ?_)))
  all_goals (try conv=>whnf)
  ·have hp:(seenL M sE).Perm M:=perm_seen hnd hlt (by omega)
   have es:srt (seenL M sE) = srt M:=srt_eq hk ((srt_perm _).trans hp) (srt_sorted (keys_perm hp hk))
   have el:(srt M).length = M.length:=(srt_perm M).length_eq
   exact ⟨⟨aGls false false (srt M),[.mp 2 (M.map pG),bxG],[0,1],wO rfl rfl rfl (wV rfl LnB.A (wV rfl LnB.A wX)),Ln.pubE (goneB rfl) rfl (Nat.le_refl _) (by omega) (fun k hk o ho=>by rw [es]),rfl,rfl⟩⟩
  ·have hls:=less i hi hn
   exact ⟨⟨(m + 1 + 1,sE ++ [i]),new i hi hn,by show _ < _;omega,[0,1,2,5],wO rfl rfl rfl (wV rfl LnB.A (wV rfl LnB.A (wV rfl (LnB.mitS rfl) (wV rfl (LnB.app (fun k hk o ho=>by show cGl ((seenL M (sE ++ [i])).getD k gl0) o = _;rw [seen_snoc,getG_l (by omega)]) (fun o ho=>by show cGl ((seenL M (sE ++ [i])).getD (m + 1) gl0) o = _;rw [seen_snoc,getG_n (by omega)];exact elem6 (x:=cGl _) rfl rfl rfl rfl rfl rfl o ho)) wX)))),allA⟩⟩
abbrev iFilms2 (z e:Bool) (f:Films):AV:=iFilms z e f
theorem gcheck_ok (z e z2 e2:Bool) (f:Films) (M:List Gl) (hf:FilmsOk f) (hl:M.length ≤ 40) (ht:∀ k,k < M.length → TakesOk f (M.getD k gl0)) (hk:Keys M) (hm:MidK M):ACall Tryz.prog 45 [aFilms z e f,aGls z2 e2 M] [] (fun r h=>r = AI 0 ∧ h = []):=by
 have cC:=cont_gl 78 2 (cFilms z e f) rfl z2 e2 M (fun _=>false) (by omega) fun k hk=>check1g_ok z e f _ hf (ht k hk)
 rw [show (M.any fun _=>false) = false by simp] at cC
 have cF:=gfill_ok z2 e2 M (by omega) hk hm
 (refine fcall_of mixed Tryz.func45 rfl (by decide) (hs:={}) ?k (ac:=?ac) ?c (rs:=?rs) ?r ?l ?H;(case k=>kernel_rfl);(case c=>(conv=>(lhs;cbv)));(case r=>(conv=>(lhs;cbv)));(case l=>exact Nat.le_of_ble_eq_true rfl))
 (repeat' ((try conv=>whnf);first|(with_reducible first|refine wT ?_|refine wF ?_|(refine wI (fun hq=>?_) (fun hq=>?_) <;> try simp only [zA,zE,zD,zJ,zB,zI,wK,wL] at hq)|refine wA ?_|refine wB ?_|refine wC ?_|refine wD ?_|refine wE ?_)|((with_reducible refine wN ?_ ?_);focus exact needA)|(with_reducible refine wG ?_)|(refine FCall.lend [0] (cC) ⟨Ln.sameB _ rfl,Ln.fnN ⟨True.intro,Ln.boxP (by decide) rfl ⟨⟨True.intro,Ln.sameB _ rfl⟩,Ln.sameB _ rfl⟩ rfl⟩,True.intro⟩ rfl trivial ?_)|((refine FCall.give [] [] (cF) rfl rfl True.intro ⟨Ln.one rfl,True.intro⟩ ?_);rintro _ _ ⟨rfl,rfl⟩;(refine ⟨by first|exact Nat.le_of_ble_eq_true rfl|omega,.inl rfl,?_⟩))|(with_reducible refine wP ?_)))
 all_goals (try conv=>whnf)
 all_goals first
  | (exfalso;omega)
  | ((refine ⟨⟨_,[],[],Cut.nil _,Ln.sameB _ rfl,?_,rfl⟩⟩);rfl)
theorem gCheck_ok (z e z2 e2:Bool) (f:Films) (M:List Gl) (hf:FilmsOk f) (hl:M.length ≤ 40) (ht:∀ k,k < M.length → TakesOk f (M.getD k gl0)) (hk:Keys M) (hm:MidK M):ACall Tryz.prog 27 [aFilms z e f,aGls z2 e2 M] [] (fun r h=>r = AI 0 ∧ h = []):=by
 have c1:=filmsOk_ok z e f hf
 have c2:=gcheck_ok z e z2 e2 f M hf hl ht hk hm
 (refine fcall_of mixed Tryz.func27 rfl (by decide) (hs:={}) ?k (ac:=?ac) ?c (rs:=?rs) ?r ?l ?H;(case k=>kernel_rfl);(case c=>(conv=>(lhs;cbv)));(case r=>(conv=>(lhs;cbv)));(case l=>exact Nat.le_of_ble_eq_true rfl))
 (repeat' ((try conv=>whnf);first|(with_reducible first|refine wT ?_|refine wF ?_|(refine wI (fun hq=>?_) (fun hq=>?_) <;> try simp only [zA,zE,zD,zJ,zB,zI,wK,wL] at hq)|refine wA ?_|refine wB ?_|refine wC ?_|refine wD ?_|refine wE ?_)|((with_reducible refine wN ?_ ?_);focus exact needA)|(with_reducible refine wG ?_)|(refine FCall.pure (c1) ⟨Ln.sameB _ rfl,True.intro⟩ rfl ?_)|(refine FCall.pure (c2) ⟨Ln.sameB _ rfl,Ln.sameB _ rfl,True.intro⟩ rfl ?_)|(with_reducible refine wP ?_)))
 all_goals (try conv=>whnf)
 (refine ⟨⟨_,[],[],Cut.nil _,Ln.sameB _ rfl,?_,rfl⟩⟩)
 rfl
end Go.Proofs.YtodpjdmdmmnlpaaGreat

namespace Go.Proofs.YtodpjdmdmmnlpaaGreat
open Go.RowKit

def keepG (q:Gl → Bool) (L:List Gl) (j:Nat):List Gl:=(L.take j).filter fun x=>!q x
theorem keepG_step {q:Gl → Bool} {L:List Gl} {j:Nat} (hj:j < L.length):keepG q L (j + 1) = if q (L.getD j gl0) = true then keepG q L j else keepG q L j ++ [L.getD j gl0]:=by
 unfold keepG
 have:L.take (j + 1) = L.take j ++ [L.getD j gl0]:=by
  rw [List.take_add_one,List.getElem?_eq_getElem hj];simp [List.getD,List.getElem?_eq_getElem hj]
 rw [this,List.filter_append]
 split
 ·rename_i h;simp only [List.filter_cons,List.filter_nil];rw [h];simp
 ·rename_i h;simp only [List.filter_cons,List.filter_nil];rw [if_pos (by simpa using h)]
theorem keepG_all {q:Gl → Bool} {L:List Gl}:keepG q L L.length = L.filter fun x=>!q x:=by unfold keepG;rw [List.take_length]
/-- The row on the way. -/
def mixG (K L:List Gl) (k:Nat):Gl:=if k < K.length then K.getD k gl0 else L.getD k gl0
theorem getG_take {l:List Gl} {m k:Nat} (h:k < m):(l.take m).getD k gl0 = l.getD k gl0:=by
 simp only [List.getD,List.getElem?_take,if_pos h]
theorem idx_spec {q:Gl → Bool} {L:List Gl}:∀ (k i:Nat),i + k = L.length →
  (idxP L.length (fun k=>q (L.getD k gl0)) k i = -1 ∧ ∀ x,x ∈ L.drop i → q x = false) ∨ ∃ m:Nat,i ≤ m ∧ m < L.length ∧ idxP L.length (fun k=>q (L.getD k gl0)) k i = (m:Int) ∧ ((L.drop i).take (m + 1 - i)).filter (fun x=>!q x) = (L.drop i).take (m - i)
 | 0,i,h=>.inl ⟨rfl,by rw [List.drop_eq_nil_of_le (by omega)];intro x hx;cases hx⟩
 | k + 1,i,h=>by
  have hi:i < L.length:=by omega
  rw [drop_eq gl0 hi]
  simp only [idxP]
  by_cases hb:q (L.getD i gl0) = true
  ·rw [if_pos hb]
   refine .inr ⟨i,Nat.le_refl _,hi,rfl,?_⟩
   rw [show i + 1 - i = 0 + 1 by omega,Nat.sub_self,List.take_succ_cons,List.take_zero,List.filter_cons,hb]
   rfl
  ·rw [if_neg hb]
   have hb':q (L.getD i gl0) = false:=by simpa using hb
   rcases idx_spec (q:=q) (L:=L) k (i + 1) (by omega) with ⟨h1,h2⟩|⟨m,h1,h2,h3,h4⟩
   ·refine .inl ⟨h1,fun x hx=>?_⟩
    rcases List.mem_cons.1 hx with rfl|hx
    ·exact hb'
    ·exact h2 x hx
   ·refine .inr ⟨m,by omega,h2,h3,?_⟩
    rw [show m + 1 - i = (m + 1 - (i + 1)) + 1 by omega,show m - i = (m - (i + 1)) + 1 by omega,List.take_succ_cons,List.take_succ_cons,List.filter_cons,hb',h4]
    rfl
set_option maxHeartbeats 8000000
set_option maxRecDepth 100000
theorem delete_c1 (F:FuncId) (mc1:Nat) (dc1:Nat → AV) (hc1:(AV.ip mc1 dc1 0).pureB = true) (L:List Gl) (q:Gl → Bool) (hl:0 < L.length ∧ L.length ≤ 1000) (hG:∀ k,k < L.length → ACall Tryz.prog F [aGl (L.getD k gl0),.ip mc1 dc1 0] [] (fun r h=>r = .bool (q (L.getD k gl0)) ∧ h = [])):ACall Tryz.prog 48 [.own 0 L.length,(.fn F 1 (ofL [.ip mc1 dc1 0]))] [rowG L.length L] (fun v h=>v = .own 0 (L.filter fun x=>!q x).length ∧ h = [rowG (L.filter fun x=>!q x).length (L.filter fun x=>!q x)]):=by
 have hfn:(AV.fn F 1 (ofL [.ip mc1 dc1 0])).pureB = true:=by
  show (List.all _ _) = true
  simp [List.range,List.range.loop,ofL,hc1]
 have cI:=idx_gl F mc1 dc1 hc1 false false L q hl.2 hG
 (refine fcall_of mixed Tryz.func48 rfl (by decide) (hs:={}) ?k (ac:=?ac) ?c (rs:=?rs) ?r ?l ?H;(case k=>kernel_rfl);(case c=>(conv=>(lhs;cbv)));(case r=>(conv=>(lhs;cbv)));(case l=>exact Nat.le_of_ble_eq_true rfl))
 rcases idx_spec (q:=q) (L:=L) L.length 0 (by omega) with ⟨a,b⟩|⟨m,-,a,b,c⟩
 ·rw [a] at cI
  have hF:(L.filter fun x=>!q x) = L:=List.filter_eq_self.2 fun x hx=>by simpa using b x (by simpa using hx)
  rw [hF]
  (repeat' ((try conv=>whnf);first|(with_reducible first|refine wT ?_|refine wF ?_|(refine wI (fun hq=>?_) (fun hq=>?_) <;> try simp only [zA,zE,zD,zJ,zB,zI,wK,wL] at hq)|refine wA ?_|refine wB ?_|refine wC ?_|refine wD ?_|refine wE ?_)|((with_reducible refine wN ?_ ?_);focus exact needA)|(refine FCall.lend [0] (cI) ⟨Ln.pubE (by decide) rfl (Nat.le_refl _) rfl (fun _ _ _ _=>rfl),Ln.sameB _ hfn,True.intro⟩ rfl trivial ?_)|(with_reducible refine wP ?_)))
  all_goals (try conv=>whnf)
  exact ⟨⟨_,[rowG L.length L],[0],Cut.A,Ln.A,rfl,rfl⟩⟩
 ·rw [b] at cI
  rw [List.drop_zero,Nat.sub_zero,Nat.sub_zero] at c
  have hF0:keepG q L (m + 1) = L.take m:=c
  have hFl:(keepG q L (m + 1)).length = m:=by rw [hF0,List.length_take];omega
  (repeat' ((try conv=>whnf);first|(with_reducible first|refine wT ?_|refine wF ?_|(refine wI (fun hq=>?_) (fun hq=>?_) <;> try simp only [zA,zE,zD,zJ,zB,zI,wK,wL] at hq)|refine wA ?_|refine wB ?_|refine wC ?_|refine wD ?_|refine wE ?_)|((with_reducible refine wN ?_ ?_);focus exact needA)|(refine FCall.lend [0] (cI) ⟨Ln.pubE (by decide) rfl (Nat.le_refl _) rfl (fun _ _ _ _=>rfl),Ln.sameB _ hfn,True.intro⟩ rfl trivial ?_)|(with_reducible refine wP ?_)))
  all_goals (try conv=>whnf)
  refine FLoop.of (ACalls.mono _) (X:=Nat) (fun j=>[(0,.own 0 L.length),(1,(.fn F 1 (ofL [.ip mc1 dc1 0]))),(5,AI (keepG q L j).length),(6,AI j)]) (fun j=>[.row L.length 6 (fun k=>cGl (mixG (keepG q L j) L k))]) (fun j=>j ≤ L.length ∧ (keepG q L j).length < j) (fun j=>L.length - j) (m + 1) ⟨⟨by omega,by omega⟩,[0],?_,⟨Ln.ownE rfl rfl,Ln.sameB _ hfn,Ln.eqI (by rw [hFl]),Ln.A,True.intro⟩⟩ ?_
  ·refine wO rfl rfl rfl (wV rfl (LnB.rowE (Nat.le_refl _) fun k hk o ho=>?_) wX)
   show cGl (mixG (keepG q L (m + 1)) L k) o = _
   unfold mixG
   rw [hFl]
   split
   ·rename_i h;rw [hF0,getG_take h]
   ·rfl
  rintro j ⟨hj,hlt⟩
  by_cases hjt:j < L.length
  ·have hst:=keepG_step (q:=q) hjt
   have hm:mixG (keepG q L j) L j = L.getD j gl0:=by unfold mixG;rw [if_neg (by omega)]
   have cD:=hG j hjt
   rw [← hm] at cD
   cases hq':q (mixG (keepG q L j) L j) <;> rw [hq'] at cD
   ·(repeat' ((try conv=>whnf);first|(with_reducible first|refine wT ?_|refine wF ?_|(refine wI (fun hq=>?_) (fun hq=>?_) <;> try simp only [zA,zE,zD,zJ,zB,zI,wK,wL] at hq)|refine wA ?_|refine wB ?_|refine wC ?_|refine wD ?_|refine wE ?_)|((with_reducible refine wN ?_ ?_);focus exact needA)|(refine FCall.pure cD ⟨Ln.sameB _ rfl,Ln.sameB _ hc1,True.intro⟩ rfl ?_)|(with_reducible refine wP ?_)))
    all_goals (try conv=>whnf)
    rw [hm] at hq'
    rw [if_neg (by rw [hq'];decide)] at hst
    have hlen:(keepG q L (j + 1)).length = (keepG q L j).length + 1:=by rw [hst,List.length_append];rfl
    refine ⟨⟨j + 1,⟨by omega,by omega⟩,by show _ < _;omega,[0],?_,⟨Ln.ownE rfl rfl,Ln.sameB _ hfn,Ln.eqI (by rw [hlen];omega),Ln.A,True.intro⟩⟩⟩
    refine wO rfl rfl rfl (wV rfl (LnB.rowE (Nat.le_refl _) fun k hk o ho=>?_) wX)
    show cGl (mixG (keepG q L (j + 1)) L k) o = _
    simp only [updRm]
    by_cases h:k = (keepG q L j).length
    ·rw [if_pos h]
     have:mixG (keepG q L (j + 1)) L k = mixG (keepG q L j) L j:=by
      rw [hm]
      unfold mixG
      rw [hst,if_pos (by simp;omega),getG_n h]
     rw [this]
     exact elem6 (x:=cGl _) rfl rfl rfl rfl rfl rfl o ho
    ·rw [if_neg h]
     have:mixG (keepG q L (j + 1)) L k = mixG (keepG q L j) L k:=by
      unfold mixG
      rw [hst,List.length_append,List.length_singleton]
      by_cases h2:k < (keepG q L j).length
      ·rw [if_pos (by omega),if_pos h2,getG_l h2]
      ·rw [if_neg (by omega),if_neg h2]
     rw [this]
   ·(repeat' ((try conv=>whnf);first|(with_reducible first|refine wT ?_|refine wF ?_|(refine wI (fun hq=>?_) (fun hq=>?_) <;> try simp only [zA,zE,zD,zJ,zB,zI,wK,wL] at hq)|refine wA ?_|refine wB ?_|refine wC ?_|refine wD ?_|refine wE ?_)|((with_reducible refine wN ?_ ?_);focus exact needA)|(refine FCall.pure cD ⟨Ln.sameB _ rfl,Ln.sameB _ hc1,True.intro⟩ rfl ?_)|(with_reducible refine wP ?_)))
    all_goals (try conv=>whnf)
    rw [hm] at hq'
    rw [if_pos hq'] at hst
    have hlen:(keepG q L (j + 1)).length = (keepG q L j).length:=by rw [hst]
    refine ⟨⟨j + 1,⟨by omega,by omega⟩,by show _ < _;omega,[0],?_,⟨Ln.ownE rfl rfl,Ln.sameB _ hfn,Ln.eqI (by rw [hlen]),Ln.A,True.intro⟩⟩⟩
    exact wO rfl rfl rfl (wV rfl (LnB.rowE (Nat.le_refl _) fun k hk o ho=>by show cGl (mixG (keepG q L (j + 1)) L k) o = _;rw [hst]) wX)
  ·obtain rfl:j = L.length:=by omega
   (repeat' ((try conv=>whnf);first|(with_reducible first|refine wT ?_|refine wF ?_|(refine wI (fun hq=>?_) (fun hq=>?_) <;> try simp only [zA,zE,zD,zJ,zB,zI,wK,wL] at hq)|refine wA ?_|refine wB ?_|refine wC ?_|refine wD ?_|refine wE ?_)|((with_reducible refine wN ?_ ?_);focus exact needA)|(with_reducible refine wP ?_)))
   all_goals (try conv=>whnf)
   rw [← keepG_all]
   refine ⟨⟨.own 0 (keepG q L L.length).length,[rowG (keepG q L L.length).length (keepG q L L.length)],[0],?_,Ln.ownE rfl (by omega),rfl,rfl⟩⟩
   refine wO rfl rfl rfl (wV rfl (LnB.rowE (by omega) fun k hk o ho=>?_) wX)
   show cGl ((keepG q L L.length).getD k gl0) o = cGl (mixG (keepG q L L.length) L k) o
   unfold mixG;rw [if_pos hk]
theorem delete_c2 (F:FuncId) (mc1:Nat) (dc1:Nat → AV) (mc2:Nat) (dc2:Nat → AV) (hc1:(AV.ip mc1 dc1 0).pureB = true) (hc2:(AV.ip mc2 dc2 0).pureB = true) (L:List Gl) (q:Gl → Bool) (hl:0 < L.length ∧ L.length ≤ 1000) (hG:∀ k,k < L.length → ACall Tryz.prog F [aGl (L.getD k gl0),.ip mc1 dc1 0,.ip mc2 dc2 0] [] (fun r h=>r = .bool (q (L.getD k gl0)) ∧ h = [])):ACall Tryz.prog 48 [.own 0 L.length,(.fn F 2 (ofL [.ip mc1 dc1 0,.ip mc2 dc2 0]))] [rowG L.length L] (fun v h=>v = .own 0 (L.filter fun x=>!q x).length ∧ h = [rowG (L.filter fun x=>!q x).length (L.filter fun x=>!q x)]):=by
 have hfn:(AV.fn F 2 (ofL [.ip mc1 dc1 0,.ip mc2 dc2 0])).pureB = true:=by
  show (List.all _ _) = true
  simp [List.range,List.range.loop,ofL,hc1,hc2]
 have cI:=idx_gl2 F mc1 dc1 mc2 dc2 hc1 hc2 false false L q hl.2 hG
 (refine fcall_of mixed Tryz.func48 rfl (by decide) (hs:={}) ?k (ac:=?ac) ?c (rs:=?rs) ?r ?l ?H;(case k=>kernel_rfl);(case c=>(conv=>(lhs;cbv)));(case r=>(conv=>(lhs;cbv)));(case l=>exact Nat.le_of_ble_eq_true rfl))
 rcases idx_spec (q:=q) (L:=L) L.length 0 (by omega) with ⟨a,b⟩|⟨m,-,a,b,c⟩
 ·rw [a] at cI
  have hF:(L.filter fun x=>!q x) = L:=List.filter_eq_self.2 fun x hx=>by simpa using b x (by simpa using hx)
  rw [hF]
  (repeat' ((try conv=>whnf);first|(with_reducible first|refine wT ?_|refine wF ?_|(refine wI (fun hq=>?_) (fun hq=>?_) <;> try simp only [zA,zE,zD,zJ,zB,zI,wK,wL] at hq)|refine wA ?_|refine wB ?_|refine wC ?_|refine wD ?_|refine wE ?_)|((with_reducible refine wN ?_ ?_);focus exact needA)|(refine FCall.lend [0] (cI) ⟨Ln.pubE (by decide) rfl (Nat.le_refl _) rfl (fun _ _ _ _=>rfl),Ln.sameB _ hfn,True.intro⟩ rfl trivial ?_)|(with_reducible refine wP ?_)))
  all_goals (try conv=>whnf)
  exact ⟨⟨_,[rowG L.length L],[0],Cut.A,Ln.A,rfl,rfl⟩⟩
 ·rw [b] at cI
  rw [List.drop_zero,Nat.sub_zero,Nat.sub_zero] at c
  have hF0:keepG q L (m + 1) = L.take m:=c
  have hFl:(keepG q L (m + 1)).length = m:=by rw [hF0,List.length_take];omega
  (repeat' ((try conv=>whnf);first|(with_reducible first|refine wT ?_|refine wF ?_|(refine wI (fun hq=>?_) (fun hq=>?_) <;> try simp only [zA,zE,zD,zJ,zB,zI,wK,wL] at hq)|refine wA ?_|refine wB ?_|refine wC ?_|refine wD ?_|refine wE ?_)|((with_reducible refine wN ?_ ?_);focus exact needA)|(refine FCall.lend [0] (cI) ⟨Ln.pubE (by decide) rfl (Nat.le_refl _) rfl (fun _ _ _ _=>rfl),Ln.sameB _ hfn,True.intro⟩ rfl trivial ?_)|(with_reducible refine wP ?_)))
  all_goals (try conv=>whnf)
  refine FLoop.of (ACalls.mono _) (X:=Nat) (fun j=>[(0,.own 0 L.length),(1,(.fn F 2 (ofL [.ip mc1 dc1 0,.ip mc2 dc2 0]))),(5,AI (keepG q L j).length),(6,AI j)]) (fun j=>[.row L.length 6 (fun k=>cGl (mixG (keepG q L j) L k))]) (fun j=>j ≤ L.length ∧ (keepG q L j).length < j) (fun j=>L.length - j) (m + 1) ⟨⟨by omega,by omega⟩,[0],?_,⟨Ln.ownE rfl rfl,Ln.sameB _ hfn,Ln.eqI (by rw [hFl]),Ln.A,True.intro⟩⟩ ?_
  ·refine wO rfl rfl rfl (wV rfl (LnB.rowE (Nat.le_refl _) fun k hk o ho=>?_) wX)
   show cGl (mixG (keepG q L (m + 1)) L k) o = _
   unfold mixG
   rw [hFl]
   split
   ·rename_i h;rw [hF0,getG_take h]
   ·rfl
  rintro j ⟨hj,hlt⟩
  by_cases hjt:j < L.length
  ·have hst:=keepG_step (q:=q) hjt
   have hm:mixG (keepG q L j) L j = L.getD j gl0:=by unfold mixG;rw [if_neg (by omega)]
   have cD:=hG j hjt
   rw [← hm] at cD
   cases hq':q (mixG (keepG q L j) L j) <;> rw [hq'] at cD
   ·(repeat' ((try conv=>whnf);first|(with_reducible first|refine wT ?_|refine wF ?_|(refine wI (fun hq=>?_) (fun hq=>?_) <;> try simp only [zA,zE,zD,zJ,zB,zI,wK,wL] at hq)|refine wA ?_|refine wB ?_|refine wC ?_|refine wD ?_|refine wE ?_)|((with_reducible refine wN ?_ ?_);focus exact needA)|(refine FCall.pure cD ⟨Ln.sameB _ rfl,Ln.sameB _ hc1,Ln.sameB _ hc2,True.intro⟩ rfl ?_)|(with_reducible refine wP ?_)))
    all_goals (try conv=>whnf)
    rw [hm] at hq'
    rw [if_neg (by rw [hq'];decide)] at hst
    have hlen:(keepG q L (j + 1)).length = (keepG q L j).length + 1:=by rw [hst,List.length_append];rfl
    refine ⟨⟨j + 1,⟨by omega,by omega⟩,by show _ < _;omega,[0],?_,⟨Ln.ownE rfl rfl,Ln.sameB _ hfn,Ln.eqI (by rw [hlen];omega),Ln.A,True.intro⟩⟩⟩
    refine wO rfl rfl rfl (wV rfl (LnB.rowE (Nat.le_refl _) fun k hk o ho=>?_) wX)
    show cGl (mixG (keepG q L (j + 1)) L k) o = _
    simp only [updRm]
    by_cases h:k = (keepG q L j).length
    ·rw [if_pos h]
     have:mixG (keepG q L (j + 1)) L k = mixG (keepG q L j) L j:=by
      rw [hm]
      unfold mixG
      rw [hst,if_pos (by simp;omega),getG_n h]
     rw [this]
     exact elem6 (x:=cGl _) rfl rfl rfl rfl rfl rfl o ho
    ·rw [if_neg h]
     have:mixG (keepG q L (j + 1)) L k = mixG (keepG q L j) L k:=by
      unfold mixG
      rw [hst,List.length_append,List.length_singleton]
      by_cases h2:k < (keepG q L j).length
      ·rw [if_pos (by omega),if_pos h2,getG_l h2]
      ·rw [if_neg (by omega),if_neg h2]
     rw [this]
   ·(repeat' ((try conv=>whnf);first|(with_reducible first|refine wT ?_|refine wF ?_|(refine wI (fun hq=>?_) (fun hq=>?_) <;> try simp only [zA,zE,zD,zJ,zB,zI,wK,wL] at hq)|refine wA ?_|refine wB ?_|refine wC ?_|refine wD ?_|refine wE ?_)|((with_reducible refine wN ?_ ?_);focus exact needA)|(refine FCall.pure cD ⟨Ln.sameB _ rfl,Ln.sameB _ hc1,Ln.sameB _ hc2,True.intro⟩ rfl ?_)|(with_reducible refine wP ?_)))
    all_goals (try conv=>whnf)
    rw [hm] at hq'
    rw [if_pos hq'] at hst
    have hlen:(keepG q L (j + 1)).length = (keepG q L j).length:=by rw [hst]
    refine ⟨⟨j + 1,⟨by omega,by omega⟩,by show _ < _;omega,[0],?_,⟨Ln.ownE rfl rfl,Ln.sameB _ hfn,Ln.eqI (by rw [hlen]),Ln.A,True.intro⟩⟩⟩
    exact wO rfl rfl rfl (wV rfl (LnB.rowE (Nat.le_refl _) fun k hk o ho=>by show cGl (mixG (keepG q L (j + 1)) L k) o = _;rw [hst]) wX)
  ·obtain rfl:j = L.length:=by omega
   (repeat' ((try conv=>whnf);first|(with_reducible first|refine wT ?_|refine wF ?_|(refine wI (fun hq=>?_) (fun hq=>?_) <;> try simp only [zA,zE,zD,zJ,zB,zI,wK,wL] at hq)|refine wA ?_|refine wB ?_|refine wC ?_|refine wD ?_|refine wE ?_)|((with_reducible refine wN ?_ ?_);focus exact needA)|(with_reducible refine wP ?_)))
   all_goals (try conv=>whnf)
   rw [← keepG_all]
   refine ⟨⟨.own 0 (keepG q L L.length).length,[rowG (keepG q L L.length).length (keepG q L L.length)],[0],?_,Ln.ownE rfl (by omega),rfl,rfl⟩⟩
   refine wO rfl rfl rfl (wV rfl (LnB.rowE (by omega) fun k hk o ho=>?_) wX)
   show cGl ((keepG q L L.length).getD k gl0) o = cGl (mixG (keepG q L L.length) L k) o
   unfold mixG;rw [if_pos hk]
theorem flatG (n:Nat) (L:List Gl):(rowG n L).flat:=fun k _ o ho=>by
 rcases (show o = 0 ∨ o = 1 ∨ o = 2 ∨ o = 3 ∨ o = 4 ∨ o = 5 by omega) with rfl|rfl|rfl|rfl|rfl|rfl <;> trivial
theorem cloneG_s (e:Bool) (L:List Gl) (C:Nat) (hl:L.length = C + 1) (hC:C ≤ 1000):ACall Tryz.prog 49 [aGls false e L] [] (fun v h=>v = .own 0 L.length ∧ h = [rowG L.length L]):=by
 show ACall Tryz.prog _ [.sl false e L.length 6 (fun k=>cGl (L.getD k gl0))] [] _
 rw [hl]
 (refine fcall_of mixed Tryz.func49 rfl (by decide) (hs:={}) ?k (ac:=?ac) ?c (rs:=?rs) ?r ?l ?H;(case k=>kernel_rfl);(case c=>(conv=>(lhs;cbv)));(case r=>(conv=>(lhs;cbv)));(case l=>exact Nat.le_of_ble_eq_true rfl))
 (repeat' ((try conv=>whnf);first|(with_reducible first|refine wT ?_|refine wF ?_|(refine wI (fun hq=>?_) (fun hq=>?_) <;> try simp only [zA,zE,zD,zJ,zB,zI,wK,wL] at hq)|refine wA ?_|refine wB ?_|refine wC ?_|refine wD ?_|refine wE ?_)|((with_reducible refine wN ?_ ?_);focus exact needA)|(with_reducible refine wG ?_)|(with_reducible refine wP ?_)))
 all_goals (try conv=>whnf)
 refine ⟨⟨.own 0 (C + 1),[rowG (C + 1) L],[0],?_,Ln.ownE rfl (by omega),rfl,rfl⟩⟩
 exact wO rfl rfl rfl (wV rfl (LnB.rowE (by omega) fun k hk o ho=>by simp [appc]) wX)
theorem cloneG_0 (e:Bool):ACall Tryz.prog 49 [aGls false e []] [] (fun r h=>r = aGls false true [] ∧ h = []):=by
 have h0:([]:List Gl).length ≤ 0:=Nat.le_refl _
 (refine fcall_of mixed Tryz.func49 rfl (by decide) (hs:={}) ?k (ac:=?ac) ?c (rs:=?rs) ?r ?l ?H;(case k=>kernel_rfl);(case c=>(conv=>(lhs;cbv)));(case r=>(conv=>(lhs;cbv)));(case l=>exact Nat.le_of_ble_eq_true rfl))
 (repeat' ((try conv=>whnf);first|(with_reducible first|refine wT ?_|refine wF ?_|(refine wI (fun hq=>?_) (fun hq=>?_) <;> try simp only [zA,zE,zD,zJ,zB,zI,wK,wL] at hq)|refine wA ?_|refine wB ?_|refine wC ?_|refine wD ?_|refine wE ?_)|((with_reducible refine wN ?_ ?_);focus exact needA)|(with_reducible refine wG ?_)|(with_reducible refine wP ?_)))
 all_goals (try conv=>whnf)
 exact ⟨⟨aGls false true [],[],[],Cut.nil _,Ln.slz _ _ _ _ _ _ _ (fun h=>h),rfl,rfl⟩⟩
theorem held1_ok (A:List Gl) (g:Gl) (hA:A.length ≤ 1000):ACall Tryz.prog 50 [aGl g,.ip 1 (ofL [aGls false false A]) 0] [] (fun r h=>r = .bool (goneG A g) ∧ h = []):=by
 have cC:=cont_gl 52 6 (cGl g) rfl false false A (laterB g) hA fun k hk=>later_ok g _
 unfold goneG
 (refine fcall_of mixed Tryz.func50 rfl (by decide) (hs:={}) ?k (ac:=?ac) ?c (rs:=?rs) ?r ?l ?H;(case k=>kernel_rfl);(case c=>(conv=>(lhs;cbv)));(case r=>(conv=>(lhs;cbv)));(case l=>exact Nat.le_of_ble_eq_true rfl))
 by_cases h0:g.sg = 0
 ·rw [decide_eq_true h0,Bool.true_or]
  (repeat' ((try conv=>whnf);first|(with_reducible first|refine wT ?_|refine wF ?_|(refine wI (fun hq=>?_) (fun hq=>?_) <;> try simp only [zA,zE,zD,zJ,zB,zI,wK,wL] at hq)|refine wA ?_|refine wB ?_|refine wC ?_|refine wD ?_|refine wE ?_)|((with_reducible refine wN ?_ ?_);focus exact needA)|(with_reducible refine wG ?_)|(with_reducible refine wP ?_)))
  all_goals (try conv=>whnf)
  all_goals first|(exfalso;omega)|((refine ⟨⟨_,[],[],Cut.nil _,Ln.sameB _ rfl,?_,rfl⟩⟩);rfl)
 ·rw [decide_eq_false h0,Bool.false_or]
  (repeat' ((try conv=>whnf);first|(with_reducible first|refine wT ?_|refine wF ?_|(refine wI (fun hq=>?_) (fun hq=>?_) <;> try simp only [zA,zE,zD,zJ,zB,zI,wK,wL] at hq)|refine wA ?_|refine wB ?_|refine wC ?_|refine wD ?_|refine wE ?_)|((with_reducible refine wN ?_ ?_);focus exact needA)|(with_reducible refine wG ?_)|(refine FCall.lend [0] (cC) ⟨Ln.sameB _ rfl,Ln.fnN ⟨True.intro,Ln.boxP (by decide) rfl ⟨⟨⟨⟨⟨⟨True.intro,Ln.sameB _ rfl⟩,Ln.sameB _ rfl⟩,Ln.sameB _ rfl⟩,Ln.sameB _ rfl⟩,Ln.sameB _ rfl⟩,Ln.sameB _ rfl⟩ rfl⟩,True.intro⟩ rfl trivial ?_)|(with_reducible refine wP ?_)))
  all_goals (try conv=>whnf)
  all_goals first|(exfalso;omega)|((refine ⟨⟨_,[],[],Cut.nil _,Ln.sameB _ rfl,?_,rfl⟩⟩);rfl)
theorem held_ok (z e:Bool) (M:List Gl) (h1:1 ≤ M.length) (hl:M.length ≤ 12) (hk:Keys M) (hm:MidK M):ACall Tryz.prog 29 [aGls z e M] [] (fun r h=>r = aGls false false (heldT M) ∧ h = []):=by
 have el:(srt M).length = M.length:=(srt_perm M).length_eq
 obtain ⟨C,hC⟩:∃ C,(srt M).length = C + 1:=⟨(srt M).length - 1,by omega⟩
 have cF:=gfill_ok z e M (by omega) hk hm
 have cS:=sorted_ok M h1 hl hk hm
 have cC:=cloneG_s false (srt M) C hC (by omega)
 have cD:=delete_c1 50 1 (ofL [aGls false false (srt M)]) rfl (srt M) (goneG (srt M)) ⟨by omega,by omega⟩ fun k hk=>held1_ok (srt M) _ (by omega)
 (refine fcall_of mixed Tryz.func29 rfl (by decide) (hs:={}) ?k (ac:=?ac) ?c (rs:=?rs) ?r ?l ?H;(case k=>kernel_rfl);(case c=>(conv=>(lhs;cbv)));(case r=>(conv=>(lhs;cbv)));(case l=>exact Nat.le_of_ble_eq_true rfl))
 (repeat' ((try conv=>whnf);first|(with_reducible first|refine wT ?_|refine wF ?_|(refine wI (fun hq=>?_) (fun hq=>?_) <;> try simp only [zA,zE,zD,zJ,zB,zI,wK,wL] at hq)|refine wA ?_|refine wB ?_|refine wC ?_|refine wD ?_|refine wE ?_)|((with_reducible refine wN ?_ ?_);focus exact needA)|(with_reducible refine wG ?_)|((refine FCall.give [] [] (cF) rfl rfl True.intro ⟨Ln.one rfl,True.intro⟩ ?_);rintro _ _ ⟨rfl,rfl⟩;(refine ⟨by first|exact Nat.le_of_ble_eq_true rfl|omega,.inl rfl,?_⟩))|((refine FCall.give [0,1] [] (cS) rfl rfl ⟨⟨_,rfl,trivial,LnB.A⟩,⟨_,rfl,trivial,LnB.A⟩,True.intro⟩ ⟨Ln.A,True.intro⟩ ?_);rintro _ _ ⟨rfl,rfl⟩;(refine ⟨by first|exact Nat.le_of_ble_eq_true rfl|omega,.inl rfl,?_⟩))|((refine FCall.give [] [] (cC) rfl rfl True.intro ⟨Ln.A,True.intro⟩ ?_);rintro _ _ ⟨rfl,rfl⟩;(refine ⟨by first|exact Nat.le_of_ble_eq_true rfl|omega,.inl rfl,?_⟩))|((refine FCall.give [3] [2] cD rfl rfl ⟨⟨_,rfl,trivial,LnB.A⟩,True.intro⟩ ⟨Ln.A,Ln.fnN ⟨True.intro,Ln.box1 (by decide) rfl (Ln.sameB _ rfl) rfl⟩,True.intro⟩ ?_);rintro _ _ ⟨rfl,rfl⟩;(refine ⟨by first|exact Nat.le_of_ble_eq_true rfl|omega,.inr ⟨trivial,flat_one (flatG _ _)⟩,?_⟩))|(with_reducible refine wP ?_)))
 all_goals (try conv=>whnf)
 exact ⟨⟨aGls false false (heldT M),[],[],Cut.nil _,Ln.pubE (goneB rfl) rfl (Nat.le_refl _) rfl (fun _ _ _ _=>rfl),rfl,rfl⟩⟩
theorem at1_ok (film frame:Int) (g:Gl):ACall Tryz.prog 56 [aGl g,iInt film,iInt frame] [] (fun r h=>r = .bool (outB film frame g) ∧ h = []):=by
 unfold outB
 (refine fcall_of mixed Tryz.func56 rfl (by decide) (hs:={}) ?k (ac:=?ac) ?c (rs:=?rs) ?r ?l ?H;(case k=>kernel_rfl);(case c=>(conv=>(lhs;cbv)));(case r=>(conv=>(lhs;cbv)));(case l=>exact Nat.le_of_ble_eq_true rfl))
 (repeat' ((try conv=>whnf);first|(with_reducible first|refine wT ?_|refine wF ?_|(refine wI (fun hq=>?_) (fun hq=>?_) <;> try simp only [zA,zE,zD,zJ,zB,zI,wK,wL] at hq)|refine wA ?_|refine wB ?_|refine wC ?_|refine wD ?_|refine wE ?_)|((with_reducible refine wN ?_ ?_);focus exact needA)|(with_reducible refine wG ?_)|(with_reducible refine wP ?_)))
 all_goals (try conv=>whnf)
 all_goals ((refine ⟨⟨_,[],[],Cut.nil _,Ln.sameB _ rfl,?_,rfl⟩⟩);exact bool_eq (by rw [Bool.eq_iff_iff];simp only [Bool.or_eq_true,decide_eq_true_eq,true_iff,ne_eq];omega))
theorem at_s (e:Bool) (L:List Gl) (film frame:Int) (h1:1 ≤ L.length) (hl:L.length ≤ 1000):ACall Tryz.prog 31 [aGls false e L,AI film,AI frame] [] (fun r h=>r = aGls false false (atT L film frame) ∧ h = []):=by
 obtain ⟨C,hC⟩:∃ C,L.length = C + 1:=⟨L.length - 1,by omega⟩
 have cC:=cloneG_s e L C hC (by omega)
 have cD:=delete_c2 56 1 (ofL [AI film]) 1 (ofL [AI frame]) rfl rfl L (outB film frame) ⟨by omega,by omega⟩ fun k hk=>at1_ok film frame _
 (refine fcall_of mixed Tryz.func31 rfl (by decide) (hs:={}) ?k (ac:=?ac) ?c (rs:=?rs) ?r ?l ?H;(case k=>kernel_rfl);(case c=>(conv=>(lhs;cbv)));(case r=>(conv=>(lhs;cbv)));(case l=>exact Nat.le_of_ble_eq_true rfl))
 (repeat' ((try conv=>whnf);first|(with_reducible first|refine wT ?_|refine wF ?_|(refine wI (fun hq=>?_) (fun hq=>?_) <;> try simp only [zA,zE,zD,zJ,zB,zI,wK,wL] at hq)|refine wA ?_|refine wB ?_|refine wC ?_|refine wD ?_|refine wE ?_)|((with_reducible refine wN ?_ ?_);focus exact needA)|(with_reducible refine wG ?_)|((refine FCall.give [] [] (cC) rfl rfl True.intro ⟨Ln.A,True.intro⟩ ?_);rintro _ _ ⟨rfl,rfl⟩;(refine ⟨by first|exact Nat.le_of_ble_eq_true rfl|omega,.inl rfl,?_⟩))|((refine FCall.give [2] [0,1] cD rfl rfl ⟨⟨_,rfl,trivial,LnB.A⟩,True.intro⟩ ⟨Ln.A,Ln.fnN ⟨⟨True.intro,Ln.box1 (by decide) rfl (Ln.sameB _ rfl) rfl⟩,Ln.box1 (by decide) rfl (Ln.sameB _ rfl) rfl⟩,True.intro⟩ ?_);rintro _ _ ⟨rfl,rfl⟩;(refine ⟨by first|exact Nat.le_of_ble_eq_true rfl|omega,.inr ⟨trivial,flat_one (flatG _ _)⟩,?_⟩))|(with_reducible refine wP ?_)))
 all_goals (try conv=>whnf)
 exact ⟨⟨aGls false false (atT L film frame),[],[],Cut.nil _,Ln.pubE (goneB rfl) rfl (Nat.le_refl _) rfl (fun _ _ _ _=>rfl),rfl,rfl⟩⟩
end Go.Proofs.YtodpjdmdmmnlpaaGreat

namespace Go.Proofs.YtodpjdmdmmnlpaaGreat
open Go.RowKit

theorem FBit.lit {op:BinOp} {k:IntKind} {x y:Int} {K:Int → Prop} (r:Int) (h:rawBit op k x y = r) (hK:K r):FBit op k x y K:=⟨h ▸ hK⟩
def s1 (x:Nat):Nat:=x / 2
def p1 (x:Nat):Nat:=s1 x &&& 6148914691236517205
def q1 (x:Nat):Nat:=x &&& 6148914691236517205
def s2 (x:Nat):Nat:=(p1 x + q1 x) / 4
def p2 (x:Nat):Nat:=s2 x &&& 3689348814741910323
def q2 (x:Nat):Nat:=(p1 x + q1 x) &&& 3689348814741910323
def s3 (x:Nat):Nat:=(p2 x + q2 x) / 16
def p3 (x:Nat):Nat:=(s3 x + (p2 x + q2 x)) &&& 1085102592571150095
def s4 (x:Nat):Nat:=p3 x / 256
def s5 (x:Nat):Nat:=(p3 x + s4 x) / 65536
def s6 (x:Nat):Nat:=(p3 x + s4 x + s5 x) / 4294967296
structure Ones (x:Nat):Prop where
 a1:rawBit .shr .u64 (x:Int) 1 = (s1 x:Nat)
 a2:rawBit .and .u64 (s1 x:Nat) 6148914691236517205 = (p1 x:Nat)
 a3:rawBit .and .u64 (x:Int) 6148914691236517205 = (q1 x:Nat)
 a4:rawBit .shr .u64 ((p1 x:Nat) + (q1 x:Nat):Int) 2 = (s2 x:Nat)
 a5:rawBit .and .u64 (s2 x:Nat) 3689348814741910323 = (p2 x:Nat)
 a6:rawBit .and .u64 ((p1 x:Nat) + (q1 x:Nat):Int) 3689348814741910323 = (q2 x:Nat)
 a7:rawBit .shr .u64 ((p2 x:Nat) + (q2 x:Nat):Int) 4 = (s3 x:Nat)
 a8:rawBit .and .u64 ((s3 x:Nat) + ((p2 x:Nat) + (q2 x:Nat)):Int) 1085102592571150095 = (p3 x:Nat)
 a9:rawBit .shr .u64 (p3 x:Nat) 8 = (s4 x:Nat)
 b1:rawBit .shr .u64 ((p3 x:Nat) + (s4 x:Nat):Int) 16 = (s5 x:Nat)
 b2:rawBit .shr .u64 ((p3 x:Nat) + (s4 x:Nat) + (s5 x:Nat):Int) 32 = (s6 x:Nat)
 b3:rawBit .and .i64 ((p3 x:Nat) + (s4 x:Nat) + (s5 x:Nat) + (s6 x:Nat):Int) 127 = (popT x:Nat)
 c:p1 x ≤ 100000 ∧ q1 x ≤ 100000 ∧ p2 x ≤ 100000 ∧ q2 x ≤ 100000 ∧ s3 x ≤ 100000 ∧ p3 x ≤ 100000 ∧ s4 x ≤ 100000 ∧ s5 x ≤ 100000 ∧ s6 x ≤ 100000
def onesB (x:Nat):Bool :=
 decide (rawBit .shr .u64 (x:Int) 1 = (s1 x:Nat)) && decide (rawBit .and .u64 (s1 x:Nat) 6148914691236517205 = (p1 x:Nat)) && decide (rawBit .and .u64 (x:Int) 6148914691236517205 = (q1 x:Nat)) && decide (rawBit .shr .u64 ((p1 x:Nat) + (q1 x:Nat):Int) 2 = (s2 x:Nat)) && decide (rawBit .and .u64 (s2 x:Nat) 3689348814741910323 = (p2 x:Nat)) && decide (rawBit .and .u64 ((p1 x:Nat) + (q1 x:Nat):Int) 3689348814741910323 = (q2 x:Nat)) && decide (rawBit .shr .u64 ((p2 x:Nat) + (q2 x:Nat):Int) 4 = (s3 x:Nat)) && decide (rawBit .and .u64 ((s3 x:Nat) + ((p2 x:Nat) + (q2 x:Nat)):Int) 1085102592571150095 = (p3 x:Nat)) && decide (rawBit .shr .u64 (p3 x:Nat) 8 = (s4 x:Nat)) && decide (rawBit .shr .u64 ((p3 x:Nat) + (s4 x:Nat):Int) 16 = (s5 x:Nat)) && decide (rawBit .shr .u64 ((p3 x:Nat) + (s4 x:Nat) + (s5 x:Nat):Int) 32 = (s6 x:Nat)) && decide (rawBit .and .i64 ((p3 x:Nat) + (s4 x:Nat) + (s5 x:Nat) + (s6 x:Nat):Int) 127 = (popT x:Nat)) && decide (p1 x ≤ 100000 ∧ q1 x ≤ 100000 ∧ p2 x ≤ 100000 ∧ q2 x ≤ 100000 ∧ s3 x ≤ 100000 ∧ p3 x ≤ 100000 ∧ s4 x ≤ 100000 ∧ s5 x ≤ 100000 ∧ s6 x ≤ 100000)
theorem ones_all : (List.range 1024).all onesB = true:=by decide +kernel
theorem ones_at {x:Nat} (h:x < 1024):Ones x:=by
 have:=List.all_eq_true.1 ones_all x (List.mem_range.2 h)
 unfold onesB at this
 simp only [Bool.and_eq_true,decide_eq_true_eq] at this
 obtain ⟨⟨⟨⟨⟨⟨⟨⟨⟨⟨⟨⟨a1,a2⟩,a3⟩,a4⟩,a5⟩,a6⟩,a7⟩,a8⟩,a9⟩,b1⟩,b2⟩,b3⟩,c⟩:=this
 exact ⟨a1,a2,a3,a4,a5,a6,a7,a8,a9,b1,b2,b3,c⟩
set_option maxHeartbeats 8000000
set_option maxRecDepth 100000
theorem ones64_ok (x:Nat) (hx:x < 1024):ACall Tryz.prog 105 [AU x] [] (fun r h=>r = AI (popT x:Nat) ∧ h = []):=by
 have o:=ones_at hx
 have c:=o.c
 (refine fcall_of mixed Tryz.func105 rfl (by decide) (hs:={}) ?k (ac:=?ac) ?c (rs:=?rs) ?r ?l ?H;(case k=>kernel_rfl);(case c=>(conv=>(lhs;cbv)));(case r=>(conv=>(lhs;cbv)));(case l=>exact Nat.le_of_ble_eq_true rfl))
 (repeat' ((try conv=>whnf);first|(with_reducible first|refine wT ?_|refine wF ?_|(refine wI (fun hq=>?_) (fun hq=>?_) <;> try simp only [zA,zE,zD,zJ,zB,zI,wK,wL] at hq)|refine wA ?_|refine wB ?_|refine wC ?_|refine wD ?_|refine wE ?_)|((with_reducible refine wN ?_ ?_);focus exact needA)|(with_reducible refine wG ?_)|(refine Fits.inU (by omega) ?_)|(refine FBit.lit _ o.a1 ?_)|(refine FBit.lit _ o.a2 ?_)|(refine FBit.lit _ o.a3 ?_)|(refine FBit.lit _ o.a4 ?_)|(refine FBit.lit _ o.a5 ?_)|(refine FBit.lit _ o.a6 ?_)|(refine FBit.lit _ o.a7 ?_)|(refine FBit.lit _ o.a8 ?_)|(refine FBit.lit _ o.a9 ?_)|(refine FBit.lit _ o.b1 ?_)|(refine FBit.lit _ o.b2 ?_)|(refine FBit.lit _ o.b3 ?_)|(with_reducible refine wP ?_)))
 all_goals (try conv=>whnf)
 (refine ⟨⟨_,[],[],Cut.nil _,Ln.sameB _ rfl,?_,rfl⟩⟩)
 rfl
theorem ones_ok (x:Nat) (hx:x < 1024):ACall Tryz.prog 84 [AU x] [] (fun r h=>r = AI (popT x:Nat) ∧ h = []):=by
 have c1:=ones64_ok x hx
 (refine fcall_of mixed Tryz.func84 rfl (by decide) (hs:={}) ?k (ac:=?ac) ?c (rs:=?rs) ?r ?l ?H;(case k=>kernel_rfl);(case c=>(conv=>(lhs;cbv)));(case r=>(conv=>(lhs;cbv)));(case l=>exact Nat.le_of_ble_eq_true rfl))
 (repeat' ((try conv=>whnf);first|(with_reducible first|refine wT ?_|refine wF ?_|(refine wI (fun hq=>?_) (fun hq=>?_) <;> try simp only [zA,zE,zD,zJ,zB,zI,wK,wL] at hq)|refine wA ?_|refine wB ?_|refine wC ?_|refine wD ?_|refine wE ?_)|((with_reducible refine wN ?_ ?_);focus exact needA)|(with_reducible refine wG ?_)|(refine FCall.pure (c1) ⟨Ln.sameB _ rfl,True.intro⟩ rfl ?_)|(with_reducible refine wP ?_)))
 all_goals (try conv=>whnf)
 (refine ⟨⟨_,[],[],Cut.nil _,Ln.sameB _ rfl,?_,rfl⟩⟩)
 rfl
theorem size_ok (x:Nat) (hx:x < 1024):ACall Tryz.prog 55 [AI x] [] (fun r h=>r = AI (popT x:Nat) ∧ h = []):=by
 have c1:=ones_ok x hx
 (refine fcall_of mixed Tryz.func55 rfl (by decide) (hs:={}) ?k (ac:=?ac) ?c (rs:=?rs) ?r ?l ?H;(case k=>kernel_rfl);(case c=>(conv=>(lhs;cbv)));(case r=>(conv=>(lhs;cbv)));(case l=>exact Nat.le_of_ble_eq_true rfl))
 (repeat' ((try conv=>whnf);first|(with_reducible first|refine wT ?_|refine wF ?_|(refine wI (fun hq=>?_) (fun hq=>?_) <;> try simp only [zA,zE,zD,zJ,zB,zI,wK,wL] at hq)|refine wA ?_|refine wB ?_|refine wC ?_|refine wD ?_|refine wE ?_)|((with_reducible refine wN ?_ ?_);focus exact needA)|(with_reducible refine wG ?_)|(refine Fits.inU (by omega) ?_)|(refine FCall.pure (c1) ⟨Ln.sameB _ rfl,True.intro⟩ rfl ?_)|(with_reducible refine wP ?_)))
 all_goals (try conv=>whnf)
 (refine ⟨⟨_,[],[],Cut.nil _,Ln.sameB _ rfl,?_,rfl⟩⟩)
 rfl
theorem miss_ok (set:Nat) (g:Gl) (hs:set < 1024) (h1:0 ≤ g.sg ∧ g.sg < 1024):ACall Tryz.prog 54 [aGl g,iInt set] [] (fun r h=>r = .bool (missB set g) ∧ h = []):=by
 unfold missB
 (refine fcall_of mixed Tryz.func54 rfl (by decide) (hs:={}) ?k (ac:=?ac) ?c (rs:=?rs) ?r ?l ?H;(case k=>kernel_rfl);(case c=>(conv=>(lhs;cbv)));(case r=>(conv=>(lhs;cbv)));(case l=>exact Nat.le_of_ble_eq_true rfl))
 (repeat' ((try conv=>whnf);first|(with_reducible first|refine wT ?_|refine wF ?_|(refine wI (fun hq=>?_) (fun hq=>?_) <;> try simp only [zA,zE,zD,zJ,zB,zI,wK,wL] at hq)|refine wA ?_|refine wB ?_|refine wC ?_|refine wD ?_|refine wE ?_)|((with_reducible refine wN ?_ ?_);focus exact needA)|(with_reducible refine wG ?_)|(refine FBit.andI rfl (a:=g.sg.toNat) (b:=set) (by omega) rfl (by omega) (by omega) ?_)|(with_reducible refine wP ?_)))
 all_goals (try conv=>whnf)
 all_goals ((refine ⟨⟨_,[],[],Cut.nil _,Ln.sameB _ rfl,?_,rfl⟩⟩);exact bool_eq (by rw [Bool.eq_iff_iff];simp only [decide_eq_true_eq];omega))
end Go.Proofs.YtodpjdmdmmnlpaaGreat

namespace Go.Proofs.YtodpjdmdmmnlpaaGreat
open Go.RowKit

abbrev aNats (z e:Bool) (l:List Nat):AV:=.sl z e l.length 1 (fun k _=>AI ((l.getD k 0:Nat):Int))
abbrev aN1 (a:Nat):AV:=.sl false true 1 1 (fun _ _=>AI (a:Int))
abbrev rowN (n:Nat) (l:List Nat):AB:=.row n 1 (fun k _=>AI ((l.getD k 0:Nat):Int))
section
variable {σ:Nat → Nat → Prop} {Bp:Nat → Prop} {H:List AB}
theorem Ln.n1 {c:Nat → Nat → AV} {a:Nat} (h:AI (a:Int) = c 0 0):Ln σ Bp H (.sl false true 1 1 c) (aN1 a):=Ln.sl _ _ _ _ _ _ _ (fun h=>h) fun k hk o ho=>by
 obtain rfl:k = 0:=by omega
 obtain rfl:o = 0:=by omega
 exact h
theorem LnB.two {a b:Nat} {c:Nat → Nat → AV} (h0:AI (a:Int) = c 0 0) (h1:AI (b:Int) = c 1 0):LnB σ Bp H (.row (1 + (0 + 1)) 1 c) (rowN (0 + 2) [a,b]):=LnB.rowE (Nat.le_refl _) fun k hk o ho=>by
 obtain rfl:o = 0:=by omega
 rcases (show k = 0 ∨ k = 1 by omega) with rfl|rfl
 ·exact h0
 ·exact h1
theorem getN_l {a b:List Nat} {k:Nat} (h:k < a.length):(a ++ b).getD k 0 = a.getD k 0:=by simp [List.getD,List.getElem?_append_left h]
theorem getN_n {a:List Nat} {x k:Nat} (h:k = a.length):(a ++ [x]).getD k 0 = x:=by subst h;simp [List.getD]
end
theorem stepR_len (L:List Gl) (o:List Nat) (k:Nat):(stepR L o k).length ≤ o.length + 1:=by
 unfold stepR
 split
 ·omega
 ·split
  ·simp
  ·split
   ·simp
   ·split <;> simp
theorem rdK_len (L:List Gl):∀ k,(rdK L k).length ≤ k
 | 0=>Nat.le_refl _
 | k + 1=>Nat.le_trans (stepR_len L (rdK L k) k) (by have:=rdK_len L k;omega)
theorem snoc_row {a b k:Nat} {t:List Nat} {c:Nat → Nat → AV} {j o:Nat} (hj:j < (t ++ [k]).length + 2) (ho:o < 1) (hc:AI (k:Int) = c 0 0):AI (((a :: b :: (t ++ [k])).getD j 0:Nat):Int) = appc (t.length + 2) (fun j _=>AI (((a :: b :: t).getD j 0:Nat):Int)) c j o:=by
 obtain rfl:o = 0:=by omega
 rw [List.length_append,List.length_singleton] at hj
 show AI ((((a :: b :: t) ++ [k]).getD j 0:Nat):Int) = _
 simp only [appc]
 by_cases h:j < t.length + 2
 ·rw [if_pos h,getN_l (by simpa using h)]
 ·obtain rfl:j = t.length + 2:=by omega
  rw [if_neg h,getN_n (by simp),Nat.sub_self];exact hc
set_option maxHeartbeats 16000000
set_option maxRecDepth 100000
theorem readings_ok (z e:Bool) (f:Films) (L:List Gl) (hf:FilmsOk f) (hl:L.length ≤ 1000) (hg:∀ k,k < L.length → 0 ≤ (L.getD k gl0).sg ∧ (L.getD k gl0).sg < 1024) (hne:rdT f.n.toNat L ≠ []):ACall Tryz.prog 30 [aFilms z e f,aGls false false L] [] (fun r h=>r = aNats false false (rdT f.n.toNat L) ∧ h = []):=by
 have hn:=hf.n
 have hp:2 ^ f.n.toNat ≤ 1024:=by
  have:2 ^ f.n.toNat ≤ 2 ^ 10:=Nat.pow_le_pow_right (by decide) (by omega)
  omega
 obtain ⟨N,hN⟩:∃ N,2 ^ f.n.toNat = N:=⟨_,rfl⟩
 have hT:rdT f.n.toNat L = rdK L N:=by unfold rdT;rw [hN]
 rw [hT] at hne ⊢
 rw [hN] at hp
 (refine fcall_of mixed Tryz.func30 rfl (by decide) (hs:={ ord:=[(7,[(0,[]),(2,[]),(3,[]),(4,[]),(1,[4]),(5,[]),(6,[]),(7,[])]),(9,[(0,[]),(2,[]),(3,[]),(4,[]),(1,[4]),(5,[]),(6,[]),(7,[])])] }) ?k (ac:=?ac) ?c (rs:=?rs) ?r ?l ?H;(case k=>kernel_rfl);(case c=>(conv=>(lhs;cbv)));(case r=>(conv=>(lhs;cbv)));(case l=>exact Nat.le_of_ble_eq_true rfl))
 (repeat' ((try conv=>whnf);first|(with_reducible first|refine wT ?_|refine wF ?_|(refine wI (fun hq=>?_) (fun hq=>?_) <;> try simp only [zA,zE,zD,zJ,zB,zI,wK,wL] at hq)|refine wA ?_|refine wB ?_|refine wC ?_|refine wD ?_|refine wE ?_)|((with_reducible refine wN ?_ ?_);focus exact needA)|(with_reducible refine wG ?_)|(refine FBit.shl1I rfl (by omega) ?_)|(with_reducible refine wP ?_)))
 all_goals (try conv=>whnf)
 rw [hN]
 refine FLoop.of (ACalls.mono _) (X:=Nat × List Nat) (fun x=>[(1,aGls false false L),(5,match x.2 with|[]=>nilS|[a]=>aN1 a|_ :: _ :: t=>.own 0 (t.length + 2)),(10,AI N),(11,AI x.1)]) (fun x=>match x.2 with
  | []=>[]
  | [_]=>[]
  | a :: b :: t=>[rowN (t.length + 2) (a :: b :: t)]) (fun x=>x.1 ≤ N ∧ x.2 = rdK L x.1) (fun x=>N - x.1) (0,[]) ⟨⟨Nat.zero_le _,rfl⟩,[],Cut.nil _,allA⟩ ?_
 rintro ⟨k,o⟩ ⟨hk,ho⟩
 change k ≤ N at hk
 change o = rdK L k at ho
 by_cases hlt:k < N
 ·have hR:=rdK_ok L k
  rw [← ho] at hR
  have hs:rdK L (k + 1) = stepR L o k:=by rw [ho];rfl
  have hs:=hs.symm
  unfold stepR at hs
  have cC:=cont_gl 54 1 (ofL [AI k]) rfl false false L (missB k) hl fun j hj=>miss_ok k _ (by omega) (hg j hj)
  have cK:=size_ok k (by omega)
  cases hm:L.any (missB k) <;> rw [hm] at cC hs
  ·rw [if_neg (by decide)] at hs
   rcases o with _|⟨a,_|⟨b,t⟩⟩
   ·dsimp only at hs ⊢
    (repeat' ((try conv=>whnf);first|(with_reducible first|refine wT ?_|refine wF ?_|(refine wI (fun hq=>?_) (fun hq=>?_) <;> try simp only [zA,zE,zD,zJ,zB,zI,wK,wL] at hq)|refine wA ?_|refine wB ?_|refine wC ?_|refine wD ?_|refine wE ?_)|((with_reducible refine wN ?_ ?_);focus exact needA)|(with_reducible refine wG ?_)|(refine FCall.lend [0] (cC) ⟨Ln.sameB _ rfl,Ln.fnN ⟨True.intro,Ln.box1 (by decide) rfl (Ln.sameB _ rfl) rfl⟩,True.intro⟩ rfl trivial ?_)|(with_reducible refine wP ?_)))
    all_goals (try conv=>whnf)
    exact ⟨⟨(k + 1,[k]),⟨by omega,by show [k] = rdK L (k + 1);exact hs⟩,by show _ - (k + 1) < _ - k;omega,[],Cut.nil _,Ln.sameB _ rfl,Ln.n1 rfl,Ln.A,Ln.A,True.intro⟩⟩
   ·have ha:=(hR.el a List.mem_cons_self).1
    have cA:=size_ok a (by omega)
    dsimp only at hs ⊢
    by_cases h1:popT k < popT a
    ·rw [if_pos h1] at hs
     (repeat' ((try conv=>whnf);first|(with_reducible first|refine wT ?_|refine wF ?_|(refine wI (fun hq=>?_) (fun hq=>?_) <;> try simp only [zA,zE,zD,zJ,zB,zI,wK,wL] at hq)|refine wA ?_|refine wB ?_|refine wC ?_|refine wD ?_|refine wE ?_)|((with_reducible refine wN ?_ ?_);focus exact needA)|(with_reducible refine wG ?_)|(refine FCall.lend [0] (cC) ⟨Ln.sameB _ rfl,Ln.fnN ⟨True.intro,Ln.box1 (by decide) rfl (Ln.sameB _ rfl) rfl⟩,True.intro⟩ rfl trivial ?_)|(refine FCall.pure (cK) ⟨Ln.sameB _ rfl,True.intro⟩ rfl ?_)|(refine FCall.pure (cA) ⟨Ln.sameB _ rfl,True.intro⟩ rfl ?_)|(with_reducible refine wP ?_)))
     all_goals (try conv=>whnf)
     exact ⟨⟨(k + 1,[k]),⟨by omega,by show [k] = rdK L (k + 1);exact hs⟩,by show _ - (k + 1) < _ - k;omega,[],Cut.nil _,Ln.sameB _ rfl,Ln.n1 rfl,Ln.A,Ln.A,True.intro⟩⟩
    ·rw [if_neg h1] at hs
     by_cases h2:popT k = popT a
     ·rw [if_pos h2] at hs
      (repeat' ((try conv=>whnf);first|(with_reducible first|refine wT ?_|refine wF ?_|(refine wI (fun hq=>?_) (fun hq=>?_) <;> try simp only [zA,zE,zD,zJ,zB,zI,wK,wL] at hq)|refine wA ?_|refine wB ?_|refine wC ?_|refine wD ?_|refine wE ?_)|((with_reducible refine wN ?_ ?_);focus exact needA)|(with_reducible refine wG ?_)|(refine FCall.lend [0] (cC) ⟨Ln.sameB _ rfl,Ln.fnN ⟨True.intro,Ln.box1 (by decide) rfl (Ln.sameB _ rfl) rfl⟩,True.intro⟩ rfl trivial ?_)|(refine FCall.pure (cK) ⟨Ln.sameB _ rfl,True.intro⟩ rfl ?_)|(refine FCall.pure (cA) ⟨Ln.sameB _ rfl,True.intro⟩ rfl ?_)|(with_reducible refine wP ?_)))
      all_goals (try conv=>whnf)
      exact ⟨⟨(k + 1,[a,k]),⟨by omega,by show [a,k] = rdK L (k + 1);exact hs⟩,by show _ - (k + 1) < _ - k;omega,[1],(wO rfl rfl rfl (wV rfl (LnB.two rfl rfl) wX)),Ln.sameB _ rfl,Ln.ownE rfl rfl,Ln.A,Ln.A,True.intro⟩⟩
     ·rw [if_neg h2] at hs
      (repeat' ((try conv=>whnf);first|(with_reducible first|refine wT ?_|refine wF ?_|(refine wI (fun hq=>?_) (fun hq=>?_) <;> try simp only [zA,zE,zD,zJ,zB,zI,wK,wL] at hq)|refine wA ?_|refine wB ?_|refine wC ?_|refine wD ?_|refine wE ?_)|((with_reducible refine wN ?_ ?_);focus exact needA)|(with_reducible refine wG ?_)|(refine FCall.lend [0] (cC) ⟨Ln.sameB _ rfl,Ln.fnN ⟨True.intro,Ln.box1 (by decide) rfl (Ln.sameB _ rfl) rfl⟩,True.intro⟩ rfl trivial ?_)|(refine FCall.pure (cK) ⟨Ln.sameB _ rfl,True.intro⟩ rfl ?_)|(refine FCall.pure (cA) ⟨Ln.sameB _ rfl,True.intro⟩ rfl ?_)|(with_reducible refine wP ?_)))
      all_goals (try conv=>whnf)
      exact ⟨⟨(k + 1,[a]),⟨by omega,by show [a] = rdK L (k + 1);exact hs⟩,by show _ - (k + 1) < _ - k;omega,[],Cut.nil _,Ln.sameB _ rfl,Ln.n1 rfl,Ln.A,Ln.A,True.intro⟩⟩
   ·have ha:=(hR.el a List.mem_cons_self).1
    have cA:=size_ok a (by omega)
    have ht:t.length ≤ 1024:=by
     have:=rdK_len L k
     rw [← ho] at this
     simp only [List.length_cons] at this
     omega
    dsimp only at hs ⊢
    by_cases h1:popT k < popT a
    ·rw [if_pos h1] at hs
     (repeat' ((try conv=>whnf);first|(with_reducible first|refine wT ?_|refine wF ?_|(refine wI (fun hq=>?_) (fun hq=>?_) <;> try simp only [zA,zE,zD,zJ,zB,zI,wK,wL] at hq)|refine wA ?_|refine wB ?_|refine wC ?_|refine wD ?_|refine wE ?_)|((with_reducible refine wN ?_ ?_);focus exact needA)|(with_reducible refine wG ?_)|(refine FCall.lend [1] (cC) ⟨Ln.sameB _ rfl,Ln.fnN ⟨True.intro,Ln.box1 (by decide) rfl (Ln.sameB _ rfl) rfl⟩,True.intro⟩ rfl trivial ?_)|(refine FCall.pure (cK) ⟨Ln.sameB _ rfl,True.intro⟩ rfl ?_)|(refine FCall.pure (cA) ⟨Ln.sameB _ rfl,True.intro⟩ rfl ?_)|(with_reducible refine wP ?_)))
     all_goals (try conv=>whnf)
     exact ⟨⟨(k + 1,[k]),⟨by omega,by show [k] = rdK L (k + 1);exact hs⟩,by show _ - (k + 1) < _ - k;omega,[],Cut.nil _,Ln.sameB _ rfl,Ln.n1 rfl,Ln.A,Ln.A,True.intro⟩⟩
    ·rw [if_neg h1] at hs
     by_cases h2:popT k = popT a
     ·rw [if_pos h2] at hs
      (repeat' ((try conv=>whnf);first|(with_reducible first|refine wT ?_|refine wF ?_|(refine wI (fun hq=>?_) (fun hq=>?_) <;> try simp only [zA,zE,zD,zJ,zB,zI,wK,wL] at hq)|refine wA ?_|refine wB ?_|refine wC ?_|refine wD ?_|refine wE ?_)|((with_reducible refine wN ?_ ?_);focus exact needA)|(with_reducible refine wG ?_)|(refine FCall.lend [1] (cC) ⟨Ln.sameB _ rfl,Ln.fnN ⟨True.intro,Ln.box1 (by decide) rfl (Ln.sameB _ rfl) rfl⟩,True.intro⟩ rfl trivial ?_)|(refine FCall.pure (cK) ⟨Ln.sameB _ rfl,True.intro⟩ rfl ?_)|(refine FCall.pure (cA) ⟨Ln.sameB _ rfl,True.intro⟩ rfl ?_)|(with_reducible refine wP ?_)))
      all_goals (try conv=>whnf)
      exact ⟨⟨(k + 1,a :: b :: (t ++ [k])),⟨by omega,by show a :: b :: (t ++ [k]) = rdK L (k + 1);exact hs⟩,by show _ - (k + 1) < _ - k;omega,[2],(wO rfl rfl rfl (wV rfl (LnB.rowE (by simp) (fun j hj o ho=>snoc_row hj ho rfl)) wX)),Ln.sameB _ rfl,Ln.ownE rfl (by simp),Ln.A,Ln.A,True.intro⟩⟩
     ·rw [if_neg h2] at hs
      (repeat' ((try conv=>whnf);first|(with_reducible first|refine wT ?_|refine wF ?_|(refine wI (fun hq=>?_) (fun hq=>?_) <;> try simp only [zA,zE,zD,zJ,zB,zI,wK,wL] at hq)|refine wA ?_|refine wB ?_|refine wC ?_|refine wD ?_|refine wE ?_)|((with_reducible refine wN ?_ ?_);focus exact needA)|(with_reducible refine wG ?_)|(refine FCall.lend [1] (cC) ⟨Ln.sameB _ rfl,Ln.fnN ⟨True.intro,Ln.box1 (by decide) rfl (Ln.sameB _ rfl) rfl⟩,True.intro⟩ rfl trivial ?_)|(refine FCall.pure (cK) ⟨Ln.sameB _ rfl,True.intro⟩ rfl ?_)|(refine FCall.pure (cA) ⟨Ln.sameB _ rfl,True.intro⟩ rfl ?_)|(with_reducible refine wP ?_)))
      all_goals (try conv=>whnf)
      exact ⟨⟨(k + 1,a :: b :: t),⟨by omega,by show a :: b :: t = rdK L (k + 1);exact hs⟩,by show _ - (k + 1) < _ - k;omega,[0],(wO rfl rfl rfl (wV rfl (LnB.rowE (Nat.le_refl _) (fun j hj o ho=>rfl)) wX)),Ln.sameB _ rfl,Ln.ownE rfl rfl,Ln.A,Ln.A,True.intro⟩⟩
  ·rw [if_pos rfl] at hs
   rcases o with _|⟨a,_|⟨b,t⟩⟩
   ·dsimp only at hs ⊢
    (repeat' ((try conv=>whnf);first|(with_reducible first|refine wT ?_|refine wF ?_|(refine wI (fun hq=>?_) (fun hq=>?_) <;> try simp only [zA,zE,zD,zJ,zB,zI,wK,wL] at hq)|refine wA ?_|refine wB ?_|refine wC ?_|refine wD ?_|refine wE ?_)|((with_reducible refine wN ?_ ?_);focus exact needA)|(with_reducible refine wG ?_)|(refine FCall.lend [0] (cC) ⟨Ln.sameB _ rfl,Ln.fnN ⟨True.intro,Ln.box1 (by decide) rfl (Ln.sameB _ rfl) rfl⟩,True.intro⟩ rfl trivial ?_)|(with_reducible refine wP ?_)))
    all_goals (try conv=>whnf)
    exact ⟨⟨(k + 1,[]),⟨by omega,by show [] = rdK L (k + 1);exact hs⟩,by show _ - (k + 1) < _ - k;omega,[],Cut.nil _,Ln.sameB _ rfl,Ln.A,Ln.A,Ln.A,True.intro⟩⟩
   ·dsimp only at hs ⊢
    (repeat' ((try conv=>whnf);first|(with_reducible first|refine wT ?_|refine wF ?_|(refine wI (fun hq=>?_) (fun hq=>?_) <;> try simp only [zA,zE,zD,zJ,zB,zI,wK,wL] at hq)|refine wA ?_|refine wB ?_|refine wC ?_|refine wD ?_|refine wE ?_)|((with_reducible refine wN ?_ ?_);focus exact needA)|(with_reducible refine wG ?_)|(refine FCall.lend [0] (cC) ⟨Ln.sameB _ rfl,Ln.fnN ⟨True.intro,Ln.box1 (by decide) rfl (Ln.sameB _ rfl) rfl⟩,True.intro⟩ rfl trivial ?_)|(with_reducible refine wP ?_)))
    all_goals (try conv=>whnf)
    exact ⟨⟨(k + 1,[a]),⟨by omega,by show [a] = rdK L (k + 1);exact hs⟩,by show _ - (k + 1) < _ - k;omega,[],Cut.nil _,Ln.sameB _ rfl,Ln.n1 rfl,Ln.A,Ln.A,True.intro⟩⟩
   ·dsimp only at hs ⊢
    (repeat' ((try conv=>whnf);first|(with_reducible first|refine wT ?_|refine wF ?_|(refine wI (fun hq=>?_) (fun hq=>?_) <;> try simp only [zA,zE,zD,zJ,zB,zI,wK,wL] at hq)|refine wA ?_|refine wB ?_|refine wC ?_|refine wD ?_|refine wE ?_)|((with_reducible refine wN ?_ ?_);focus exact needA)|(with_reducible refine wG ?_)|(refine FCall.lend [1] (cC) ⟨Ln.sameB _ rfl,Ln.fnN ⟨True.intro,Ln.box1 (by decide) rfl (Ln.sameB _ rfl) rfl⟩,True.intro⟩ rfl trivial ?_)|(with_reducible refine wP ?_)))
    all_goals (try conv=>whnf)
    exact ⟨⟨(k + 1,a :: b :: t),⟨by omega,by show a :: b :: t = rdK L (k + 1);exact hs⟩,by show _ - (k + 1) < _ - k;omega,[0],(wO rfl rfl rfl (wV rfl (LnB.rowE (Nat.le_refl _) (fun j hj o ho=>rfl)) wX)),Ln.sameB _ rfl,Ln.ownE rfl rfl,Ln.A,Ln.A,True.intro⟩⟩
 ·obtain rfl:k = N:=by omega
  rw [← ho] at hne ⊢
  rcases o with _|⟨a,_|⟨b,t⟩⟩
  ·exact absurd rfl hne
  ·dsimp only
   (repeat' ((try conv=>whnf);first|(with_reducible first|refine wT ?_|refine wF ?_|(refine wI (fun hq=>?_) (fun hq=>?_) <;> try simp only [zA,zE,zD,zJ,zB,zI,wK,wL] at hq)|refine wA ?_|refine wB ?_|refine wC ?_|refine wD ?_|refine wE ?_)|((with_reducible refine wN ?_ ?_);focus exact needA)|(with_reducible refine wG ?_)|(with_reducible refine wP ?_)))
   all_goals (try conv=>whnf)
   exact ⟨⟨aNats false false [a],[],[],Cut.nil _,Ln.sl _ _ _ _ _ _ _ (fun h=>by cases h) (fun k hk o ho=>by obtain rfl:k = 0:=(by omega);rfl),rfl,rfl⟩⟩
  ·dsimp only
   (repeat' ((try conv=>whnf);first|(with_reducible first|refine wT ?_|refine wF ?_|(refine wI (fun hq=>?_) (fun hq=>?_) <;> try simp only [zA,zE,zD,zJ,zB,zI,wK,wL] at hq)|refine wA ?_|refine wB ?_|refine wC ?_|refine wD ?_|refine wE ?_)|((with_reducible refine wN ?_ ?_);focus exact needA)|(with_reducible refine wG ?_)|(with_reducible refine wP ?_)))
   all_goals (try conv=>whnf)
   exact ⟨⟨aNats false false (a :: b :: t),[],[],Cut.nil _,Ln.pubE (goneB rfl) rfl (Nat.le_refl _) rfl (fun _ _ _ _=>rfl),rfl,rfl⟩⟩
end Go.Proofs.YtodpjdmdmmnlpaaGreat
