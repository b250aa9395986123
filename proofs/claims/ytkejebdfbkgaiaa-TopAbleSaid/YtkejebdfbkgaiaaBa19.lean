/- Teams: the reference's Copy, where all people's levels stay own rows (printed by gen_taa.py). / Plain facts on memory: slices that read as lists, worlds that extend other worlds / Exams: plain data, and how they read in memory. / Exams: plain models of the small functions. -/
import Derived.Test.YtkejebdfbkgaiaaBa18
import Derived.WalkKit
import Derived.WalkSpells
import Derived.WalkLawsBesides
import Derived.Deep.QuietTactic
import Derived.BigQuiet
import Derived.Lib.Hide
set_option linter.unusedSimpArgs false
set_option linter.unusedVariables false
namespace Go.Proofs.Ytkejebdfbkgaiaa
open Go.RowKit

/-- The cells of a person whose levels are an own row. -/
abbrev cQ0 (dl:Nat) (p:Person):Nat → AV:=ofL [.own dl p.levels.length,AI p.fields,AI p.clears,aInts false (decide (p.ties.length = 0)) p.ties,.bool p.deaf,AI p.fee]
abbrev rowJ (l:List Int):AB:=.row l.length 1 (fun k _=>AI (l.getD k 0))
def gA (b:Nat → Nat) (l:List Person) (k o:Nat):AV:=cQ0 (b k) (l.getD k ps0) o
def bA : Nat → Nat|0=>4|1=>5|_=>6
def bB : Nat → Nat|0=>1|1=>2|_=>3
def hA (n:Nat) (l:List Person):List AB:=match n with
 | 1=>[.rwg 1 6 (gA bB l),rowJ (l.getD 0 ps0).levels]
 | 2=>[.rwg 2 6 (gA bB l),rowJ (l.getD 0 ps0).levels,rowJ (l.getD 1 ps0).levels]
 | 3=>[.rwg 3 6 (gA bB l),rowJ (l.getD 0 ps0).levels,rowJ (l.getD 1 ps0).levels,rowJ (l.getD 2 ps0).levels]
 | _=>[]
structure Ln6 (σ:Nat → Nat → Prop) (Bp:Nat → Prop) (H:List AB) (c c':Nat → AV):Prop where
 a:Ln σ Bp H (c 0) (c' 0)
 b:Ln σ Bp H (c 1) (c' 1)
 d:Ln σ Bp H (c 2) (c' 2)
 e:Ln σ Bp H (c 3) (c' 3)
 f:Ln σ Bp H (c 4) (c' 4)
 g:Ln σ Bp H (c 5) (c' 5)
section
variable {σ:Nat → Nat → Prop} {Bp:Nat → Prop} {H:List AB}
theorem Ln6.get {c c':Nat → AV} (h:Ln6 σ Bp H c c') {o:Nat} (ho:o < 6):Ln σ Bp H (c o) (c' o):=by
 rcases (show o = 0 ∨ o = 1 ∨ o = 2 ∨ o = 3 ∨ o = 4 ∨ o = 5 by omega) with rfl|rfl|rfl|rfl|rfl|rfl
 ·exact h.a
 ·exact h.b
 ·exact h.d
 ·exact h.e
 ·exact h.f
 ·exact h.g
theorem gA_at {b b':Nat → Nat} {l:List Person} {k o:Nat} (ho:o < 6) (h:Ln σ Bp H (.own (b k) (l.getD k ps0).levels.length) (.own (b' k) (l.getD k ps0).levels.length)):Ln σ Bp H (gA b l k o) (gA b' l k o) :=
 Ln6.get (c:=gA b l k) (c':=gA b' l k) ⟨h,Ln.sameB _ rfl,Ln.sameB _ rfl,Ln.sameB _ rfl,Ln.sameB _ rfl,Ln.sameB _ rfl⟩ ho
theorem gA_ren {b b':Nat → Nat} {l:List Person} {n:Nat} (h:∀ k,k < n → Ln σ Bp H (.own (b k) (l.getD k ps0).levels.length) (.own (b' k) (l.getD k ps0).levels.length)):LnB σ Bp H (.rwg n 6 (gA b l)) (.rwg n 6 (gA b' l)) :=
 ⟨rfl,Nat.le_refl _,fun k hk o ho=>gA_at ho (h k hk)⟩
theorem gA_ref {b:Nat → Nat} {l:List Person} {n:Nat} (h:∀ k,k < n → Ln σ Bp H (.own (b k) (l.getD k ps0).levels.length) (.own (b k) (l.getD k ps0).levels.length)):LnB σ Bp H (.rwg n 6 (gA b l)) (.rwg n 6 (gA b l)):=gA_ren h
theorem gA_more {b b':Nat → Nat} {l:List Person} {n:Nat} {c L:Nat → Nat → AV} (h:∀ k,k < n → Ln σ Bp H (.own (b k) (l.getD k ps0).levels.length) (.own (b' k) (l.getD k ps0).levels.length)) (h2:Ln6 σ Bp H (L 0) (cQ0 (b' n) (l.getD n ps0))) (hc:n = 0 ∨ c = gA b l:=by first|exact Or.inl rfl|exact Or.inr rfl):LnB σ Bp H (.rwg (n + 1) 6 (appc n c L)) (.rwg (n + 1) 6 (gA b' l)):=by
 refine ⟨rfl,Nat.le_refl _,fun k hk o ho=>?_⟩
 by_cases e:k < n
 ·rcases hc with rfl|rfl
  ·omega
  simp only [appc,if_pos e]
  exact gA_at ho (h k e)
 ·obtain rfl:k = n:=by omega
  simp only [appc,Nat.lt_irrefl,if_false,Nat.sub_self]
  exact h2.get ho
end
theorem ap0 {l:List Int} {z:Nat → Nat → AV} {k o:Nat} (ho:o < 1):AI (l.getD k 0) = appc 0 z (fun k _=>AI (l.getD k 0)) k o:=by
 simp only [appc]
 rw [if_neg (Nat.not_lt_zero k),Nat.sub_zero]
set_option maxHeartbeats 8000000
set_option maxRecDepth 100000
theorem copy_all (f:CFl) (langs:Int) (people:List Person) (laws:List LawT) (hs:SmallC ⟨langs,people,laws⟩) (n3:people.length ≤ 3) (n0:0 < people.length) (hl:∀ i,i < people.length → 0 < (people.getD i ps0).levels.length):ACall Try.prog 7 [aCrew f ⟨langs,people,laws⟩] [] (fun v h=>v = .agg 3 (ofL [AI langs,.own 0 people.length,cpLaws laws]) ∧ h = hA people.length people):=by
 have s2:=hs.wl
 have s3:∀ i,i < people.length → (people.getD i ps0).levels.length ≤ 1000 ∧ (people.getD i ps0).ties.length ≤ 1000:=hs.ps
 clear hs
 (refine fcall_of mixed Try.func7 rfl (by decide) (hs:={ pub:=[2,8],alt:=[(1,⟨[0,1,2,3,4],(.alt 5 [6] (.alt 7 [] (.alt 8 [] .leaf .leaf) .leaf) (.alt 7 [] (.alt 5 [6] (.alt 8 [] .leaf .leaf) .leaf) .leaf)),[(5,[1]),(7,[1,4])]⟩)] }) ?k (ac:=?ac) ?c (rs:=?rs) ?r ?l ?H;(case k=>kernel_rfl);(case c=>(conv=>(lhs;cbv)));(case r=>(conv=>(lhs;cbv)));(case l=>exact Nat.le_of_ble_eq_true rfl))
 apply cutG
 ·intro rest
  (repeat' ((try conv=>whnf);first|(with_reducible first|refine wT ?_|refine wF ?_|(refine wI (fun hq=>?_) (fun hq=>?_) <;> try simp only [zA,zE,zD,zJ,zB,zI,wK,wL] at hq)|refine wA ?_|refine wB ?_|refine wC ?_|refine wD ?_|refine wE ?_)|((with_reducible refine wN ?_ ?_);focus exact needA)|(with_reducible refine wG ?_)|(refine FAlt.mk ?_ ?_)|(with_reducible refine wP ?_)))
  all_goals (try conv=>whnf)
  all_goals (rcases hL:laws.length with _|n)
  all_goals
   (repeat' ((try conv=>whnf);first|(with_reducible first|refine wT ?_|refine wF ?_|(refine wI (fun hq=>?_) (fun hq=>?_) <;> try simp only [zA,zE,zD,zJ,zB,zI,wK,wL] at hq)|refine wA ?_|refine wB ?_|refine wC ?_|refine wD ?_|refine wE ?_)|((with_reducible refine wN ?_ ?_);focus exact needA)|(with_reducible refine wG ?_)|(refine FAlt.mk ?_ ?_)|((with_reducible refine wN ?_ ?_);focus ((conv=>whnf);exact ⟨(by show AV.sl _ _ laws.length 3 _ = AV.sl _ _ _ 3 _;rw [hL])⟩))|(with_reducible refine wP ?_)))
   all_goals (try conv=>whnf)
   all_goals first
    | exact FWk.of [(1,.ptr 0 0),(2,.ptr 1 0),(3,.ptr 2 0)] [.box 3 (cCrew f ⟨langs,people,laws⟩),.box 3 (ofL [AI 0,nilS,nilS]),.box 3 (ofL [AI langs,nilS,cpLaws laws])] [0,1,2] (wO rfl rfl rfl (wV rfl ((LnB.boxN ⟨⟨⟨True.intro,Ln.sameB _ rfl⟩,Ln.sameB _ rfl⟩,by first|exact Ln.sameB _ rfl|exact Ln.slN hL|fail⟩)) (wV rfl ((LnB.boxN ⟨⟨⟨True.intro,Ln.sameB _ rfl⟩,Ln.sameB _ rfl⟩,Ln.sameB _ rfl⟩)) (wV rfl (LnB.boxN ⟨⟨⟨True.intro,Ln.sameB _ rfl⟩,Ln.sameB _ rfl⟩,Ln.slZ hL⟩) wX)))) ⟨Ln.ptr _ _ _ rfl,Ln.ptr _ _ _ rfl,Ln.ptr _ _ _ rfl,True.intro⟩ rest.h
    | exact FWk.of [(1,.ptr 0 0),(2,.ptr 1 0),(3,.ptr 2 0)] [.box 3 (cCrew f ⟨langs,people,laws⟩),.box 3 (ofL [AI 0,nilS,nilS]),.box 3 (ofL [AI langs,nilS,cpLaws laws])] [0,1,3] (wO rfl rfl rfl (wV rfl ((LnB.boxN ⟨⟨⟨True.intro,Ln.sameB _ rfl⟩,Ln.sameB _ rfl⟩,by first|exact Ln.sameB _ rfl|exact Ln.slN hL|fail⟩)) (wV rfl ((LnB.boxN ⟨⟨⟨True.intro,Ln.sameB _ rfl⟩,Ln.sameB _ rfl⟩,Ln.sameB _ rfl⟩)) (wV rfl (LnB.boxN ⟨⟨⟨True.intro,Ln.sameB _ rfl⟩,Ln.sameB _ rfl⟩,Ln.pubD (by omega) (goneB rfl) rfl (Nat.le_refl _) (by omega) (fun k hk o ho=>by simp [appc])⟩) wX)))) ⟨Ln.ptr _ _ _ rfl,Ln.ptr _ _ _ rfl,Ln.ptr _ _ _ rfl,True.intro⟩ rest.h
    | exact FWk.of [(1,.ptr 0 0),(2,.ptr 1 0),(3,.ptr 2 0)] [.box 3 (cCrew f ⟨langs,people,laws⟩),.box 3 (ofL [AI 0,nilS,nilS]),.box 3 (ofL [AI langs,nilS,cpLaws laws])] [0,1,2] (wO rfl rfl rfl (wV rfl ((LnB.boxN ⟨⟨⟨True.intro,Ln.sameB _ rfl⟩,Ln.sameB _ rfl⟩,by first|exact Ln.sameB _ rfl|exact Ln.slN hL|fail⟩)) (wV rfl ((LnB.boxN ⟨⟨⟨True.intro,Ln.sameB _ rfl⟩,Ln.sameB _ rfl⟩,Ln.sameB _ rfl⟩)) (wV rfl (LnB.boxN ⟨⟨⟨True.intro,Ln.sameB _ rfl⟩,Ln.sameB _ rfl⟩,Ln.pubD (by omega) (goneB rfl) rfl (Nat.le_refl _) (by omega) (fun k hk o ho=>by simp [appc])⟩) wX)))) ⟨Ln.ptr _ _ _ rfl,Ln.ptr _ _ _ rfl,Ln.ptr _ _ _ rfl,True.intro⟩ rest.h
    | fail
 ·skip
  (repeat' ((try conv=>whnf);first|(with_reducible first|refine wT ?_|refine wF ?_|(refine wI (fun hq=>?_) (fun hq=>?_) <;> try simp only [zA,zE,zD,zJ,zB,zI,wK,wL] at hq)|refine wA ?_|refine wB ?_|refine wC ?_|refine wD ?_|refine wE ?_)|((with_reducible refine wN ?_ ?_);focus exact needA)|(with_reducible refine wG ?_)|(with_reducible refine wP ?_)))
  (try conv=>whnf)
  refine FLoop.of (ACalls.mono _) (X:=Nat) (fun i=>[(1,.ptr 0 0),(2,.ptr 1 0),(3,.ptr 2 0),(4,AI i)]) (fun i=>match i with
   | 0=>[.box 3 (cCrew f ⟨langs,people,laws⟩),.box 3 (ofL [AI 0,nilS,nilS]),.box 3 (ofL [AI langs,nilS,cpLaws laws])]
   | 1=>[.box 3 (cCrew f ⟨langs,people,laws⟩),.box 3 (ofL [AI 0,nilS,nilS]),.box 3 (ofL [AI langs,.own 3 1,cpLaws laws]),.rwg 1 6 (gA bA people),rowJ (people.getD 0 ps0).levels]
   | 2=>[.box 3 (cCrew f ⟨langs,people,laws⟩),.box 3 (ofL [AI 0,nilS,nilS]),.box 3 (ofL [AI langs,.own 3 2,cpLaws laws]),.rwg 2 6 (gA bA people),rowJ (people.getD 0 ps0).levels,rowJ (people.getD 1 ps0).levels]
   | _=>[.box 3 (cCrew f ⟨langs,people,laws⟩),.box 3 (ofL [AI 0,nilS,nilS]),.box 3 (ofL [AI langs,.own 3 3,cpLaws laws]),.rwg 3 6 (gA bA people),rowJ (people.getD 0 ps0).levels,rowJ (people.getD 1 ps0).levels,rowJ (people.getD 2 ps0).levels]) (fun i=>i ≤ people.length) (fun i=>people.length - i) 0 ⟨Nat.zero_le _,[0,1,2],Cut.A,allA⟩ ?_
  intro i hi
  by_cases hlt:i < people.length
  ·obtain ⟨q1,q2⟩:=s3 i hlt
   have hli:=hl i hlt
   obtain rfl|rfl|rfl:i = 0 ∨ i = 1 ∨ i = 2:=by omega
   ·(repeat' ((try conv=>whnf);first|(with_reducible first|refine wT ?_|refine wF ?_|(refine wI (fun hq=>?_) (fun hq=>?_) <;> try simp only [zA,zE,zD,zJ,zB,zI,wK,wL] at hq)|refine wA ?_|refine wB ?_|refine wC ?_|refine wD ?_|refine wE ?_)|((with_reducible refine wN ?_ ?_);focus exact needA)|(with_reducible refine wG ?_)|(with_reducible refine wP ?_)))
    (try conv=>whnf)
    rcases hL:(people.getD 0 ps0).levels.length with _|L
    ·omega
    (repeat' ((try conv=>whnf);first|(with_reducible first|refine wT ?_|refine wF ?_|(refine wI (fun hq=>?_) (fun hq=>?_) <;> try simp only [zA,zE,zD,zJ,zB,zI,wK,wL] at hq)|refine wA ?_|refine wB ?_|refine wC ?_|refine wD ?_|refine wE ?_)|((with_reducible refine wN ?_ ?_);focus exact needA)|(with_reducible refine wG ?_)|(with_reducible refine wP ?_)))
    (try conv=>whnf)
    rcases hT:(people.getD 0 ps0).ties.length with _|T
    all_goals
     (repeat' ((try conv=>whnf);first|(with_reducible first|refine wT ?_|refine wF ?_|(refine wI (fun hq=>?_) (fun hq=>?_) <;> try simp only [zA,zE,zD,zJ,zB,zI,wK,wL] at hq)|refine wA ?_|refine wB ?_|refine wC ?_|refine wD ?_|refine wE ?_)|((with_reducible refine wN ?_ ?_);focus exact needA)|(with_reducible refine wG ?_)|(with_reducible refine wP ?_)))
     (try conv=>whnf)
     refine FWk.of [(1,.ptr 0 0),(2,.ptr 1 0),(3,.ptr 2 0),(4,AI (0:Nat)),(5,.ptr 3 0)] [.box 3 (cCrew f ⟨langs,people,laws⟩),.box 3 (ofL [AI 0,nilS,nilS]),.box 3 (ofL [AI langs,nilS,cpLaws laws]),.box 6 (cQ0 4 (people.getD 0 ps0)),rowJ (people.getD 0 ps0).levels] [0,1,2,3,4] (wO rfl rfl rfl (wV rfl (LnB.A) (wV rfl (LnB.A) (wV rfl (LnB.A) (wV rfl (LnB.boxN ⟨⟨⟨⟨⟨⟨True.intro,Ln.ownE rfl (by omega)⟩,Ln.A⟩,Ln.A⟩,by first|exact Ln.slZ (by assumption)|exact Ln.pubD (by omega) (goneB rfl) rfl (by omega) (by omega) (fun k hk o ho=>by simp [appc])|fail⟩,Ln.A⟩,Ln.A⟩) (wV rfl (LnB.rowE (by omega) fun k hk o ho=>ap0 ho) wX)))))) ⟨Ln.A,Ln.A,Ln.A,Ln.A,Ln.A,True.intro⟩ ?_
     (repeat' ((try conv=>whnf);first|(with_reducible first|refine wT ?_|refine wF ?_|(refine wI (fun hq=>?_) (fun hq=>?_) <;> try simp only [zA,zE,zD,zJ,zB,zI,wK,wL] at hq)|refine wA ?_|refine wB ?_|refine wC ?_|refine wD ?_|refine wE ?_)|((with_reducible refine wN ?_ ?_);focus exact needA)|(with_reducible refine wG ?_)|(refine FOr.keep ?_)|(with_reducible refine wP ?_)))
     (try conv=>whnf)
     exact ⟨⟨1,hlt,by show people.length - 1 < people.length - 0;omega,[0,1,2,6,4],(wO rfl rfl rfl (wV rfl (LnB.A) (wV rfl (LnB.A) (wV rfl (LnB.boxN ⟨⟨⟨True.intro,Ln.A⟩,Ln.ownE rfl (by first|rfl|omega)⟩,Ln.A⟩) (wV rfl (gA_more (b:=bA) (b':=bA) (fun k hk=>by omega) ⟨Ln.ownE rfl rfl,Ln.A,Ln.A,Ln.A,Ln.A,Ln.A⟩) (wV rfl (LnB.A) wX)))))),allA⟩⟩
   ·(repeat' ((try conv=>whnf);first|(with_reducible first|refine wT ?_|refine wF ?_|(refine wI (fun hq=>?_) (fun hq=>?_) <;> try simp only [zA,zE,zD,zJ,zB,zI,wK,wL] at hq)|refine wA ?_|refine wB ?_|refine wC ?_|refine wD ?_|refine wE ?_)|((with_reducible refine wN ?_ ?_);focus exact needA)|(with_reducible refine wG ?_)|(with_reducible refine wP ?_)))
    (try conv=>whnf)
    rcases hL:(people.getD 1 ps0).levels.length with _|L
    ·omega
    (repeat' ((try conv=>whnf);first|(with_reducible first|refine wT ?_|refine wF ?_|(refine wI (fun hq=>?_) (fun hq=>?_) <;> try simp only [zA,zE,zD,zJ,zB,zI,wK,wL] at hq)|refine wA ?_|refine wB ?_|refine wC ?_|refine wD ?_|refine wE ?_)|((with_reducible refine wN ?_ ?_);focus exact needA)|(with_reducible refine wG ?_)|(with_reducible refine wP ?_)))
    (try conv=>whnf)
    rcases hT:(people.getD 1 ps0).ties.length with _|T
    all_goals
     (repeat' ((try conv=>whnf);first|(with_reducible first|refine wT ?_|refine wF ?_|(refine wI (fun hq=>?_) (fun hq=>?_) <;> try simp only [zA,zE,zD,zJ,zB,zI,wK,wL] at hq)|refine wA ?_|refine wB ?_|refine wC ?_|refine wD ?_|refine wE ?_)|((with_reducible refine wN ?_ ?_);focus exact needA)|(with_reducible refine wG ?_)|(with_reducible refine wP ?_)))
     (try conv=>whnf)
     refine FWk.of [(1,.ptr 0 0),(2,.ptr 1 0),(3,.ptr 2 0),(4,AI (1:Nat)),(5,.ptr 5 0)] [.box 3 (cCrew f ⟨langs,people,laws⟩),.box 3 (ofL [AI 0,nilS,nilS]),.box 3 (ofL [AI langs,.own 3 1,cpLaws laws]),.rwg 1 6 (gA bA people),rowJ (people.getD 0 ps0).levels,.box 6 (cQ0 6 (people.getD 1 ps0)),rowJ (people.getD 1 ps0).levels] [0,1,2,3,4,5,6] (wO rfl rfl rfl (wV rfl (LnB.A) (wV rfl (LnB.A) (wV rfl (LnB.A) (wV rfl (gA_ref (b:=bA) (fun k hk=>by match k,hk with|0,_=>exact Ln.ownE rfl rfl)) (wV rfl (LnB.A) (wV rfl (LnB.boxN ⟨⟨⟨⟨⟨⟨True.intro,Ln.ownE rfl (by omega)⟩,Ln.A⟩,Ln.A⟩,by first|exact Ln.slZ (by assumption)|exact Ln.pubD (by omega) (goneB rfl) rfl (by omega) (by omega) (fun k hk o ho=>by simp [appc])|fail⟩,Ln.A⟩,Ln.A⟩) (wV rfl (LnB.rowE (by omega) fun k hk o ho=>ap0 ho) wX)))))))) ⟨Ln.A,Ln.A,Ln.A,Ln.A,Ln.A,True.intro⟩ ?_
     (repeat' ((try conv=>whnf);first|(with_reducible first|refine wT ?_|refine wF ?_|(refine wI (fun hq=>?_) (fun hq=>?_) <;> try simp only [zA,zE,zD,zJ,zB,zI,wK,wL] at hq)|refine wA ?_|refine wB ?_|refine wC ?_|refine wD ?_|refine wE ?_)|((with_reducible refine wN ?_ ?_);focus exact needA)|(with_reducible refine wG ?_)|(refine FOr.keep ?_)|(with_reducible refine wP ?_)))
     (try conv=>whnf)
     exact ⟨⟨2,hlt,by show people.length - 2 < people.length - 1;omega,[0,1,2,8,4,6],(wO rfl rfl rfl (wV rfl (LnB.A) (wV rfl (LnB.A) (wV rfl (LnB.boxN ⟨⟨⟨True.intro,Ln.A⟩,Ln.ownE rfl (by first|rfl|omega)⟩,Ln.A⟩) (wV rfl (gA_more (b:=bA) (b':=bA) (fun k hk=>by match k,hk with|0,_=>exact Ln.ownE rfl rfl) ⟨Ln.ownE rfl rfl,Ln.A,Ln.A,Ln.A,Ln.A,Ln.A⟩) (wV rfl (LnB.A) (wV rfl (LnB.A) wX))))))),allA⟩⟩
   ·(repeat' ((try conv=>whnf);first|(with_reducible first|refine wT ?_|refine wF ?_|(refine wI (fun hq=>?_) (fun hq=>?_) <;> try simp only [zA,zE,zD,zJ,zB,zI,wK,wL] at hq)|refine wA ?_|refine wB ?_|refine wC ?_|refine wD ?_|refine wE ?_)|((with_reducible refine wN ?_ ?_);focus exact needA)|(with_reducible refine wG ?_)|(with_reducible refine wP ?_)))
    (try conv=>whnf)
    rcases hL:(people.getD 2 ps0).levels.length with _|L
    ·omega
    (repeat' ((try conv=>whnf);first|(with_reducible first|refine wT ?_|refine wF ?_|(refine wI (fun hq=>?_) (fun hq=>?_) <;> try simp only [zA,zE,zD,zJ,zB,zI,wK,wL] at hq)|refine wA ?_|refine wB ?_|refine wC ?_|refine wD ?_|refine wE ?_)|((with_reducible refine wN ?_ ?_);focus exact needA)|(with_reducible refine wG ?_)|(with_reducible refine wP ?_)))
    (try conv=>whnf)
    rcases hT:(people.getD 2 ps0).ties.length with _|T
    all_goals
     (repeat' ((try conv=>whnf);first|(with_reducible first|refine wT ?_|refine wF ?_|(refine wI (fun hq=>?_) (fun hq=>?_) <;> try simp only [zA,zE,zD,zJ,zB,zI,wK,wL] at hq)|refine wA ?_|refine wB ?_|refine wC ?_|refine wD ?_|refine wE ?_)|((with_reducible refine wN ?_ ?_);focus exact needA)|(with_reducible refine wG ?_)|(with_reducible refine wP ?_)))
     (try conv=>whnf)
     refine FWk.of [(1,.ptr 0 0),(2,.ptr 1 0),(3,.ptr 2 0),(4,AI (2:Nat)),(5,.ptr 6 0)] [.box 3 (cCrew f ⟨langs,people,laws⟩),.box 3 (ofL [AI 0,nilS,nilS]),.box 3 (ofL [AI langs,.own 3 2,cpLaws laws]),.rwg 2 6 (gA bA people),rowJ (people.getD 0 ps0).levels,rowJ (people.getD 1 ps0).levels,.box 6 (cQ0 7 (people.getD 2 ps0)),rowJ (people.getD 2 ps0).levels] [0,1,2,3,4,5,6,7] (wO rfl rfl rfl (wV rfl (LnB.A) (wV rfl (LnB.A) (wV rfl (LnB.A) (wV rfl (gA_ref (b:=bA) (fun k hk=>by match k,hk with|0,_=>exact Ln.ownE rfl rfl|1,_=>exact Ln.ownE rfl rfl)) (wV rfl (LnB.A) (wV rfl (LnB.A) (wV rfl (LnB.boxN ⟨⟨⟨⟨⟨⟨True.intro,Ln.ownE rfl (by omega)⟩,Ln.A⟩,Ln.A⟩,by first|exact Ln.slZ (by assumption)|exact Ln.pubD (by omega) (goneB rfl) rfl (by omega) (by omega) (fun k hk o ho=>by simp [appc])|fail⟩,Ln.A⟩,Ln.A⟩) (wV rfl (LnB.rowE (by omega) fun k hk o ho=>ap0 ho) wX))))))))) ⟨Ln.A,Ln.A,Ln.A,Ln.A,Ln.A,True.intro⟩ ?_
     (repeat' ((try conv=>whnf);first|(with_reducible first|refine wT ?_|refine wF ?_|(refine wI (fun hq=>?_) (fun hq=>?_) <;> try simp only [zA,zE,zD,zJ,zB,zI,wK,wL] at hq)|refine wA ?_|refine wB ?_|refine wC ?_|refine wD ?_|refine wE ?_)|((with_reducible refine wN ?_ ?_);focus exact needA)|(with_reducible refine wG ?_)|(refine FOr.keep ?_)|(with_reducible refine wP ?_)))
     (try conv=>whnf)
     exact ⟨⟨3,hlt,by show people.length - 3 < people.length - 2;omega,[0,1,2,9,4,5,7],(wO rfl rfl rfl (wV rfl (LnB.A) (wV rfl (LnB.A) (wV rfl (LnB.boxN ⟨⟨⟨True.intro,Ln.A⟩,Ln.ownE rfl (by first|rfl|omega)⟩,Ln.A⟩) (wV rfl (gA_more (b:=bA) (b':=bA) (fun k hk=>by match k,hk with|0,_=>exact Ln.ownE rfl rfl|1,_=>exact Ln.ownE rfl rfl) ⟨Ln.ownE rfl rfl,Ln.A,Ln.A,Ln.A,Ln.A,Ln.A⟩) (wV rfl (LnB.A) (wV rfl (LnB.A) (wV rfl (LnB.A) wX)))))))),allA⟩⟩
  ·have he:i = people.length:=by omega
   obtain rfl|rfl|rfl|rfl:i = 0 ∨ i = 1 ∨ i = 2 ∨ i = 3:=by omega
   ·omega
   ·(repeat' ((try conv=>whnf);first|(with_reducible first|refine wT ?_|refine wF ?_|(refine wI (fun hq=>?_) (fun hq=>?_) <;> try simp only [zA,zE,zD,zJ,zB,zI,wK,wL] at hq)|refine wA ?_|refine wB ?_|refine wC ?_|refine wD ?_|refine wE ?_)|((with_reducible refine wN ?_ ?_);focus exact needA)|(with_reducible refine wG ?_)|(with_reducible refine wP ?_)))
    (try conv=>whnf)
    exact ⟨⟨.agg 3 (ofL [AI langs,.own 0 1,cpLaws laws]),hA 1 people,[3,4],(wO rfl rfl rfl (wV rfl (gA_ren (b:=bA) (b':=bB) (fun k hk=>by match k,hk with|0,_=>exact Ln.ownE rfl rfl)) (wV rfl (LnB.A) wX))),Ln.aggN ⟨⟨⟨True.intro,Ln.A⟩,Ln.A⟩,Ln.A⟩,by rw [← he],by rw [← he]⟩⟩
   ·(repeat' ((try conv=>whnf);first|(with_reducible first|refine wT ?_|refine wF ?_|(refine wI (fun hq=>?_) (fun hq=>?_) <;> try simp only [zA,zE,zD,zJ,zB,zI,wK,wL] at hq)|refine wA ?_|refine wB ?_|refine wC ?_|refine wD ?_|refine wE ?_)|((with_reducible refine wN ?_ ?_);focus exact needA)|(with_reducible refine wG ?_)|(with_reducible refine wP ?_)))
    (try conv=>whnf)
    exact ⟨⟨.agg 3 (ofL [AI langs,.own 0 2,cpLaws laws]),hA 2 people,[3,4,5],(wO rfl rfl rfl (wV rfl (gA_ren (b:=bA) (b':=bB) (fun k hk=>by match k,hk with|0,_=>exact Ln.ownE rfl rfl|1,_=>exact Ln.ownE rfl rfl)) (wV rfl (LnB.A) (wV rfl (LnB.A) wX)))),Ln.aggN ⟨⟨⟨True.intro,Ln.A⟩,Ln.A⟩,Ln.A⟩,by rw [← he],by rw [← he]⟩⟩
   ·(repeat' ((try conv=>whnf);first|(with_reducible first|refine wT ?_|refine wF ?_|(refine wI (fun hq=>?_) (fun hq=>?_) <;> try simp only [zA,zE,zD,zJ,zB,zI,wK,wL] at hq)|refine wA ?_|refine wB ?_|refine wC ?_|refine wD ?_|refine wE ?_)|((with_reducible refine wN ?_ ?_);focus exact needA)|(with_reducible refine wG ?_)|(with_reducible refine wP ?_)))
    (try conv=>whnf)
    exact ⟨⟨.agg 3 (ofL [AI langs,.own 0 3,cpLaws laws]),hA 3 people,[3,4,5,6],(wO rfl rfl rfl (wV rfl (gA_ren (b:=bA) (b':=bB) (fun k hk=>by match k,hk with|0,_=>exact Ln.ownE rfl rfl|1,_=>exact Ln.ownE rfl rfl|2,_=>exact Ln.ownE rfl rfl)) (wV rfl (LnB.A) (wV rfl (LnB.A) (wV rfl (LnB.A) wX))))),Ln.aggN ⟨⟨⟨True.intro,Ln.A⟩,Ln.A⟩,Ln.A⟩,by rw [← he],by rw [← he]⟩⟩
end Go.Proofs.Ytkejebdfbkgaiaa

namespace Go.Proofs.Ytkejebdfbkgaiaa
open Go.RowKit

theorem block_of_add (a : Addr) (n : Nat) : (a.add n).block = a.block := by unfold Addr.add; split <;> rfl
theorem add_of_add (a : Addr) (i j : Nat) : (a.add i).add j = a.add (i + j) := by
  unfold Addr.add
  by_cases hi : i = 0 <;> by_cases hj : j = 0 <;> simp [hi, hj, Nat.add_assoc]

/-- w' has all that w has, unchanged. -/
abbrev Ext (w w' : World) : Prop := Below w.heap.size w w'

theorem Ext.refl (w : World) : Ext w w := Below.refl _ w
theorem Ext.trans {a b c : World} (h : Ext a b) (k : Ext b c) : Ext a c := Below.trans h (k.mono h.size)
theorem Ext.of_alloc (w : World) (o : Obj) : Ext w (w.alloc o) := (Below.refl _ w).alloc (Nat.le_refl _) o
theorem Ext.alloc {a w : World} (h : Ext a w) (o : Obj) : Ext a (w.alloc o) := Below.alloc h h.size o
theorem Ext.drew {a w : World} (h : Ext a w) : Ext a w.drew := Below.drew h
theorem Ext.drewN {a w : World} (h : Ext a w) (n : Nat) : Ext a (w.drewN n) := ⟨h.os, h.tape, h.output, h.size, h.block⟩
theorem Ext.cellOf {w w' : World} (h : Ext w w') {p : Addr} (hp : p.block < w.heap.size) : w'.cell? p = w.cell? p := Below.cell h hp

/-- The n elements (size cells each) of a slice at A are the cells xs. -/
def Sl (w : World) (size : Nat) (A : Option Addr) (n : Nat) (xs : List Value) : Prop :=
  xs.length = n * size ∧ (0 < n → ∃ b off, A = some ⟨b, off, none⟩ ∧ b < w.heap.size ∧ ∀ (j : Nat) (u : Value), xs[j]? = some u → w.cell? ⟨b, off + j, none⟩ = some u)

theorem Sl.ext {w w' : World} {size n : Nat} {A : Option Addr} {xs : List Value} (h : Sl w size A n xs) (e : Ext w w') : Sl w' size A n xs :=
  ⟨h.1, fun hn => by
    obtain ⟨b, off, hA, hb, hc⟩ := h.2 hn
    exact ⟨b, off, hA, Nat.lt_of_lt_of_le hb e.size, fun j u hu => (e.cellOf (p := ⟨b, off + j, none⟩) hb).trans (hc j u hu)⟩⟩
theorem Sl.nil (w : World) (size : Nat) (A : Option Addr) : Sl w size A 0 [] := ⟨by simp, fun h => absurd h (by omega)⟩
theorem own_lt {w : World} {g : Nat} {o : Obj} (hh : w.heap[g]? = some o) : g < w.heap.size := by
  rcases Nat.lt_or_ge g w.heap.size with hlt | hge
  · exact hlt
  · rw [Array.getElem?_eq_none hge] at hh; cases hh
theorem Sl.of_own {w : World} {base size n c : Nat} {e : TypeId} {A : Option Addr} {xs : List Value} (h : w.ownsRow base e size (.slice A n c) n xs) : Sl w size A n xs := by
  refine ⟨h.1, fun hn => ?_⟩
  rcases h.2 with ⟨hv, hx⟩ | ⟨g, cap, cur, hv, hb, hh, _⟩
  · injection hv with hA hn'
    omega
  · injection hv with hA
    subst hA
    refine ⟨g, 0, rfl, own_lt hh, fun j u hu => ?_⟩
    have h1 := h.cells (g := g) rfl j u hu
    unfold Addr.add at h1
    split at h1
    · rename_i h0; subst h0; exact h1
    · simpa using h1
theorem Sl.at {w : World} {size n : Nat} {A : Option Addr} {xs : List Value} (h : Sl w size A n xs) {k : Nat} (hk : k < n) :
    ∃ b off, A = some ⟨b, off, none⟩ ∧ b < w.heap.size ∧ ∀ i, i < size → ∃ u, xs[k * size + i]? = some u ∧ w.cell? ⟨b, off + (k * size + i), none⟩ = some u := by
  obtain ⟨b, off, hA, hb, hc⟩ := h.2 (by omega)
  refine ⟨b, off, hA, hb, fun i hi => ?_⟩
  have hlt : k * size + i < xs.length := by
    rw [h.1]
    have : (k + 1) * size ≤ n * size := Nat.mul_le_mul_right _ hk
    rw [Nat.add_mul] at this
    omega
  exact ⟨xs[k * size + i], List.getElem?_eq_getElem hlt, hc _ _ (List.getElem?_eq_getElem hlt)⟩

/-- A slice of ints. -/
def Ints (w : World) (A : Option Addr) (l : List Int) : Prop :=
  ∀ k, k < l.length → ∃ b off, A = some ⟨b, off, none⟩ ∧ b < w.heap.size ∧ w.cell? ⟨b, off + k, none⟩ = some (.int .i64 (l.getD k 0))
theorem Ints.ext {w w' : World} {A : Option Addr} {l : List Int} (h : Ints w A l) (e : Ext w w') : Ints w' A l := fun k hk => by
  obtain ⟨b, off, hA, hb, hc⟩ := h k hk
  exact ⟨b, off, hA, Nat.lt_of_lt_of_le hb e.size, (e.cellOf (p := ⟨b, off + k, none⟩) hb).trans hc⟩
theorem Ints.of_own {w : World} {base n c : Nat} {e : TypeId} {A : Option Addr} {l : List Int} (h : w.ownsRow base e 1 (.slice A n c) n (l.map (.int .i64))) : n = l.length ∧ Ints w A l := by
  have hl : n = l.length := by have := h.1; simp at this; omega
  refine ⟨hl, fun k hk => ?_⟩
  obtain ⟨b, off, hA, hb, hc⟩ := (Sl.of_own h).at (k := k) (by omega)
  obtain ⟨u, hu, hcu⟩ := hc 0 (by omega)
  refine ⟨b, off, hA, hb, ?_⟩
  simp at hu hcu
  obtain ⟨a, ha, rfl⟩ := hu
  rw [hcu]
  simp [List.getD, ha]

theorem Ints.get {w : World} {A : Option Addr} {l : List Int} (h : Ints w A l) {k : Nat} (hk : k < l.length) :
    ∃ b off x, A = some ⟨b, off, none⟩ ∧ b < w.heap.size ∧ w.cell? ⟨b, off + k, none⟩ = some (.int .i64 x) ∧ Hid (l.getD k 0 = x) := by
  obtain ⟨b, off, h1, h2, h3⟩ := h k hk
  exact ⟨b, off, _, h1, h2, h3, rfl⟩

theorem Ext.unalloc {w wr : World} {o : Obj} (h : Ext (w.alloc o) wr) : Ext w wr := (Ext.of_alloc w o).trans h
theorem Ext.box {w wr : World} {cs : Array Value} {T : TypeId} (h : Ext (w.alloc (.cells cs T)) wr) (i : Nat) : wr.cell? ⟨w.heap.size, i, none⟩ = cs[i]? := by
  rw [h.cellOf (by simp), World.cell?_alloc_at _ _ _ _ rfl]
theorem Ext.boxFree {w wr : World} {cs : Array Value} {T : TypeId} (h : Ext (w.alloc (.cells cs T)) wr) (i : Nat) : wr.frozen? ⟨w.heap.size, i, none⟩ = false := by
  rw [Below.frozen h (by simp), World.frozen?_alloc_at _ _ _ _ rfl]
theorem Ext.lt {w wr : World} {o : Obj} (h : Ext (w.alloc o) wr) : w.heap.size < wr.heap.size := by have := h.size; simp at this; omega
theorem Ext.le {w wr : World} (h : Ext w wr) : w.heap.size ≤ wr.heap.size := h.size

theorem Ext.grown {w w' : World} (h : Ext w w') (row : Option Nat) : w.grownBy w' row := ⟨h.os, h.tape, h.output, h.size, fun i hi _ => h.block i hi⟩
theorem Ext.of_grown {w w' : World} (h : w.grownBy w' none) : Ext w w' := ⟨h.os, h.tape, h.output, h.size, fun i hi => h.block i hi (by simp)⟩

/-- Block g is just the cells cs of element type t, none frozen. -/
def Blk (w : World) (g : Nat) (t : TypeId) (cs : Array Value) : Prop := w.heap[g]? = some (.cells cs t (0, 0))
theorem Blk.lt {w : World} {g : Nat} {t : TypeId} {cs : Array Value} (h : Blk w g t cs) : g < w.heap.size := own_lt h
theorem Blk.cell {w : World} {g : Nat} {t : TypeId} {cs : Array Value} (h : Blk w g t cs) (i : Nat) : w.cell? ⟨g, i, none⟩ = cs[i]? := by
  unfold Blk at h; simp [World.cell?, h]
theorem Blk.free {w : World} {g : Nat} {t : TypeId} {cs : Array Value} (h : Blk w g t cs) (i : Nat) : w.frozen? ⟨g, i, none⟩ = false := by
  unfold Blk at h; simp [World.frozen?, h]
theorem Blk.new (w : World) (t : TypeId) (cs : Array Value) : Blk (w.alloc (.cells cs t)) w.heap.size t cs := heap_alloc_new w _
theorem Blk.ext {w w' : World} {g : Nat} {t : TypeId} {cs : Array Value} (h : Blk w g t cs) (e : Ext w w') : Blk w' g t cs := (e.block g h.lt).trans h
theorem Blk.alloc {w : World} {g : Nat} {t : TypeId} {cs : Array Value} (h : Blk w g t cs) (o : Obj) : Blk (w.alloc o) g t cs := h.ext (Ext.of_alloc _ _)
theorem Blk.set {w : World} {g : Nat} {t : TypeId} {cs : Array Value} (h : Blk w g t cs) (i : Nat) (u : Value) : Blk (w.setCell ⟨g, i, none⟩ u) g t (cs.setIfInBounds i u) := by
  unfold Blk at h ⊢
  simp [World.setCell, Array.getElem?_modify, h]
theorem Blk.far {w : World} {g : Nat} {t : TypeId} {cs : Array Value} (h : Blk w g t cs) {p : Addr} (hp : g ≠ p.block) (u : Value) : Blk (w.setCell p u) g t cs := (Below.heap_setCell w p u g hp).trans h
theorem Blk.grown {w w' : World} {g : Nat} {t : TypeId} {cs : Array Value} {row : Option Nat} (h : Blk w g t cs) (hb : w.grownBy w' row) (hg : some g ≠ row) : Blk w' g t cs := (hb.block g h.lt hg).trans h
theorem Blk.ne {w : World} {g g' : Nat} {t t' : TypeId} {cs cs' : Array Value} (h : Blk w g t cs) (h' : Blk w g' t' cs') (hne : t ≠ t') : g ≠ g' := by
  rintro rfl
  unfold Blk at h h'
  rw [h] at h'
  injection h' with h'
  injection h' with _ ht
  exact hne ht
theorem grown_setCell (w : World) (p : Addr) (u : Value) : w.grownBy (w.setCell p u) (some p.block) :=
  ⟨rfl, rfl, rfl, by simp, fun i _ hne => Below.heap_setCell _ _ _ _ (fun e => hne (by rw [e]))⟩
theorem grown_refl (w : World) (row : Option Nat) : w.grownBy w row := (Ext.refl w).grown row
theorem grown_trans {a b c : World} {row : Option Nat} (h : a.grownBy b row) (k : b.grownBy c row) : a.grownBy c row :=
  ⟨k.os.trans h.os, k.tape.trans h.tape, k.output.trans h.output, Nat.le_trans h.size k.size, fun i hi hne => (k.block i (Nat.lt_of_lt_of_le hi h.size) hne).trans (h.block i hi hne)⟩
theorem grown_drew (w : World) (row : Option Nat) : w.grownBy w.drew row := (Ext.refl w).drew.grown row

theorem quiet_add_same {P : Program} {f : FuncId} {args : Array Value} {w : World} {a n : Nat} {v : Value}
    (h : Calls P f args (w.drewN (a + n)) fun e w' => e = .returned v ∧ w' = w.drewN (a + n)) :
    Calls P f args (w.drewN (a + n)) fun e w'' => e = .returned v ∧ ∃ m, w'' = w.drewN (a + m) :=
  h.mono fun _ _ ⟨he, hm⟩ => ⟨he, n, hm⟩

/-- A region that draws, all of whose operations read or call, in a class of worlds. -/
theorem wp_region_class {P : Program} {id : Nat} {Q : Exit → Act → World → Prop} {a : Act} {w : World} {l : List Oper} (C : World → Prop) (hm : P.follows .mixedOrders = true) (hB : Region.lexB .any l.toArray = true) (hC : C w.drew)
    (h : wpQuiet P l.toArray C (fun a' => ∀ w', C w' → Q .normal a' w') l a) : (Code.region id l.toArray true).wp P Q a w :=
  wp_region_quiet (C := C) hm hB hC (by simpa using h)

theorem ret_int {k : IntKind} {a b : Int} (h : a = b) : Ending.returned (.int k a) = .returned (.int k b) := by rw [h]
theorem ret_bool {a b : Bool} (h : a = b) : Ending.returned (.bool a) = .returned (.bool b) := by rw [h]
end Go.Proofs.Ytkejebdfbkgaiaa

namespace Go.Proofs.Ytkejebdfbkgaiaa
open Go.RowKit

structure Item where
  weight : Int
  most : Int
  deriving Inhabited, DecidableEq
structure Judge where
  lo : Int
  hi : Int
  err : Int
  marks : List Int
  deriving Inhabited, DecidableEq
structure Paper where
  items : List Item
  judges : List Judge
  wrong : Int
  grades : List Int
  deriving Inhabited, DecidableEq

def ItemsAt (w : World) (A : Option Addr) (l : List Item) : Prop :=
  ∀ k, k < l.length → ∃ b off, A = some ⟨b, off, none⟩ ∧ b < w.heap.size ∧ w.cell? ⟨b, off + k * 2, none⟩ = some (.int .i64 (l.getD k default).weight) ∧ w.cell? ⟨b, off + k * 2 + 1, none⟩ = some (.int .i64 (l.getD k default).most)
theorem ItemsAt.ext {w w' : World} {A : Option Addr} {l : List Item} (h : ItemsAt w A l) (e : Ext w w') : ItemsAt w' A l := fun k hk => by
  obtain ⟨b, off, hA, hb, h1, h2⟩ := h k hk
  exact ⟨b, off, hA, Nat.lt_of_lt_of_le hb e.size, (e.cellOf (p := ⟨b, _, none⟩) hb).trans h1, (e.cellOf (p := ⟨b, _, none⟩) hb).trans h2⟩

/-- The four cells of a judge. -/
def JudgeAt (w : World) (b o : Nat) (x : Judge) : Prop :=
  w.cell? ⟨b, o, none⟩ = some (.int .i64 x.lo) ∧ w.cell? ⟨b, o + 1, none⟩ = some (.int .i64 x.hi) ∧ w.cell? ⟨b, o + 2, none⟩ = some (.int .i64 x.err) ∧
    ∃ mA mc, w.cell? ⟨b, o + 3, none⟩ = some (.slice mA x.marks.length mc) ∧ Ints w mA x.marks ∧ x.marks.length ≤ 9223372036854775807
def JudgesAt (w : World) (A : Option Addr) (l : List Judge) : Prop :=
  ∀ k, k < l.length → ∃ b off, A = some ⟨b, off, none⟩ ∧ b < w.heap.size ∧ JudgeAt w b (off + k * 4) (l.getD k default)
theorem JudgeAt.ext {w w' : World} {b : Nat} {o : Nat} {x : Judge} (h : JudgeAt w b o x) (hb : b < w.heap.size) (e : Ext w w') : JudgeAt w' b o x := by
  obtain ⟨h1, h2, h3, mA, mc, h4, h5, h6⟩ := h
  have k : ∀ i, w'.cell? ⟨b, i, none⟩ = w.cell? ⟨b, i, none⟩ := fun i => e.cellOf (p := ⟨b, i, none⟩) hb
  exact ⟨(k _).trans h1, (k _).trans h2, (k _).trans h3, mA, mc, (k _).trans h4, h5.ext e, h6⟩
theorem JudgesAt.ext {w w' : World} {A : Option Addr} {l : List Judge} (h : JudgesAt w A l) (e : Ext w w') : JudgesAt w' A l := fun k hk => by
  obtain ⟨b, off, hA, hb, h1⟩ := h k hk
  exact ⟨b, off, hA, Nat.lt_of_lt_of_le hb e.size, h1.ext hb e⟩

/-- A paper as a value. -/
structure PaperAt (w : World) (iA jA gA : Option Addr) (p : Paper) : Prop where
  items : ItemsAt w iA p.items
  judges : JudgesAt w jA p.judges
  grades : Ints w gA p.grades
  il : p.items.length ≤ 9223372036854775807
  jl : p.judges.length ≤ 9223372036854775807
  gl : p.grades.length ≤ 9223372036854775807
theorem PaperAt.ext {w w' : World} {iA jA gA : Option Addr} {p : Paper} (h : PaperAt w iA jA gA p) (e : Ext w w') : PaperAt w' iA jA gA p :=
  ⟨h.items.ext e, h.judges.ext e, h.grades.ext e, h.il, h.jl, h.gl⟩

/-- GradeOf: how many of the first k grades are at most r. -/
def gradeTo (l : List Int) (r : Int) (k : Nat) : Nat := (l.take k).countP (fun g => decide (g ≤ r))
theorem gradeTo_succ (l : List Int) (r : Int) (k : Nat) (h : k < l.length) : gradeTo l r (k + 1) = gradeTo l r k + if l.getD k 0 ≤ r then 1 else 0 := by
  unfold gradeTo
  rw [List.take_succ_eq_append_getElem h, List.countP_append]
  simp [List.countP_cons, h]
theorem gradeTo_le (l : List Int) (r : Int) (k : Nat) : gradeTo l r k ≤ k := by
  unfold gradeTo
  have := List.countP_le_length (p := fun g => decide (g ≤ r)) (l := l.take k)
  have := List.length_take_le k l
  omega
def gradeOf (p : Paper) (r : Int) : Int := gradeTo p.grades r p.grades.length
end Go.Proofs.Ytkejebdfbkgaiaa

namespace Go.Proofs.Ytkejebdfbkgaiaa
open Go.RowKit

def wi (n lo hi : Int) : Bool := decide (lo ≤ n) && decide (n ≤ hi)
theorem wi_true {n lo hi : Int} (h : wi n lo hi = true) : lo ≤ n ∧ n ≤ hi := by simpa [wi] using h
theorem wi_of {n lo hi : Int} (h : lo ≤ n ∧ n ≤ hi) : wi n lo hi = true := by simpa [wi] using h
theorem wi_false {n lo hi : Int} (h : wi n lo hi = false) : n < lo ∨ hi < n := by
  simp [wi] at h
  omega

/-- The first k numbers agree. -/
def sameTo (a b : List Int) (k : Nat) : Prop := ∀ j, j < k → a.getD j 0 = b.getD j 0
theorem sameTo_succ {a b : List Int} {k : Nat} (h : sameTo a b k) (e : a.getD k 0 = b.getD k 0) : sameTo a b (k + 1) := fun j hj => by
  by_cases hk : j = k
  · subst hk; exact e
  · exact h j (by omega)
theorem eq_of_sameTo {a b : List Int} (hl : a.length = b.length) (h : sameTo a b a.length) : a = b := by
  apply List.ext_getElem? 
  intro j
  by_cases hj : j < a.length
  · have := h j hj
    rw [List.getElem?_eq_getElem hj, List.getElem?_eq_getElem (by omega)]
    simp [List.getD, hj, show j < b.length by omega] at this
    rw [this]
  · rw [List.getElem?_eq_none (by omega), List.getElem?_eq_none (by omega)]

/-- all of the first k. -/
def allTo (P : Nat → Bool) (k : Nat) : Prop := ∀ j, j < k → P j = true
theorem allTo_zero (P : Nat → Bool) : allTo P 0 := fun j h => absurd h (by omega)
theorem allTo_succ {P : Nat → Bool} {k : Nat} (h : allTo P k) (e : P k = true) : allTo P (k + 1) := fun j hj => by
  by_cases hk : j = k
  · subst hk; exact e
  · exact h j (by omega)
theorem all_getD {α : Type} (l : List α) (d : α) (f : α → Bool) : l.all f = true ↔ allTo (fun j => f (l.getD j d)) l.length := by
  rw [List.all_eq_true]
  constructor
  · intro h j hj
    exact h _ (by rw [List.getD, List.getElem?_eq_getElem hj]; exact List.getElem_mem hj)
  · intro h x hx
    obtain ⟨j, hj, rfl⟩ := List.getElem_of_mem hx
    have := h j hj
    simpa [List.getD, hj] using this
theorem all_getD_false {α : Type} {l : List α} {d : α} {f : α → Bool} {k : Nat} (hk : k < l.length) (h : f (l.getD k d) = false) : l.all f = false := by
  cases h1 : l.all f
  · rfl
  · have h2 : f (l.getD k d) = true := (all_getD l d f).1 h1 k hk
    rw [h2] at h; cases h

def itemOk (i : Item) : Bool := wi i.weight 0 10 && wi i.most 0 30
def judgeOk1 (n : Nat) (x : Judge) : Bool := decide (-3 ≤ x.lo) && decide (x.lo ≤ x.hi) && decide (x.hi ≤ 3) && wi x.err 0 5 && decide (x.marks.length = n)
def markOk (m : Int) : Bool := wi m (-1) 50
def judgeOk (n : Nat) (x : Judge) : Bool := judgeOk1 n x && x.marks.all markOk
def gradeOk (l : List Int) (g : Nat) : Bool := wi (l.getD g 0) 0 1200 && (decide (g = 0) || decide (l.getD (g - 1) 0 < l.getD g 0))
def gradesOk (l : List Int) : Bool := (List.range l.length).all (gradeOk l)
def headOk (p : Paper) : Bool := wi p.items.length 1 4 && decide (p.judges.length ≤ 4) && wi p.wrong 0 2 && decide (p.grades.length ≤ 5)
def validB (p : Paper) : Bool := headOk p && p.items.all itemOk && p.judges.all (judgeOk p.items.length) && gradesOk p.grades
def checkE (p : Paper) : Int := if validB p then 0 else 90

theorem gradesOk_iff (l : List Int) : gradesOk l = true ↔ allTo (gradeOk l) l.length := by
  unfold gradesOk allTo
  simp [List.all_eq_true, List.mem_range]
theorem checkE_head {p : Paper} (h : headOk p = false) : checkE p = 90 := by simp [checkE, validB, h]
theorem checkE_item {p : Paper} {k : Nat} (hk : k < p.items.length) (h : itemOk (p.items.getD k default) = false) : checkE p = 90 := by
  simp [checkE, validB, all_getD_false hk h]
theorem checkE_judge {p : Paper} {k : Nat} (hk : k < p.judges.length) (h : judgeOk p.items.length (p.judges.getD k default) = false) : checkE p = 90 := by
  simp [checkE, validB, all_getD_false hk h]
theorem checkE_grade {p : Paper} {k : Nat} (hk : k < p.grades.length) (h : gradeOk p.grades k = false) : checkE p = 90 := by
  have : gradesOk p.grades = false := by
    cases h1 : gradesOk p.grades
    · rfl
    · rw [(gradesOk_iff _).1 h1 k hk] at h; cases h
  simp [checkE, validB, this]
theorem checkE_ok {p : Paper} (h1 : headOk p = true) (h2 : allTo (fun j => itemOk (p.items.getD j default)) p.items.length)
    (h3 : allTo (fun j => judgeOk p.items.length (p.judges.getD j default)) p.judges.length) (h4 : allTo (gradeOk p.grades) p.grades.length) : checkE p = 0 := by
  simp [checkE, validB, h1, (all_getD _ _ _).2 h2, (all_getD _ _ _).2 h3, (gradesOk_iff _).2 h4]

/-- A judge's one mark agrees with points at a bias. -/
def agree1 (x : Judge) (t : List Int) (b : Int) (i : Nat) : Bool :=
  decide (x.marks.getD i 0 = -1) || wi (x.marks.getD i 0 - t.getD i 0 - b) (-x.err) x.err
def agree (x : Judge) (t : List Int) (b : Int) : Bool := (List.range t.length).all (agree1 x t b)
def biases (x : Judge) : List Int := (List.range (x.hi + 1 - x.lo).toNat).map (fun n : Nat => x.lo + n)
def isRight (x : Judge) (t : List Int) : Bool := (biases x).any (agree x t)
def wrongsTo (p : Paper) (t : List Int) (k : Nat) : Nat := (p.judges.take k).countP (fun x => !isRight x t)
def wrongs (p : Paper) (t : List Int) : Nat := wrongsTo p t p.judges.length
def isTruth (p : Paper) (t : List Int) : Bool := decide (t.length = p.items.length) && (List.range t.length).all (fun i => wi (t.getD i 0) 0 (p.items.getD i default).most)
def isPossible (p : Paper) (t : List Int) : Bool := isTruth p t && decide ((wrongs p t : Int) ≤ p.wrong)
def resultTo (p : Paper) (t : List Int) : Nat → Int
  | 0 => 0
  | k + 1 => resultTo p t k + t.getD k 0 * (p.items.getD k default).weight
def resultOf (p : Paper) (t : List Int) : Int := resultTo p t t.length

theorem wrongsTo_succ (p : Paper) (t : List Int) (k : Nat) (h : k < p.judges.length) : wrongsTo p t (k + 1) = wrongsTo p t k + if isRight (p.judges.getD k default) t = true then 0 else 1 := by
  unfold wrongsTo
  rw [List.take_succ_eq_append_getElem h, List.countP_append]
  simp [List.countP_cons, h]
  split <;> simp_all
theorem wrongsTo_le (p : Paper) (t : List Int) (k : Nat) : wrongsTo p t k ≤ k := by
  unfold wrongsTo
  have := List.countP_le_length (p := fun x => !isRight x t) (l := p.judges.take k)
  have := List.length_take_le k p.judges
  omega
theorem range_all {n : Nat} {f : Nat → Bool} : (List.range n).all f = true ↔ allTo f n := by
  simp [List.all_eq_true, List.mem_range, allTo]
theorem range_all_false {n k : Nat} {f : Nat → Bool} (hk : k < n) (h : f k = false) : (List.range n).all f = false := by
  cases h1 : (List.range n).all f
  · rfl
  · rw [range_all.1 h1 k hk] at h; cases h
theorem allTo_snoc {f : Nat → Bool} {k : Nat} : (List.range (k + 1)).all f = ((List.range k).all f && f k) := by
  rw [List.range_succ, List.all_append]; simp

structure Valid (p : Paper) : Prop where
  il : 1 ≤ p.items.length ∧ p.items.length ≤ 4
  jl : p.judges.length ≤ 4
  wr : 0 ≤ p.wrong ∧ p.wrong ≤ 2
  gl : p.grades.length ≤ 5
  it : ∀ k, k < p.items.length → 0 ≤ (p.items.getD k default).weight ∧ (p.items.getD k default).weight ≤ 10 ∧ 0 ≤ (p.items.getD k default).most ∧ (p.items.getD k default).most ≤ 30
  ju : ∀ k, k < p.judges.length → -3 ≤ (p.judges.getD k default).lo ∧ (p.judges.getD k default).lo ≤ (p.judges.getD k default).hi ∧ (p.judges.getD k default).hi ≤ 3 ∧ 0 ≤ (p.judges.getD k default).err ∧ (p.judges.getD k default).err ≤ 5 ∧ (p.judges.getD k default).marks.length = p.items.length
  ma : ∀ k, k < p.judges.length → ∀ i, i < p.items.length → -1 ≤ (p.judges.getD k default).marks.getD i 0 ∧ (p.judges.getD k default).marks.getD i 0 ≤ 50
  gr : ∀ g, g < p.grades.length → 0 ≤ p.grades.getD g 0 ∧ p.grades.getD g 0 ≤ 1200 ∧ (g = 0 ∨ p.grades.getD (g - 1) 0 < p.grades.getD g 0)

theorem valid_of {p : Paper} (h : validB p = true) : Valid p := by
  simp only [validB, headOk, Bool.and_eq_true, decide_eq_true_eq] at h
  obtain ⟨⟨⟨⟨⟨⟨h1, h2⟩, h3⟩, h4⟩, h5⟩, h6⟩, h7⟩ := h
  have h5 := (all_getD _ default _).1 h5
  have h6 := (all_getD _ default _).1 h6
  have h7 := (gradesOk_iff _).1 h7
  have h1 := wi_true h1
  have h3 := wi_true h3
  have key : ∀ k, k < p.judges.length → (-3 ≤ (p.judges.getD k default).lo ∧ (p.judges.getD k default).lo ≤ (p.judges.getD k default).hi ∧ (p.judges.getD k default).hi ≤ 3 ∧ 0 ≤ (p.judges.getD k default).err ∧ (p.judges.getD k default).err ≤ 5 ∧ (p.judges.getD k default).marks.length = p.items.length) ∧ allTo (fun j => markOk ((p.judges.getD k default).marks.getD j 0)) (p.judges.getD k default).marks.length := by
    intro k hk
    have := h6 k hk
    simp only [judgeOk, judgeOk1, Bool.and_eq_true, decide_eq_true_eq] at this
    obtain ⟨⟨⟨⟨⟨a, b⟩, c⟩, d⟩, e⟩, f⟩ := this
    exact ⟨⟨a, b, c, (wi_true d).1, (wi_true d).2, e⟩, (all_getD _ 0 _).1 f⟩
  refine ⟨⟨by omega, by omega⟩, h2, ⟨h3.1, h3.2⟩, h4, fun k hk => ?_, fun k hk => (key k hk).1, fun k hk i hi => ?_, fun g hg => ?_⟩
  · have := h5 k hk
    simp only [itemOk, Bool.and_eq_true] at this
    have a := wi_true this.1
    have b := wi_true this.2
    exact ⟨a.1, a.2, b.1, b.2⟩
  · exact wi_true ((key k hk).2 i (by have := (key k hk).1.2.2.2.2.2; omega))
  · have := h7 g hg
    simp only [gradeOk, Bool.and_eq_true, Bool.or_eq_true, decide_eq_true_eq] at this
    exact ⟨(wi_true this.1).1, (wi_true this.1).2, this.2⟩
theorem headOk_false {p : Paper} (h : headOk p = false) : wi p.items.length 1 4 = false ∨ (wi p.items.length 1 4 = true ∧ 4 < p.judges.length) ∨ (wi p.items.length 1 4 = true ∧ p.judges.length ≤ 4 ∧ wi p.wrong 0 2 = false) ∨
    (wi p.items.length 1 4 = true ∧ p.judges.length ≤ 4 ∧ wi p.wrong 0 2 = true ∧ 5 < p.grades.length) := by
  unfold headOk at h
  cases h1 : wi p.items.length 1 4 <;> cases h2 : wi p.wrong 0 2 <;> simp [h1, h2] at h ⊢ <;> omega
theorem headOk_true {p : Paper} (h : headOk p = true) : wi p.items.length 1 4 = true ∧ p.judges.length ≤ 4 ∧ wi p.wrong 0 2 = true ∧ p.grades.length ≤ 5 := by
  unfold headOk at h
  cases h1 : wi p.items.length 1 4 <;> cases h2 : wi p.wrong 0 2 <;> simp [h1, h2] at h ⊢ <;> omega

theorem judgeOk1_eq (n : Nat) (lo hi err : Int) (ma : List Int) : judgeOk1 n ⟨lo, hi, err, ma⟩ = (decide (-3 ≤ lo) && decide (lo ≤ hi) && decide (hi ≤ 3) && wi err 0 5 && decide (ma.length = n)) := rfl

/-- The first part of a judge's look: what is false first. -/
theorem judgeOk1_false {n : Nat} {lo hi err : Int} {ma : List Int} (h : judgeOk1 n ⟨lo, hi, err, ma⟩ = false) :
    lo < -3 ∨ (-3 ≤ lo ∧ hi < lo) ∨ (-3 ≤ lo ∧ lo ≤ hi ∧ 3 < hi) ∨ (-3 ≤ lo ∧ lo ≤ hi ∧ hi ≤ 3 ∧ wi err 0 5 = false) ∨ (-3 ≤ lo ∧ lo ≤ hi ∧ hi ≤ 3 ∧ wi err 0 5 = true ∧ ((ma.length : Int) != n) = true ∧ ((ma.length : Int) == n) = false) := by
  rw [judgeOk1_eq] at h
  cases h1 : wi err 0 5 <;> simp [h1] at h ⊢ <;> omega
theorem judgeOk1_true {n : Nat} {lo hi err : Int} {ma : List Int} (h : judgeOk1 n ⟨lo, hi, err, ma⟩ = true) :
    -3 ≤ lo ∧ lo ≤ hi ∧ hi ≤ 3 ∧ wi err 0 5 = true ∧ ((ma.length : Int) != n) = false ∧ ((ma.length : Int) == n) = true := by
  rw [judgeOk1_eq] at h
  cases h1 : wi err 0 5 <;> simp [h1] at h ⊢ <;> omega

end Go.Proofs.Ytkejebdfbkgaiaa
