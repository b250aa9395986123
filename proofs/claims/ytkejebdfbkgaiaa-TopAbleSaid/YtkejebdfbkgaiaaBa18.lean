/- Teams: the laws' helpers: sameInts, size, Far, ready. / Teams: the reference's Copy, in memory of its own. / Teams: a team that fits with sure levels fits with the true ones (plain law of TopAble). / Teams: crews whose levels are given anew (plain). -/
import Derived.Test.YtkejebdfbkgaiaaBa17
set_option linter.unusedSimpArgs false
set_option linter.unusedVariables false
namespace Go.Proofs.Ytkejebdfbkgaiaa
open Go.RowKit

theorem same_step {a b:List Int} {i:Nat} (hl:a.length = b.length) (hi:i < a.length) (h:a.take i = b.take i) (e:a.getD i 0 = b.getD i 0):a.take (i + 1) = b.take (i + 1):=by
 have hb:i < b.length:=by omega
 rw [List.take_add_one,List.take_add_one,h]
 simp only [List.getD,List.getElem?_eq_getElem hi,List.getElem?_eq_getElem hb,Option.getD_some] at e
 rw [List.getElem?_eq_getElem hi,List.getElem?_eq_getElem hb,e]
set_option maxHeartbeats 4000000
set_option maxRecDepth 100000
/-- Too large for the laws. -/
def bigPs (p:Person):Bool:=decide (20 < p.levels.length) || decide (30 < p.ties.length)
def farT (c:Crew):Bool:=decide (20 < c.people.length) || decide (20 < c.laws.length) || c.people.any bigPs || (c.ok && decide (5 < c.people.length))
structure NearT (c:Crew):Prop where
 pl:c.people.length ≤ 20
 wl:c.laws.length ≤ 20
 ps:∀ i,i < c.people.length → (c.people.getD i ps0).levels.length ≤ 20 ∧ (c.people.getD i ps0).ties.length ≤ 30
 five:c.ok = true → c.people.length ≤ 5
theorem near_of {c:Crew} (h:farT c = false):NearT c:=by
 simp only [farT,Bool.or_eq_false_iff,decide_eq_false_iff_not,Bool.and_eq_false_iff,Nat.not_lt] at h
 obtain ⟨⟨⟨a,b⟩,d⟩,e⟩:=h
 refine ⟨a,b,fun i hi=>?_,fun hk=>by rcases e with e|e;(· rw [hk] at e;cases e);exact e⟩
 have hb:bigPs (c.people.getD i ps0) = false:=by
  rw [List.any_eq_false] at d
  have:=d (c.people.getD i ps0) (by simp [List.getD,List.getElem?_eq_getElem hi])
  cases hq:bigPs (c.people.getD i ps0)
  ·rfl
  ·exact absurd hq this
 simp only [bigPs,Bool.or_eq_false_iff,decide_eq_false_iff_not,Nat.not_lt] at hb
 exact hb
theorem any_step {α:Type} {p:α → Bool} {l:List α} {i:Nat} (d:α) (h:i < l.length) (e:l.any p = (l.drop i).any p) (hp:p (l.getD i d) = false):l.any p = (l.drop (i + 1)).any p:=by
 rw [e,drop_eq d h,List.any_cons,hp,Bool.false_or]
theorem any_yes {α:Type} {p:α → Bool} {l:List α} {i:Nat} (d:α) (h:i < l.length) (e:l.any p = (l.drop i).any p) (hp:p (l.getD i d) = true):l.any p = true:=by
 rw [e,drop_eq d h,List.any_cons,hp,Bool.true_or]
theorem any_end {α:Type} {p:α → Bool} {l:List α} {i:Nat} (h:l.length ≤ i) (e:l.any p = (l.drop i).any p):l.any p = false:=by
 rw [e,List.drop_eq_nil_of_le h];rfl
theorem farT_ok (f:CFl) (c:Crew):ACall Try.prog 4 [aCrew f c] [] (fun r h=>r = .bool (farT c) ∧ h = []):=by
 (refine fcall_of mixed Try.func4 rfl (by decide) (hs:={}) ?k (ac:=?ac) ?c (rs:=?rs) ?r ?l ?H;(case k=>kernel_rfl);(case c=>(conv=>(lhs;cbv)));(case r=>(conv=>(lhs;cbv)));(case l=>exact Nat.le_of_ble_eq_true rfl))
 (repeat' ((try conv=>whnf);first|(with_reducible first|refine wT ?_|refine wF ?_|(refine wI (fun hq=>?_) (fun hq=>?_) <;> try simp only [zA,zE,zD,zJ,zB,zI,wK,wL] at hq)|refine wA ?_|refine wB ?_|refine wC ?_|refine wD ?_|refine wE ?_)|((with_reducible refine wN ?_ ?_);focus exact needA)|(with_reducible refine wG ?_)|(with_reducible refine wP ?_)))
 all_goals (try conv=>whnf)
 ·(refine ⟨⟨_,[],[],Cut.nil _,Ln.sameB _ rfl,?_,rfl⟩⟩)
  unfold farT
  rw [decide_eq_true (by omega)];rfl
 ·(refine ⟨⟨_,[],[],Cut.nil _,Ln.sameB _ rfl,?_,rfl⟩⟩)
  unfold farT
  rw [decide_eq_true (p:=20 < c.laws.length) (by omega)];simp
 ·refine FLoop.of (ACalls.mono _) (X:=Nat) (fun i=>[(1,.ptr 0 0),(3,AI i)]) (fun _=>[.box 3 (cCrew f c)]) (fun i=>i ≤ c.people.length ∧ c.people.any bigPs = (c.people.drop i).any bigPs) (fun i=>c.people.length - i) 0 ⟨⟨Nat.zero_le _,rfl⟩,[0],Cut.A,allA⟩ ?_
  rintro i ⟨hi,hL⟩
  by_cases hlt:i < c.people.length
  ·(repeat' ((try conv=>whnf);first|(with_reducible first|refine wT ?_|refine wF ?_|(refine wI (fun hq=>?_) (fun hq=>?_) <;> try simp only [zA,zE,zD,zJ,zB,zI,wK,wL] at hq)|refine wA ?_|refine wB ?_|refine wC ?_|refine wD ?_|refine wE ?_)|((with_reducible refine wN ?_ ?_);focus exact needA)|(with_reducible refine wG ?_)|(with_reducible refine wP ?_)))
   all_goals (try conv=>whnf)
   ·(refine ⟨⟨_,[],[],Cut.nil _,Ln.sameB _ rfl,?_,rfl⟩⟩)
    unfold farT
    rw [any_yes ps0 hlt hL (by unfold bigPs;rw [decide_eq_true (by omega)];rfl)];simp
   ·(refine ⟨⟨_,[],[],Cut.nil _,Ln.sameB _ rfl,?_,rfl⟩⟩)
    unfold farT
    rw [any_yes ps0 hlt hL (by unfold bigPs;rw [decide_eq_true (p:=30 < _) (by omega)];simp)];simp
   ·(exact ⟨⟨(i + 1),⟨hlt,any_step ps0 hlt hL (by unfold bigPs;rw [decide_eq_false (by omega),decide_eq_false (by omega)];rfl)⟩,by show _ < _;omega,[0],Cut.A,allA⟩⟩)
  ·have hE:=any_end (by omega) hL
   (repeat' ((try conv=>whnf);first|(with_reducible first|refine wT ?_|refine wF ?_|(refine wI (fun hq=>?_) (fun hq=>?_) <;> try simp only [zA,zE,zD,zJ,zB,zI,wK,wL] at hq)|refine wA ?_|refine wB ?_|refine wC ?_|refine wD ?_|refine wE ?_)|((with_reducible refine wN ?_ ?_);focus exact needA)|(with_reducible refine wG ?_)|(refine FCall.pure ((isCrew_ok _ _)) ⟨Ln.sameB _ rfl,True.intro⟩ rfl ?_)|(with_reducible refine wP ?_)))
   all_goals (try conv=>whnf)
   all_goals
    (refine ⟨⟨_,[],[],Cut.nil _,Ln.sameB _ rfl,?_,rfl⟩⟩)
    unfold farT
    rw [decide_eq_false (p:=20 < c.people.length) (by omega),decide_eq_false (p:=20 < c.laws.length) (by omega),hE,hq]
    first|(simp;done)|(simp;omega)
end Go.Proofs.Ytkejebdfbkgaiaa

namespace Go.Proofs.Ytkejebdfbkgaiaa
open Go.RowKit

theorem Ln.slZ {σ:Nat → Nat → Prop} {Bp:Nat → Prop} {H:List AB} {n' sz:Nat} {c c':Nat → Nat → AV} (h:n' = 0):Ln σ Bp H (.sl false true 0 sz c) (.sl false (decide (n' = 0)) n' sz c'):=by
 subst h
 exact Ln.sl _ _ _ _ _ _ _ (fun _=>rfl) (fun k hk=>absurd hk (Nat.not_lt_zero k))
theorem Ln.pubD {σ:Nat → Nat → Prop} {Bp:Nat → Prop} {H:List AB} {d n n' N sz:Nat} {c c':Nat → Nat → AV} (h0:0 < n') (h:Bp d) (hd:H[d]? = some (.row N sz c)) (hn:n ≤ N) (e:n = n') (hc:∀ k,k < n → ∀ o,o < sz → c' k o = c k o):Ln σ Bp H (.own d n) (.sl false (decide (n' = 0)) n' sz c'):=by
 rw [decide_eq_false (by omega)];exact Ln.pubE h hd hn e hc
theorem Ln.slN {σ:Nat → Nat → Prop} {Bp:Nat → Prop} {H:List AB} {z e:Bool} {n n' sz:Nat} {c:Nat → Nat → AV} (h:n' = n):Ln σ Bp H (.sl z e n sz c) (.sl z e n' sz c):=h ▸ Ln.sameB _ rfl
def pfP (p:Person):PFl:=⟨false,decide (p.levels.length = 0),false,decide (p.ties.length = 0)⟩
abbrev cPers (l:List Person):Nat → Nat → AV:=fun k=>cPerson (pfP (l.getD k ps0)) (l.getD k ps0)
abbrev rowP (n:Nat) (l:List Person):AB:=.row n 6 (cPers l)
abbrev oPeople (d:Nat) (n:Nat):AV:=match n with
 | 0=>nilS
 | n + 1=>.own d (n + 1)
abbrev hPeople (n:Nat) (l:List Person):List AB:=match n with
 | 0=>[]
 | n + 1=>[rowP (n + 1) l]
abbrev cpLaws (l:List LawT):AV:=aLaws false (decide (l.length = 0)) l
structure SmallC (c:Crew):Prop where
 pl:c.people.length ≤ 1000
 wl:c.laws.length ≤ 1000
 ps:∀ i,i < c.people.length → (c.people.getD i ps0).levels.length ≤ 1000 ∧ (c.people.getD i ps0).ties.length ≤ 1000
set_option maxHeartbeats 4000000
set_option maxRecDepth 100000
theorem copy_own3 (f:CFl) (langs:Int) (people:List Person) (laws:List LawT) (hs:SmallC ⟨langs,people,laws⟩):ACall Try.prog 7 [aCrew f ⟨langs,people,laws⟩] [] (fun v h=>v = .agg 3 (ofL [AI langs,oPeople 0 people.length,cpLaws laws]) ∧ h = hPeople people.length people):=by
 have s1:people.length ≤ 1000:=hs.pl
 have s2:=hs.wl
 have s3:∀ i,i < people.length → (people.getD i ps0).levels.length ≤ 1000 ∧ (people.getD i ps0).ties.length ≤ 1000:=hs.ps
 clear hs
 (refine fcall_of mixed Try.func7 rfl (by decide) (hs:={ pub:=[2,8],alt:=[(1,⟨[0,1,2,3,4],(.alt 5 [6] (.alt 7 [] (.alt 8 [] .leaf .leaf) .leaf) (.alt 7 [] (.alt 5 [6] (.alt 8 [] .leaf .leaf) .leaf) .leaf)),[(5,[1]),(7,[1,4])]⟩)] }) ?k (ac:=?ac) ?c (rs:=?rs) ?r ?l ?H;(case k=>kernel_rfl);(case c=>(conv=>(lhs;cbv)));(case r=>(conv=>(lhs;cbv)));(case l=>exact Nat.le_of_ble_eq_true rfl))
 rcases laws with _|⟨w0,ws⟩
 all_goals
  (repeat' ((try conv=>whnf);first|(with_reducible first|refine wT ?_|refine wF ?_|(refine wI (fun hq=>?_) (fun hq=>?_) <;> try simp only [zA,zE,zD,zJ,zB,zI,wK,wL] at hq)|refine wA ?_|refine wB ?_|refine wC ?_|refine wD ?_|refine wE ?_)|((with_reducible refine wN ?_ ?_);focus exact needA)|(with_reducible refine wG ?_)|(refine FAlt.mk ?_ ?_)|(with_reducible refine wP ?_)))
  all_goals (try conv=>whnf)
  all_goals first
   | refine FWk.of [(1,.ptr 0 0),(2,.ptr 1 0),(3,.ptr 2 0)] [.box 3 (cCrew f ⟨langs,people,[]⟩),.box 3 (ofL [AI 0,nilS,nilS]),.box 3 (ofL [AI langs,nilS,cpLaws []])] [0,1,2] (wO rfl rfl rfl (wV rfl (LnB.boxN ⟨⟨⟨True.intro,Ln.sameB _ rfl⟩,Ln.sameB _ rfl⟩,Ln.sameB _ rfl⟩) (wV rfl (LnB.boxN ⟨⟨⟨True.intro,Ln.sameB _ rfl⟩,Ln.sameB _ rfl⟩,Ln.sameB _ rfl⟩) (wV rfl (LnB.boxN ⟨⟨⟨True.intro,Ln.sameB _ rfl⟩,Ln.sameB _ rfl⟩,Ln.slZ rfl⟩) wX)))) ⟨Ln.ptr _ _ _ rfl,Ln.ptr _ _ _ rfl,Ln.ptr _ _ _ rfl,True.intro⟩ ?_
   | refine FWk.of [(1,.ptr 0 0),(2,.ptr 1 0),(3,.ptr 2 0)] [.box 3 (cCrew f ⟨langs,people,(w0 :: ws)⟩),.box 3 (ofL [AI 0,nilS,nilS]),.box 3 (ofL [AI langs,nilS,cpLaws (w0 :: ws)])] [0,1,3] (wO rfl rfl rfl (wV rfl (LnB.boxN ⟨⟨⟨True.intro,Ln.sameB _ rfl⟩,Ln.sameB _ rfl⟩,Ln.sameB _ rfl⟩) (wV rfl (LnB.boxN ⟨⟨⟨True.intro,Ln.sameB _ rfl⟩,Ln.sameB _ rfl⟩,Ln.sameB _ rfl⟩) (wV rfl (LnB.boxN ⟨⟨⟨True.intro,Ln.sameB _ rfl⟩,Ln.sameB _ rfl⟩,Ln.pubD (Nat.succ_pos _) (goneB rfl) rfl (Nat.le_refl _) (Nat.zero_add _) (fun k hk o ho=>by simp [appc])⟩) wX)))) ⟨Ln.ptr _ _ _ rfl,Ln.ptr _ _ _ rfl,Ln.ptr _ _ _ rfl,True.intro⟩ ?_
   | refine FWk.of [(1,.ptr 0 0),(2,.ptr 1 0),(3,.ptr 2 0)] [.box 3 (cCrew f ⟨langs,people,(w0 :: ws)⟩),.box 3 (ofL [AI 0,nilS,nilS]),.box 3 (ofL [AI langs,nilS,cpLaws (w0 :: ws)])] [0,1,2] (wO rfl rfl rfl (wV rfl (LnB.boxN ⟨⟨⟨True.intro,Ln.sameB _ rfl⟩,Ln.sameB _ rfl⟩,Ln.sameB _ rfl⟩) (wV rfl (LnB.boxN ⟨⟨⟨True.intro,Ln.sameB _ rfl⟩,Ln.sameB _ rfl⟩,Ln.sameB _ rfl⟩) (wV rfl (LnB.boxN ⟨⟨⟨True.intro,Ln.sameB _ rfl⟩,Ln.sameB _ rfl⟩,Ln.pubD (Nat.succ_pos _) (goneB rfl) rfl (Nat.le_refl _) (Nat.zero_add _) (fun k hk o ho=>by simp [appc])⟩) wX)))) ⟨Ln.ptr _ _ _ rfl,Ln.ptr _ _ _ rfl,Ln.ptr _ _ _ rfl,True.intro⟩ ?_
   | fail
 all_goals
  first|generalize hgl:(w0 :: ws:List LawT) = laws|generalize hgl:([]:List LawT) = laws
  (repeat' ((try conv=>whnf);first|(with_reducible first|refine wT ?_|refine wF ?_|(refine wI (fun hq=>?_) (fun hq=>?_) <;> try simp only [zA,zE,zD,zJ,zB,zI,wK,wL] at hq)|refine wA ?_|refine wB ?_|refine wC ?_|refine wD ?_|refine wE ?_)|((with_reducible refine wN ?_ ?_);focus exact needA)|(with_reducible refine wG ?_)|(with_reducible refine wP ?_)))
  (try conv=>whnf)
  refine FLoop.of (ACalls.mono _) (X:=Nat) (fun i=>[(1,.ptr 0 0),(2,.ptr 1 0),(3,.ptr 2 0),(4,AI i)]) (fun i=>match i with
   | 0=>[.box 3 (cCrew f ⟨langs,people,laws⟩),.box 3 (ofL [AI 0,nilS,nilS]),.box 3 (ofL [AI langs,nilS,cpLaws laws])]
   | i + 1=>[.box 3 (cCrew f ⟨langs,people,laws⟩),.box 3 (ofL [AI 0,nilS,nilS]),.box 3 (ofL [AI langs,.own 3 (i + 1),cpLaws laws]),rowP (i + 1) people]) (fun i=>i ≤ people.length) (fun i=>people.length - i) 0 ⟨Nat.zero_le _,[0,1,2],Cut.A,allA⟩ ?_
  intro i hi
  by_cases hlt:i < people.length
  ·obtain ⟨q1,q2⟩:=s3 i hlt
   rcases i with _|i
   ·(repeat' ((try conv=>whnf);first|(with_reducible first|refine wT ?_|refine wF ?_|(refine wI (fun hq=>?_) (fun hq=>?_) <;> try simp only [zA,zE,zD,zJ,zB,zI,wK,wL] at hq)|refine wA ?_|refine wB ?_|refine wC ?_|refine wD ?_|refine wE ?_)|((with_reducible refine wN ?_ ?_);focus exact needA)|(with_reducible refine wG ?_)|(with_reducible refine wP ?_)))
    (try conv=>whnf)
    rcases hL:(people.getD 0 ps0).levels.length with _|L
    all_goals
     (repeat' ((try conv=>whnf);first|(with_reducible first|refine wT ?_|refine wF ?_|(refine wI (fun hq=>?_) (fun hq=>?_) <;> try simp only [zA,zE,zD,zJ,zB,zI,wK,wL] at hq)|refine wA ?_|refine wB ?_|refine wC ?_|refine wD ?_|refine wE ?_)|((with_reducible refine wN ?_ ?_);focus exact needA)|(with_reducible refine wG ?_)|(with_reducible refine wP ?_)))
     (try conv=>whnf)
     rcases hT:(people.getD 0 ps0).ties.length with _|T
     all_goals
      (repeat' ((try conv=>whnf);first|(with_reducible first|refine wT ?_|refine wF ?_|(refine wI (fun hq=>?_) (fun hq=>?_) <;> try simp only [zA,zE,zD,zJ,zB,zI,wK,wL] at hq)|refine wA ?_|refine wB ?_|refine wC ?_|refine wD ?_|refine wE ?_)|((with_reducible refine wN ?_ ?_);focus exact needA)|(with_reducible refine wG ?_)|(with_reducible refine wP ?_)))
      (try conv=>whnf)
      refine FWk.of [(1,.ptr 0 0),(2,.ptr 1 0),(3,.ptr 2 0),(4,AI (0:Nat)),(5,.ptr 3 0)] [.box 3 (cCrew f ⟨langs,people,laws⟩),.box 3 (ofL [AI 0,nilS,nilS]),.box 3 (ofL [AI langs,nilS,cpLaws laws]),.box 6 (cPers people 0)] [0,1,2,3] (wO rfl rfl rfl (wV rfl LnB.A (wV rfl LnB.A (wV rfl LnB.A (wV rfl (LnB.boxN ⟨⟨⟨⟨⟨⟨True.intro,by first|exact Ln.slZ (by assumption)|exact Ln.pubD (by omega) (goneB rfl) rfl (by omega) (by omega) (fun k hk o ho=>by simp [appc])|fail⟩,Ln.A⟩,Ln.A⟩,by first|exact Ln.slZ (by assumption)|exact Ln.pubD (by omega) (goneB rfl) rfl (by omega) (by omega) (fun k hk o ho=>by simp [appc])|fail⟩,Ln.A⟩,Ln.A⟩) wX))))) ⟨Ln.A,Ln.A,Ln.A,Ln.A,Ln.A,True.intro⟩ ?_
      (repeat' ((try conv=>whnf);first|(with_reducible first|refine wT ?_|refine wF ?_|(refine wI (fun hq=>?_) (fun hq=>?_) <;> try simp only [zA,zE,zD,zJ,zB,zI,wK,wL] at hq)|refine wA ?_|refine wB ?_|refine wC ?_|refine wD ?_|refine wE ?_)|((with_reducible refine wN ?_ ?_);focus exact needA)|(with_reducible refine wG ?_)|(with_reducible refine wP ?_)))
      (try conv=>whnf)
      (exact ⟨⟨1,hlt,by show _ < _;omega,[0,1,2,4],(by (refine wO rfl rfl rfl ?_;repeat (first|exact wX|(refine wV rfl (by first|exact LnB.rowS|exact LnB.app (fun k hk=>absurd hk (Nat.not_lt_zero k)) (fun o ho=>rfl)|exact LnB.A) ?_)|(refine CutL.gone (Nat.lt_of_lt_of_le (Nat.lt_succ_self _) (Nat.le_of_ble_eq_true rfl)) ?_)))),allA⟩⟩)
   ·(repeat' ((try conv=>whnf);first|(with_reducible first|refine wT ?_|refine wF ?_|(refine wI (fun hq=>?_) (fun hq=>?_) <;> try simp only [zA,zE,zD,zJ,zB,zI,wK,wL] at hq)|refine wA ?_|refine wB ?_|refine wC ?_|refine wD ?_|refine wE ?_)|((with_reducible refine wN ?_ ?_);focus exact needA)|(with_reducible refine wG ?_)|(with_reducible refine wP ?_)))
    (try conv=>whnf)
    rcases hL:(people.getD (i + 1) ps0).levels.length with _|L
    all_goals
     (repeat' ((try conv=>whnf);first|(with_reducible first|refine wT ?_|refine wF ?_|(refine wI (fun hq=>?_) (fun hq=>?_) <;> try simp only [zA,zE,zD,zJ,zB,zI,wK,wL] at hq)|refine wA ?_|refine wB ?_|refine wC ?_|refine wD ?_|refine wE ?_)|((with_reducible refine wN ?_ ?_);focus exact needA)|(with_reducible refine wG ?_)|(with_reducible refine wP ?_)))
     (try conv=>whnf)
     rcases hT:(people.getD (i + 1) ps0).ties.length with _|T
     all_goals
      (repeat' ((try conv=>whnf);first|(with_reducible first|refine wT ?_|refine wF ?_|(refine wI (fun hq=>?_) (fun hq=>?_) <;> try simp only [zA,zE,zD,zJ,zB,zI,wK,wL] at hq)|refine wA ?_|refine wB ?_|refine wC ?_|refine wD ?_|refine wE ?_)|((with_reducible refine wN ?_ ?_);focus exact needA)|(with_reducible refine wG ?_)|(with_reducible refine wP ?_)))
      (try conv=>whnf)
      refine FWk.of [(1,.ptr 0 0),(2,.ptr 1 0),(3,.ptr 2 0),(4,AI (i + 1:Nat)),(5,.ptr 4 0)] [.box 3 (cCrew f ⟨langs,people,laws⟩),.box 3 (ofL [AI 0,nilS,nilS]),.box 3 (ofL [AI langs,.own 3 (i + 1),cpLaws laws]),rowP (i + 1) people,.box 6 (cPers people (i + 1))] [0,1,2,3,4] (wO rfl rfl rfl (wV rfl LnB.A (wV rfl LnB.A (wV rfl LnB.A (wV rfl LnB.A (wV rfl (LnB.boxN ⟨⟨⟨⟨⟨⟨True.intro,by first|exact Ln.slZ (by assumption)|exact Ln.pubD (by omega) (goneB rfl) rfl (by omega) (by omega) (fun k hk o ho=>by simp [appc])|fail⟩,Ln.A⟩,Ln.A⟩,by first|exact Ln.slZ (by assumption)|exact Ln.pubD (by omega) (goneB rfl) rfl (by omega) (by omega) (fun k hk o ho=>by simp [appc])|fail⟩,Ln.A⟩,Ln.A⟩) wX)))))) ⟨Ln.A,Ln.A,Ln.A,Ln.A,Ln.A,True.intro⟩ ?_
      (repeat' ((try conv=>whnf);first|(with_reducible first|refine wT ?_|refine wF ?_|(refine wI (fun hq=>?_) (fun hq=>?_) <;> try simp only [zA,zE,zD,zJ,zB,zI,wK,wL] at hq)|refine wA ?_|refine wB ?_|refine wC ?_|refine wD ?_|refine wE ?_)|((with_reducible refine wN ?_ ?_);focus exact needA)|(with_reducible refine wG ?_)|(with_reducible refine wP ?_)))
      (try conv=>whnf)
      (exact ⟨⟨(i + 2),hlt,by show _ < _;omega,[0,1,2,5],(by (refine wO rfl rfl rfl ?_;repeat (first|exact wX|(refine wV rfl (by first|exact LnB.rowS|exact LnB.app (fun _ _ _ _=>rfl) (fun o ho=>rfl)|exact LnB.A) ?_)|(refine CutL.gone (Nat.lt_of_lt_of_le (Nat.lt_succ_self _) (Nat.le_of_ble_eq_true rfl)) ?_)))),allA⟩⟩)
  ·obtain rfl:i = people.length:=by omega
   rcases hn:people.length with _|n
   ·(repeat' ((try conv=>whnf);first|(with_reducible first|refine wT ?_|refine wF ?_|(refine wI (fun hq=>?_) (fun hq=>?_) <;> try simp only [zA,zE,zD,zJ,zB,zI,wK,wL] at hq)|refine wA ?_|refine wB ?_|refine wC ?_|refine wD ?_|refine wE ?_)|((with_reducible refine wN ?_ ?_);focus exact needA)|(with_reducible refine wG ?_)|(with_reducible refine wP ?_)))
    (try conv=>whnf)
    exact ⟨⟨.agg 3 (ofL [AI langs,nilS,cpLaws laws]),[],[],Cut.nil _,Ln.A,by subst hgl;rfl,rfl⟩⟩
   ·(repeat' ((try conv=>whnf);first|(with_reducible first|refine wT ?_|refine wF ?_|(refine wI (fun hq=>?_) (fun hq=>?_) <;> try simp only [zA,zE,zD,zJ,zB,zI,wK,wL] at hq)|refine wA ?_|refine wB ?_|refine wC ?_|refine wD ?_|refine wE ?_)|((with_reducible refine wN ?_ ?_);focus exact needA)|(with_reducible refine wG ?_)|(with_reducible refine wP ?_)))
    (try conv=>whnf)
    exact ⟨⟨.agg 3 (ofL [AI langs,.own 0 (n + 1),cpLaws laws]),[rowP (n + 1) people],[3],Cut.A,Ln.aggN ⟨⟨⟨True.intro,Ln.A⟩,Ln.A⟩,Ln.A⟩,by subst hgl;rfl,rfl⟩⟩
theorem copy_own (f:CFl) (c:Crew) (hs:SmallC c):ACall Try.prog 7 [aCrew f c] [] (fun v h=>v = .agg 3 (ofL [AI c.langs,oPeople 0 c.people.length,cpLaws c.laws]) ∧ h = hPeople c.people.length c.people):=copy_own3 f c.langs c.people c.laws hs
/-- The copy, to be read only. -/
def flC (c:Crew):CFl:=⟨decide (c.people.length = 0),decide (c.people.length = 0),false,decide (c.laws.length = 0),fun i=>pfP (c.people.getD i ps0)⟩
theorem copy_pub (f:CFl) (c:Crew) (hs:SmallC c):ACall Try.prog 7 [aCrew f c] [] (fun v h=>v = aCrew (flC c) c ∧ h = []) :=
 ACall.wk (ACall.mono' Try.prog (by
  rintro _ _ ⟨rfl,rfl⟩
  refine ⟨aCrew (flC c) c,[],[],Cut.nil _,Ln.aggN ⟨⟨⟨True.intro,Ln.A⟩,?_⟩,Ln.A⟩,rfl,rfl⟩
  show Ln _ _ (hPeople c.people.length c.people) (oPeople 0 c.people.length) (.sl (decide (c.people.length = 0)) (decide (c.people.length = 0)) c.people.length 6 (cPers c.people))
  generalize c.people.length = n
  rcases n with _|n
  ·exact Ln.slz _ _ _ _ _ _ _ (fun h=>h)
  ·exact Ln.pubE (goneB rfl) rfl (Nat.le_refl _) rfl (fun _ _ _ _=>rfl)) (copy_own f c hs))
end Go.Proofs.Ytkejebdfbkgaiaa

namespace Go.Proofs.Ytkejebdfbkgaiaa

theorem chainE_yes {c:Crew} {j:Job} {s:Nat} (h0:checkT c j = 0) (hs:s < 2 ^ c.people.length) (h:0 ≤ backT c j s j.fr.toNat):chainE c j s = (chainT c j s,0):=by
 unfold chainE
 rw [if_pos (checkTm_t h0 (isT_iff.2 hs)),Int.toNat_natCast,if_neg (by omega)]
theorem chainL_len2 {n:Nat} {R:Nat → Nat → Bool} {D:Nat → Int}:∀ {k a:Nat},(chainL n R D k a).length = k
 | 0,_=>rfl
 | k + 1,a=>by rw [chainL,List.length_cons,chainL_len2]
theorem chainT_len (c:Crew) (j:Job) (s:Nat):(chainT c j s).length = (backT c j s j.fr.toNat).toNat + 1:=by
 unfold chainT;rw [List.length_cons,chainL_len2]
theorem back_fr {c:Crew} {j:Job} {s:Nat} (hj:Job.ok c j = true):backT c j s j.fr.toNat = dist c.langs.toNat (relT c s (lawOf c j).level) j.fr.toNat j.to.toNat:=by
 obtain ⟨j1,j2,j3,j4,j5,j6,j7⟩:=job_d hj
 show dist c.langs.toNat (relT c s (lawOf c j).level) j.to.toNat j.fr.toNat = _
 exact dist_back (rel_sym c s _) (by omega) (by omega)
theorem check_job {c:Crew} {j:Job} (h:checkT c j = 0):Job.ok c j = true:=by
 unfold checkT at h
 split at h
 ·split at h
  ·assumption
  ·cases h
 ·cases h
/-- What the team found with sure levels is with the true ones. -/
structure AbleFacts (c c':Crew) (j:Job):Prop where
 ch:(chainE c j (teamE c j).1).2 = 0
 br:brokenE c' j (teamE c j).1 = (0,0)
 ch':(chainE c' j (teamE c j).1).2 = 0
 le:(chainE c' j (teamE c j).1).1.length ≤ (chainE c j (teamE c j).1).1.length
 tm:(teamE c' j).2.2 = 0
 fee:(teamE c' j).2.1 ≤ (teamE c j).2.1
theorem able_facts {c c':Crew} {j:Job} (h:Easier c c' j) (hlen:c'.people.length = c.people.length) (h0:checkT c j = 0) (h1:checkT c' j = 0) (ht:(teamE c j).2.2 = 0):AbleFacts c c' j:=by
 have hb:(bestT c j).1 ≠ 0:=by
  intro e
  unfold teamE at ht
  rw [if_pos h0,if_pos e] at ht
  cases ht
 have hb':=h.best hb
 have et:teamE c j = (((bestT c j).1:Int),(bestT c j).2,0):=by unfold teamE;rw [if_pos h0,if_neg hb]
 have et':teamE c' j = (((bestT c' j).1:Int),(bestT c' j).2,0):=by unfold teamE;rw [if_pos h1,if_neg hb'.1]
 rcases best_two c j with ⟨b1,_⟩|⟨b1,b2,b3,b4,_⟩
 ·exact absurd b1 hb
 have hf:=h.fits b2 b3
 have f1:=(fits_b.1 b3).2
 have f2:=(fits_b.1 hf).2
 have d1:=(broken_zero.1 f1).2.2.2
 have d2:=(broken_zero.1 f2).2.2.2
 have k1:=back_fr (s:=(bestT c j).1) (check_job h0)
 have k2:=back_fr (s:=(bestT c j).1) (check_job h1)
 have hl:lawOf c' j = lawOf c j:=by unfold lawOf;rw [h.lw]
 have hm:dist c'.langs.toNat (relT c' (bestT c j).1 (lawOf c' j).level) j.fr.toNat j.to.toNat ≤ dist c.langs.toNat (relT c (bestT c j).1 (lawOf c j).level) j.fr.toNat j.to.toNat:=by
  rw [hl,h.la]
  refine (dist_mono (fun a b hab=>?_) d1).2
  unfold relT joinsT at hab ⊢
  rw [h.memb b2]
  refine any_mono (fun k hk hp=>?_) hab
  simp only [Bool.and_eq_true,decide_eq_true_eq] at hp ⊢
  have a1:=h.lev k a (mem_memb.1 hk).1
  have a2:=h.lev k b (mem_memb.1 hk).1
  omega
 have hs':(bestT c j).1 < 2 ^ c'.people.length:=by rw [hlen];exact b2
 have g1:=chainE_yes h0 b2 (by omega)
 have g2:=chainE_yes h1 hs' (by omega)
 refine ⟨?_,?_,?_,?_,?_,?_⟩
 ·rw [et];show (chainE c j ((bestT c j).1:Int)).2 = 0;rw [g1]
 ·rw [et]
  show brokenE c' j ((bestT c j).1:Int) = (0,0)
  unfold brokenE
  rw [if_pos (checkTm_t h1 (isT_iff.2 hs')),Int.toNat_natCast,f2];rfl
 ·rw [et];show (chainE c' j ((bestT c j).1:Int)).2 = 0;rw [g2]
 ·rw [et]
  show (chainE c' j ((bestT c j).1:Int)).1.length ≤ (chainE c j ((bestT c j).1:Int)).1.length
  rw [g1,g2]
  show (chainT c' j (bestT c j).1).length ≤ (chainT c j (bestT c j).1).length
  rw [chainT_len,chainT_len]
  omega
 ·rw [et']
 ·rw [et',et];exact_mod_cast hb'.2
end Go.Proofs.Ytkejebdfbkgaiaa

namespace Go.Proofs.Ytkejebdfbkgaiaa

/-- Person i with the levels G i. -/
def upP (n:Nat) (p:Person) (g:Nat → Int):Person:={ p with levels:=(List.range n).map g }
def up (c:Crew) (G:Nat → Nat → Int):Crew:=⟨c.langs,(List.range c.people.length).map (fun i=>upP c.langs.toNat (c.people.getD i ps0) (G i)),c.laws⟩
theorem up_len (c:Crew) (G:Nat → Nat → Int):(up c G).people.length = c.people.length:=by simp [up]
theorem up_get {c:Crew} {G:Nat → Nat → Int} {i:Nat} (h:i < c.people.length):(up c G).people.getD i ps0 = upP c.langs.toNat (c.people.getD i ps0) (G i):=by
 simp [up,List.getD,h]
theorem lev_len {n:Nat} {p:Person} {g:Nat → Int}:(upP n p g).levels.length = n:=by simp [upP]
theorem lev_get {n:Nat} {p:Person} {g:Nat → Int} {a:Nat} (h:a < n):(upP n p g).levels.getD a 0 = g a:=by simp [upP,List.getD,h]
theorem lev_out {n:Nat} {p:Person} {g:Nat → Int} {a:Nat} (h:n ≤ a):(upP n p g).levels.getD a 0 = 0:=by
 simp [upP,List.getD,List.getElem?_eq_none (show ((List.range n).map g).length ≤ a by simpa using h)]
theorem up_ok {c:Crew} {G:Nat → Nat → Int} (h:c.ok = true) (hG:∀ i a,i < c.people.length → a < c.langs.toNat → 0 ≤ G i a ∧ G i a ≤ 5):(up c G).ok = true:=by
 unfold Crew.ok at *
 simp only [Bool.and_eq_true,decide_eq_true_eq,List.all_eq_true] at *
 obtain ⟨⟨⟨⟨h1,h2⟩,h3⟩,h4⟩,h5⟩:=h
 refine ⟨⟨⟨⟨h1,by rw [up_len];exact h2⟩,h3⟩,fun p hp=>?_⟩,h5⟩
 obtain ⟨i,hi,rfl⟩:∃ i,i < c.people.length ∧ upP c.langs.toNat (c.people.getD i ps0) (G i) = p:=by
  simp only [up,List.mem_map,List.mem_range] at hp
  exact hp
 have hq:=h4 (c.people.getD i ps0) (by rw [List.getD,List.getElem?_eq_getElem hi];exact List.getElem_mem hi)
 unfold Person.ok at *
 simp only [Bool.and_eq_true,decide_eq_true_eq,List.all_eq_true] at *
 obtain ⟨⟨⟨⟨⟨⟨k1,k2⟩,k3⟩,k4⟩,k5⟩,k6⟩,k7⟩:=hq
 refine ⟨⟨⟨⟨⟨⟨?_,fun x hx=>?_⟩,k3⟩,k4⟩,k5⟩,k6⟩,k7⟩
 ·rw [lev_len]
  show ((c.langs.toNat:Nat):Int) = c.langs
  omega
 ·simp only [upP,List.mem_map,List.mem_range] at hx
  obtain ⟨a,ha,rfl⟩:=hx
  exact hG i a hi ha
theorem up_check {c:Crew} {j:Job} {G:Nat → Nat → Int} (h:checkT c j = 0) (hG:∀ i a,i < c.people.length → a < c.langs.toNat → 0 ≤ G i a ∧ G i a ≤ 5):checkT (up c G) j = 0:=by
 have hj:=check_job h
 have hc:c.ok = true:=by
  unfold checkT at h
  split at h
  ·assumption
  ·cases h
 have hj':Job.ok (up c G) j = true:=hj
 unfold checkT
 rw [up_ok hc hG,hj']
 rfl
theorem up_easier {c:Crew} {G G':Nat → Nat → Int} (j:Job) (h:∀ i a,i < c.people.length → a < c.langs.toNat → G i a ≤ G' i a):Easier (up c G) (up c G') j where
 la:=rfl
 lw:=rfl
 len:=by rw [up_len,up_len];exact Nat.le_refl _
 may k hk hm:=by
  rw [up_len] at hk
  rw [up_get hk] at hm ⊢
  exact hm
 lev k a hk:=by
  rw [up_len] at hk
  rw [up_get hk,up_get hk]
  by_cases ha:a < c.langs.toNat
  ·rw [lev_get ha,lev_get ha];exact h k a hk ha
  ·rw [lev_out (by omega),lev_out (by omega)];exact Int.le_refl _
 deaf k hk:=by
  rw [up_len] at hk
  rw [up_get hk,up_get hk];rfl
 fee k hk:=by
  rw [up_len] at hk
  rw [up_get hk,up_get hk];rfl
/-- What TopAble says of the team found with the sure levels. -/
theorem up_facts {c:Crew} {j:Job} {G G':Nat → Nat → Int} (h:checkT c j = 0) (hG:∀ i a,i < c.people.length → a < c.langs.toNat → 0 ≤ G i a ∧ G i a ≤ G' i a ∧ G' i a ≤ 5) (ht:(teamE (up c G) j).2.2 = 0):AbleFacts (up c G) (up c G') j :=
 able_facts (up_easier j (fun i a hi ha=>(hG i a hi ha).2.1)) (by rw [up_len,up_len]) (up_check h (fun i a hi ha=>by have:=hG i a hi ha;omega)) (up_check h (fun i a hi ha=>by have:=hG i a hi ha;omega)) ht
end Go.Proofs.Ytkejebdfbkgaiaa
