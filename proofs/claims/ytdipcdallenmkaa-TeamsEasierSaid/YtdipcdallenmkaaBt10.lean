/- Teams: the example, works. / Teams: the reference's Copy, in memory of its own. / Plain facts on memory: slices that read as lists, worlds that extend other worlds / How the form's readings of data give cells: slices, ints / What a law's row asks behind the walk: the call returned true and the world only has more / From handed data to abstract values; from a reading of a law to what its row asks / Teams: how crews and jobs read. -/
import Derived.Test.YtdipcdallenmkaaBt7
import Derived.Test.YtdipcdallenmkaaBt9
import Derived.WalkKit
import Derived.WalkSpells
import Derived.WalkLawsBesides
import Derived.Deep.QuietTactic
import Derived.BigQuiet
import Derived.Lib.Hide
import Derived.Deep.Slices
import Derived.Lib.SmallJoins
import Derived.OpenShut
import Derived.WideKeyArgs
import Derived.Deep.OwnRows
import Derived.ProofKit
import Derived.JoinedOf
import Derived.Test.YtdipcdallenmkaaBt6
set_option linter.unusedSimpArgs false
set_option linter.unusedVariables false
namespace Go.Proofs.Ytdipcdallenmkaa
open Go.RowKit

def exJ1 : Job:=⟨0,2,3,0,0,1⟩
def exJs : List Job:=[exJ0,exJ1,exJ2]
def exF : CFl:=⟨false,true,false,true,fun i=>⟨false,true,decide (i ≠ 2),true⟩⟩
abbrev exJv : AV:=.sl false true 3 6 (fun k=>cJob (exJs.getD k exJ0))
theorem LeV.ints {l:List Int} {c:Nat → Nat → AV} {n:Nat} (hn:n = l.length) (h:∀ k,k < n → c k 0 = AI (l.getD k 0)):LeV (.sl false true n 1 c) (aInts false true l):=by
 subst hn
 exact LeV.sl (fun h=>h) (fun k hk o ho=>by obtain rfl:o = 0:=(by omega);exact LeV.of (h k hk).symm)
theorem k3 {p:Nat → Prop} (h0:p 0) (h1:p 1) (h2:p 2):∀ k,k < 3 → p k:=fun k hk=>by
 rcases (show k = 0 ∨ k = 1 ∨ k = 2 by omega) with rfl|rfl|rfl
 ·exact h0
 ·exact h1
 ·exact h2
theorem k4 {p:Nat → Prop} (h0:p 0) (h1:p 1) (h2:p 2) (h3:p 3):∀ k,k < 4 → p k:=fun k hk=>by
 rcases (show k = 0 ∨ k = 1 ∨ k = 2 ∨ k = 3 by omega) with rfl|rfl|rfl|rfl
 ·exact h0
 ·exact h1
 ·exact h2
 ·exact h3
theorem k6 {p:Nat → Prop} (h0:p 0) (h1:p 1) (h2:p 2) (h3:p 3) (h4:p 4) (h5:p 5):∀ k,k < 6 → p k:=fun k hk=>by
 rcases (show k = 0 ∨ k = 1 ∨ k = 2 ∨ k = 3 ∨ k = 4 ∨ k = 5 by omega) with rfl|rfl|rfl|rfl|rfl|rfl
 ·exact h0
 ·exact h1
 ·exact h2
 ·exact h3
 ·exact h4
 ·exact h5
theorem LeV.i {a:AV} {n:Int} (h:a = AI n):LeV a (AI n):=LeV.of h.symm
set_option maxHeartbeats 4000000
set_option maxRecDepth 100000
theorem example_ok : ACall Try.prog 37 [] [] (fun r h'=>r = .tup 2 (ofL [aCrew exF exC,exJv]) ∧ h' = []):=by
 (refine fcall_of mixed Try.func37 rfl (by decide) (hs:={}) ?k (ac:=?ac) ?c (rs:=?rs) ?r ?l ?H;(case k=>kernel_rfl);(case c=>(conv=>(lhs;cbv)));(case r=>(conv=>(lhs;cbv)));(case l=>exact Nat.le_of_ble_eq_true rfl))
 (repeat' ((try conv=>whnf);first|(with_reducible first|refine wT ?_|refine wF ?_|(refine wI (fun hq=>?_) (fun hq=>?_) <;> try simp only [zA,zE,zD,zJ,zB,zI,wK,wL] at hq)|refine wA ?_|refine wB ?_|refine wC ?_|refine wD ?_|refine wE ?_)|((with_reducible refine wN ?_ ?_);focus exact needA)|(with_reducible refine wG ?_)|(with_reducible refine wP ?_)))
 (try conv=>whnf)
 refine ⟨⟨.tup 2 (ofL [aCrew exF exC,exJv]),[],[],Cut.nil _,Ln.tupN ⟨⟨True.intro,Ln.aggN ⟨⟨⟨True.intro,Ln.A⟩,Ln.le _ _ True.intro (LeV.sl (fun h=>h) ?pe)⟩,Ln.sl _ _ _ _ _ _ _ (fun h=>h) ?la⟩⟩,Ln.sl _ _ _ _ _ _ _ (fun h=>h) ?jo⟩,rfl,rfl⟩⟩
 case la=>exact k4 (k3 rfl rfl rfl) (k3 rfl rfl rfl) (k3 rfl rfl rfl) (k3 rfl rfl rfl)
 case jo=>exact k3 (k6 rfl rfl rfl rfl rfl rfl) (k6 rfl rfl rfl rfl rfl rfl) (k6 rfl rfl rfl rfl rfl rfl)
 case pe=>exact k4 (k6 (LeV.ints rfl (k3 rfl rfl rfl)) (LeV.of rfl) (LeV.of rfl) (LeV.slz (fun h=>h)) (LeV.of rfl) (LeV.of rfl)) (k6 (LeV.ints rfl (k3 rfl rfl rfl)) (LeV.of rfl) (LeV.of rfl) (LeV.slz (fun h=>h)) (LeV.of rfl) (LeV.of rfl)) (k6 (LeV.ints rfl (k3 rfl rfl rfl)) (LeV.of rfl) (LeV.of rfl) (LeV.ints rfl (fun k hk=>by obtain rfl:k = 0:=(by omega);rfl)) (LeV.of rfl) (LeV.of rfl)) (k6 (LeV.ints rfl (k3 rfl rfl rfl)) (LeV.of rfl) (LeV.of rfl) (LeV.slz (fun h=>h)) (LeV.of rfl) (LeV.of rfl))
theorem ex_teamC : ACall Try.prog 12 [aCrew exF exC,aJob exJ0] [] (fun r h=>r = .tup 3 (ofL [AI 3,AI 90,AI 0]) ∧ h = []):=by
 have:=pteam_ok exF exC exJ0
 rwa [ex_team] at this
theorem ex_whyC : ACall Try.prog 15 [aCrew exF exC,aJob exJ2] [] (fun r h=>r = .tup 2 (ofL [AI 33,AI 0]) ∧ h = []):=by
 have:=pwhy_ok exF exC exJ2
 rwa [ex_whyE] at this
theorem ex_chainC : ACall Try.prog 21 [aCrew exF exC,aJob exJ0,AI 3] [] (fun r h=>r = .tup 2 (ofL [outI [0,1,2],AI 0]) ∧ h = []):=by
 have:=pchain_ok exF exC exJ0 3
 rwa [ex_chain] at this
theorem ex_sameC : ACall Try.prog 30 [aInts false false [0,1,2],aInts false true [0,1,2]] [] (fun r h=>r = .bool true ∧ h = []):=sameInts_ok false false false true [0,1,2] [0,1,2] (by decide)
theorem Ln.lit3 {σ:Nat → Nat → Prop} {Bp:Nat → Prop} {H:List AB} {c:Nat → Nat → AV} {a b x:Int} (h0:c 0 0 = AI a) (h1:c 1 0 = AI b) (h2:c 2 0 = AI x):Ln σ Bp H (.sl false true 3 1 c) (aInts false true [a,b,x]) :=
 Ln.sl _ _ _ _ _ _ _ (fun h=>h) fun k hk o ho=>by
  obtain rfl:o = 0:=by omega
  rcases (show k = 0 ∨ k = 1 ∨ k = 2 by omega) with rfl|rfl|rfl
  ·exact h0.symm
  ·exact h1.symm
  ·exact h2.symm
theorem works_ok : ACall Try.prog 11 [] [] (fun r h'=>r = .bool true ∧ h' = []):=by
 (refine fcall_of mixed Try.func11 rfl (by decide) (hs:={}) ?k (ac:=?ac) ?c (rs:=?rs) ?r ?l ?H;(case k=>kernel_rfl);(case c=>(conv=>(lhs;cbv)));(case r=>(conv=>(lhs;cbv)));(case l=>exact Nat.le_of_ble_eq_true rfl))
 (repeat' ((try conv=>whnf);first|(with_reducible first|refine wT ?_|refine wF ?_|(refine wI (fun hq=>?_) (fun hq=>?_) <;> try simp only [zA,zE,zD,zJ,zB,zI,wK,wL] at hq)|refine wA ?_|refine wB ?_|refine wC ?_|refine wD ?_|refine wE ?_)|((with_reducible refine wN ?_ ?_);focus exact needA)|(with_reducible refine wG ?_)|(refine FCall.pure example_ok True.intro rfl ?_)|(refine FCall.pure (ex_teamC) ⟨Ln.sameB _ rfl,Ln.sameB _ rfl,True.intro⟩ rfl ?_)|(refine FCall.pure (ex_whyC) ⟨Ln.sameB _ rfl,Ln.sameB _ rfl,True.intro⟩ rfl ?_)|(refine FCall.pure (ex_chainC) ⟨Ln.sameB _ rfl,Ln.sameB _ rfl,Ln.sameB _ rfl,True.intro⟩ rfl ?_)|(refine FCall.pure ex_sameC ⟨Ln.sameB _ rfl,Ln.lit3 rfl rfl rfl,True.intro⟩ rfl ?_)|(with_reducible refine wP ?_)))
 all_goals (try conv=>whnf)
 trace_state
 all_goals (refine ⟨⟨_,[],[],Cut.nil _,Ln.sameB _ rfl,?_,rfl⟩⟩)
 all_goals rfl
end Go.Proofs.Ytdipcdallenmkaa

namespace Go.Proofs.Ytdipcdallenmkaa
open Go.RowKit

theorem Ln.slZ {σ:Nat → Nat → Prop} {Bp:Nat → Prop} {H:List AB} {n' sz:Nat} {c c':Nat → Nat → AV} (h:n' = 0):Ln σ Bp H (.sl false true 0 sz c) (.sl false (decide (n' = 0)) n' sz c'):=by
 subst h
 exact Ln.sl _ _ _ _ _ _ _ (fun _=>rfl) (fun k hk=>absurd hk (Nat.not_lt_zero k))
theorem Ln.pubD {σ:Nat → Nat → Prop} {Bp:Nat → Prop} {H:List AB} {d n n' N sz:Nat} {c c':Nat → Nat → AV} (h0:0 < n') (h:Bp d) (hd:H[d]? = some (.row N sz c)) (hn:n ≤ N) (e:n = n') (hc:∀ k,k < n → ∀ o,o < sz → c' k o = c k o):Ln σ Bp H (.own d n) (.sl false (decide (n' = 0)) n' sz c'):=by
 rw [decide_eq_false (by omega)];exact Ln.pubE h hd hn e hc
theorem Ln.slN {σ:Nat → Nat → Prop} {Bp:Nat → Prop} {H:List AB} {z e:Bool} {n n' sz:Nat} {c:Nat → Nat → AV} (h:n' = n):Ln σ Bp H (.sl z e n sz c) (.sl z e n' sz c):=h ▸ Ln.sameB _ rfl
def pfP (p:Person):PFl:=⟨false,decide (p.levels.length = 0),false,decide (p.ties.length = 0)⟩
abbrev cPers (l:List Person):Nat → Nat → AV:=fun k=>cPerson (pfP (l.getD k ps0)) (l.getD k ps0)
abbrev rowP (n:Nat) (l:List Person):AB:=.row n 6 (cPers l)
abbrev oPeople (d:Nat) (n:Nat):AV:=match n with
 | 0=>nilS
 | n + 1=>.own d (n + 1)
abbrev hPeople (n:Nat) (l:List Person):List AB:=match n with
 | 0=>[]
 | n + 1=>[rowP (n + 1) l]
abbrev cpLaws (l:List LawT):AV:=aLaws false (decide (l.length = 0)) l
structure SmallC (c:Crew):Prop where
 pl:c.people.length ≤ 1000
 wl:c.laws.length ≤ 1000
 ps:∀ i,i < c.people.length → (c.people.getD i ps0).levels.length ≤ 1000 ∧ (c.people.getD i ps0).ties.length ≤ 1000
set_option maxHeartbeats 4000000
set_option maxRecDepth 100000
theorem copy_own3 (f:CFl) (langs:Int) (people:List Person) (laws:List LawT) (hs:SmallC ⟨langs,people,laws⟩):ACall Try.prog 13 [aCrew f ⟨langs,people,laws⟩] [] (fun v h=>v = .agg 3 (ofL [AI langs,oPeople 0 people.length,cpLaws laws]) ∧ h = hPeople people.length people):=by
 have s1:people.length ≤ 1000:=hs.pl
 have s2:=hs.wl
 have s3:∀ i,i < people.length → (people.getD i ps0).levels.length ≤ 1000 ∧ (people.getD i ps0).ties.length ≤ 1000:=hs.ps
 clear hs
 (refine fcall_of mixed Try.func13 rfl (by decide) (hs:={ pub:=[2,8],alt:=[(1,⟨[0,1,2,3,4],(.alt 5 [6] (.alt 7 [] (.alt 8 [] .leaf .leaf) .leaf) (.alt 7 [] (.alt 5 [6] (.alt 8 [] .leaf .leaf) .leaf) .leaf)),[(5,[1]),(7,[1,4])]⟩)] }) ?k (ac:=?ac) ?c (rs:=?rs) ?r ?l ?H;(case k=>kernel_rfl);(case c=>(conv=>(lhs;cbv)));(case r=>(conv=>(lhs;cbv)));(case l=>exact Nat.le_of_ble_eq_true rfl))
 rcases laws with _|⟨w0,ws⟩
 all_goals
  (repeat' ((try conv=>whnf);first|(with_reducible first|refine wT ?_|refine wF ?_|(refine wI (fun hq=>?_) (fun hq=>?_) <;> try simp only [zA,zE,zD,zJ,zB,zI,wK,wL] at hq)|refine wA ?_|refine wB ?_|refine wC ?_|refine wD ?_|refine wE ?_)|((with_reducible refine wN ?_ ?_);focus exact needA)|(with_reducible refine wG ?_)|(refine FAlt.mk ?_ ?_)|(with_reducible refine wP ?_)))
  all_goals (try conv=>whnf)
  all_goals first
   | refine FWk.of [(1,.ptr 0 0),(2,.ptr 1 0),(3,.ptr 2 0)] [.box 3 (cCrew f ⟨langs,people,[]⟩),.box 3 (ofL [AI 0,nilS,nilS]),.box 3 (ofL [AI langs,nilS,cpLaws []])] [0,1,2] (wO rfl rfl rfl (wV rfl (LnB.boxN ⟨⟨⟨True.intro,Ln.sameB _ rfl⟩,Ln.sameB _ rfl⟩,Ln.sameB _ rfl⟩) (wV rfl (LnB.boxN ⟨⟨⟨True.intro,Ln.sameB _ rfl⟩,Ln.sameB _ rfl⟩,Ln.sameB _ rfl⟩) (wV rfl (LnB.boxN ⟨⟨⟨True.intro,Ln.sameB _ rfl⟩,Ln.sameB _ rfl⟩,Ln.slZ rfl⟩) wX)))) ⟨Ln.ptr _ _ _ rfl,Ln.ptr _ _ _ rfl,Ln.ptr _ _ _ rfl,True.intro⟩ ?_
   | refine FWk.of [(1,.ptr 0 0),(2,.ptr 1 0),(3,.ptr 2 0)] [.box 3 (cCrew f ⟨langs,people,(w0 :: ws)⟩),.box 3 (ofL [AI 0,nilS,nilS]),.box 3 (ofL [AI langs,nilS,cpLaws (w0 :: ws)])] [0,1,3] (wO rfl rfl rfl (wV rfl (LnB.boxN ⟨⟨⟨True.intro,Ln.sameB _ rfl⟩,Ln.sameB _ rfl⟩,Ln.sameB _ rfl⟩) (wV rfl (LnB.boxN ⟨⟨⟨True.intro,Ln.sameB _ rfl⟩,Ln.sameB _ rfl⟩,Ln.sameB _ rfl⟩) (wV rfl (LnB.boxN ⟨⟨⟨True.intro,Ln.sameB _ rfl⟩,Ln.sameB _ rfl⟩,Ln.pubD (Nat.succ_pos _) (goneB rfl) rfl (Nat.le_refl _) (Nat.zero_add _) (fun k hk o ho=>by simp [appc])⟩) wX)))) ⟨Ln.ptr _ _ _ rfl,Ln.ptr _ _ _ rfl,Ln.ptr _ _ _ rfl,True.intro⟩ ?_
   | refine FWk.of [(1,.ptr 0 0),(2,.ptr 1 0),(3,.ptr 2 0)] [.box 3 (cCrew f ⟨langs,people,(w0 :: ws)⟩),.box 3 (ofL [AI 0,nilS,nilS]),.box 3 (ofL [AI langs,nilS,cpLaws (w0 :: ws)])] [0,1,2] (wO rfl rfl rfl (wV rfl (LnB.boxN ⟨⟨⟨True.intro,Ln.sameB _ rfl⟩,Ln.sameB _ rfl⟩,Ln.sameB _ rfl⟩) (wV rfl (LnB.boxN ⟨⟨⟨True.intro,Ln.sameB _ rfl⟩,Ln.sameB _ rfl⟩,Ln.sameB _ rfl⟩) (wV rfl (LnB.boxN ⟨⟨⟨True.intro,Ln.sameB _ rfl⟩,Ln.sameB _ rfl⟩,Ln.pubD (Nat.succ_pos _) (goneB rfl) rfl (Nat.le_refl _) (Nat.zero_add _) (fun k hk o ho=>by simp [appc])⟩) wX)))) ⟨Ln.ptr _ _ _ rfl,Ln.ptr _ _ _ rfl,Ln.ptr _ _ _ rfl,True.intro⟩ ?_
   | fail
 all_goals
  first|generalize hgl:(w0 :: ws:List LawT) = laws|generalize hgl:([]:List LawT) = laws
  (repeat' ((try conv=>whnf);first|(with_reducible first|refine wT ?_|refine wF ?_|(refine wI (fun hq=>?_) (fun hq=>?_) <;> try simp only [zA,zE,zD,zJ,zB,zI,wK,wL] at hq)|refine wA ?_|refine wB ?_|refine wC ?_|refine wD ?_|refine wE ?_)|((with_reducible refine wN ?_ ?_);focus exact needA)|(with_reducible refine wG ?_)|(with_reducible refine wP ?_)))
  (try conv=>whnf)
  refine FLoop.of (ACalls.mono _) (X:=Nat) (fun i=>[(1,.ptr 0 0),(2,.ptr 1 0),(3,.ptr 2 0),(4,AI i)]) (fun i=>match i with
   | 0=>[.box 3 (cCrew f ⟨langs,people,laws⟩),.box 3 (ofL [AI 0,nilS,nilS]),.box 3 (ofL [AI langs,nilS,cpLaws laws])]
   | i + 1=>[.box 3 (cCrew f ⟨langs,people,laws⟩),.box 3 (ofL [AI 0,nilS,nilS]),.box 3 (ofL [AI langs,.own 3 (i + 1),cpLaws laws]),rowP (i + 1) people]) (fun i=>i ≤ people.length) (fun i=>people.length - i) 0 ⟨Nat.zero_le _,[0,1,2],Cut.A,allA⟩ ?_
  intro i hi
  by_cases hlt:i < people.length
  ·obtain ⟨q1,q2⟩:=s3 i hlt
   rcases i with _|i
   ·(repeat' ((try conv=>whnf);first|(with_reducible first|refine wT ?_|refine wF ?_|(refine wI (fun hq=>?_) (fun hq=>?_) <;> try simp only [zA,zE,zD,zJ,zB,zI,wK,wL] at hq)|refine wA ?_|refine wB ?_|refine wC ?_|refine wD ?_|refine wE ?_)|((with_reducible refine wN ?_ ?_);focus exact needA)|(with_reducible refine wG ?_)|(with_reducible refine wP ?_)))
    (try conv=>whnf)
    rcases hL:(people.getD 0 ps0).levels.length with _|L
    all_goals
     (repeat' ((try conv=>whnf);first|(with_reducible first|refine wT ?_|refine wF ?_|(refine wI (fun hq=>?_) (fun hq=>?_) <;> try simp only [zA,zE,zD,zJ,zB,zI,wK,wL] at hq)|refine wA ?_|refine wB ?_|refine wC ?_|refine wD ?_|refine wE ?_)|((with_reducible refine wN ?_ ?_);focus exact needA)|(with_reducible refine wG ?_)|(with_reducible refine wP ?_)))
     (try conv=>whnf)
     rcases hT:(people.getD 0 ps0).ties.length with _|T
     all_goals
      (repeat' ((try conv=>whnf);first|(with_reducible first|refine wT ?_|refine wF ?_|(refine wI (fun hq=>?_) (fun hq=>?_) <;> try simp only [zA,zE,zD,zJ,zB,zI,wK,wL] at hq)|refine wA ?_|refine wB ?_|refine wC ?_|refine wD ?_|refine wE ?_)|((with_reducible refine wN ?_ ?_);focus exact needA)|(with_reducible refine wG ?_)|(with_reducible refine wP ?_)))
      (try conv=>whnf)
      refine FWk.of [(1,.ptr 0 0),(2,.ptr 1 0),(3,.ptr 2 0),(4,AI (0:Nat)),(5,.ptr 3 0)] [.box 3 (cCrew f ⟨langs,people,laws⟩),.box 3 (ofL [AI 0,nilS,nilS]),.box 3 (ofL [AI langs,nilS,cpLaws laws]),.box 6 (cPers people 0)] [0,1,2,3] (wO rfl rfl rfl (wV rfl LnB.A (wV rfl LnB.A (wV rfl LnB.A (wV rfl (LnB.boxN ⟨⟨⟨⟨⟨⟨True.intro,by first|exact Ln.slZ (by assumption)|exact Ln.pubD (by omega) (goneB rfl) rfl (by omega) (by omega) (fun k hk o ho=>by simp [appc])|fail⟩,Ln.A⟩,Ln.A⟩,by first|exact Ln.slZ (by assumption)|exact Ln.pubD (by omega) (goneB rfl) rfl (by omega) (by omega) (fun k hk o ho=>by simp [appc])|fail⟩,Ln.A⟩,Ln.A⟩) wX))))) ⟨Ln.A,Ln.A,Ln.A,Ln.A,Ln.A,True.intro⟩ ?_
      (repeat' ((try conv=>whnf);first|(with_reducible first|refine wT ?_|refine wF ?_|(refine wI (fun hq=>?_) (fun hq=>?_) <;> try simp only [zA,zE,zD,zJ,zB,zI,wK,wL] at hq)|refine wA ?_|refine wB ?_|refine wC ?_|refine wD ?_|refine wE ?_)|((with_reducible refine wN ?_ ?_);focus exact needA)|(with_reducible refine wG ?_)|(with_reducible refine wP ?_)))
      (try conv=>whnf)
      (exact ⟨⟨1,hlt,by show _ < _;omega,[0,1,2,4],(by (refine wO rfl rfl rfl ?_;repeat (first|exact wX|(refine wV rfl (by first|exact LnB.rowS|exact LnB.app (fun k hk=>absurd hk (Nat.not_lt_zero k)) (fun o ho=>rfl)|exact LnB.A) ?_)|(refine CutL.gone (Nat.lt_of_lt_of_le (Nat.lt_succ_self _) (Nat.le_of_ble_eq_true rfl)) ?_)))),allA⟩⟩)
   ·(repeat' ((try conv=>whnf);first|(with_reducible first|refine wT ?_|refine wF ?_|(refine wI (fun hq=>?_) (fun hq=>?_) <;> try simp only [zA,zE,zD,zJ,zB,zI,wK,wL] at hq)|refine wA ?_|refine wB ?_|refine wC ?_|refine wD ?_|refine wE ?_)|((with_reducible refine wN ?_ ?_);focus exact needA)|(with_reducible refine wG ?_)|(with_reducible refine wP ?_)))
    (try conv=>whnf)
    rcases hL:(people.getD (i + 1) ps0).levels.length with _|L
    all_goals
     (repeat' ((try conv=>whnf);first|(with_reducible first|refine wT ?_|refine wF ?_|(refine wI (fun hq=>?_) (fun hq=>?_) <;> try simp only [zA,zE,zD,zJ,zB,zI,wK,wL] at hq)|refine wA ?_|refine wB ?_|refine wC ?_|refine wD ?_|refine wE ?_)|((with_reducible refine wN ?_ ?_);focus exact needA)|(with_reducible refine wG ?_)|(with_reducible refine wP ?_)))
     (try conv=>whnf)
     rcases hT:(people.getD (i + 1) ps0).ties.length with _|T
     all_goals
      (repeat' ((try conv=>whnf);first|(with_reducible first|refine wT ?_|refine wF ?_|(refine wI (fun hq=>?_) (fun hq=>?_) <;> try simp only [zA,zE,zD,zJ,zB,zI,wK,wL] at hq)|refine wA ?_|refine wB ?_|refine wC ?_|refine wD ?_|refine wE ?_)|((with_reducible refine wN ?_ ?_);focus exact needA)|(with_reducible refine wG ?_)|(with_reducible refine wP ?_)))
      (try conv=>whnf)
      refine FWk.of [(1,.ptr 0 0),(2,.ptr 1 0),(3,.ptr 2 0),(4,AI (i + 1:Nat)),(5,.ptr 4 0)] [.box 3 (cCrew f ⟨langs,people,laws⟩),.box 3 (ofL [AI 0,nilS,nilS]),.box 3 (ofL [AI langs,.own 3 (i + 1),cpLaws laws]),rowP (i + 1) people,.box 6 (cPers people (i + 1))] [0,1,2,3,4] (wO rfl rfl rfl (wV rfl LnB.A (wV rfl LnB.A (wV rfl LnB.A (wV rfl LnB.A (wV rfl (LnB.boxN ⟨⟨⟨⟨⟨⟨True.intro,by first|exact Ln.slZ (by assumption)|exact Ln.pubD (by omega) (goneB rfl) rfl (by omega) (by omega) (fun k hk o ho=>by simp [appc])|fail⟩,Ln.A⟩,Ln.A⟩,by first|exact Ln.slZ (by assumption)|exact Ln.pubD (by omega) (goneB rfl) rfl (by omega) (by omega) (fun k hk o ho=>by simp [appc])|fail⟩,Ln.A⟩,Ln.A⟩) wX)))))) ⟨Ln.A,Ln.A,Ln.A,Ln.A,Ln.A,True.intro⟩ ?_
      (repeat' ((try conv=>whnf);first|(with_reducible first|refine wT ?_|refine wF ?_|(refine wI (fun hq=>?_) (fun hq=>?_) <;> try simp only [zA,zE,zD,zJ,zB,zI,wK,wL] at hq)|refine wA ?_|refine wB ?_|refine wC ?_|refine wD ?_|refine wE ?_)|((with_reducible refine wN ?_ ?_);focus exact needA)|(with_reducible refine wG ?_)|(with_reducible refine wP ?_)))
      (try conv=>whnf)
      (exact ⟨⟨(i + 2),hlt,by show _ < _;omega,[0,1,2,5],(by (refine wO rfl rfl rfl ?_;repeat (first|exact wX|(refine wV rfl (by first|exact LnB.rowS|exact LnB.app (fun _ _ _ _=>rfl) (fun o ho=>rfl)|exact LnB.A) ?_)|(refine CutL.gone (Nat.lt_of_lt_of_le (Nat.lt_succ_self _) (Nat.le_of_ble_eq_true rfl)) ?_)))),allA⟩⟩)
  ·obtain rfl:i = people.length:=by omega
   rcases hn:people.length with _|n
   ·(repeat' ((try conv=>whnf);first|(with_reducible first|refine wT ?_|refine wF ?_|(refine wI (fun hq=>?_) (fun hq=>?_) <;> try simp only [zA,zE,zD,zJ,zB,zI,wK,wL] at hq)|refine wA ?_|refine wB ?_|refine wC ?_|refine wD ?_|refine wE ?_)|((with_reducible refine wN ?_ ?_);focus exact needA)|(with_reducible refine wG ?_)|(with_reducible refine wP ?_)))
    (try conv=>whnf)
    exact ⟨⟨.agg 3 (ofL [AI langs,nilS,cpLaws laws]),[],[],Cut.nil _,Ln.A,by subst hgl;rfl,rfl⟩⟩
   ·(repeat' ((try conv=>whnf);first|(with_reducible first|refine wT ?_|refine wF ?_|(refine wI (fun hq=>?_) (fun hq=>?_) <;> try simp only [zA,zE,zD,zJ,zB,zI,wK,wL] at hq)|refine wA ?_|refine wB ?_|refine wC ?_|refine wD ?_|refine wE ?_)|((with_reducible refine wN ?_ ?_);focus exact needA)|(with_reducible refine wG ?_)|(with_reducible refine wP ?_)))
    (try conv=>whnf)
    exact ⟨⟨.agg 3 (ofL [AI langs,.own 0 (n + 1),cpLaws laws]),[rowP (n + 1) people],[3],Cut.A,Ln.aggN ⟨⟨⟨True.intro,Ln.A⟩,Ln.A⟩,Ln.A⟩,by subst hgl;rfl,rfl⟩⟩
theorem copy_own (f:CFl) (c:Crew) (hs:SmallC c):ACall Try.prog 13 [aCrew f c] [] (fun v h=>v = .agg 3 (ofL [AI c.langs,oPeople 0 c.people.length,cpLaws c.laws]) ∧ h = hPeople c.people.length c.people):=copy_own3 f c.langs c.people c.laws hs
/-- The copy, to be read only. -/
def flC (c:Crew):CFl:=⟨decide (c.people.length = 0),decide (c.people.length = 0),false,decide (c.laws.length = 0),fun i=>pfP (c.people.getD i ps0)⟩
theorem copy_pub (f:CFl) (c:Crew) (hs:SmallC c):ACall Try.prog 13 [aCrew f c] [] (fun v h=>v = aCrew (flC c) c ∧ h = []) :=
 ACall.wk (ACall.mono' Try.prog (by
  rintro _ _ ⟨rfl,rfl⟩
  refine ⟨aCrew (flC c) c,[],[],Cut.nil _,Ln.aggN ⟨⟨⟨True.intro,Ln.A⟩,?_⟩,Ln.A⟩,rfl,rfl⟩
  show Ln _ _ (hPeople c.people.length c.people) (oPeople 0 c.people.length) (.sl (decide (c.people.length = 0)) (decide (c.people.length = 0)) c.people.length 6 (cPers c.people))
  generalize c.people.length = n
  rcases n with _|n
  ·exact Ln.slz _ _ _ _ _ _ _ (fun h=>h)
  ·exact Ln.pubE (goneB rfl) rfl (Nat.le_refl _) rfl (fun _ _ _ _=>rfl)) (copy_own f c hs))
end Go.Proofs.Ytdipcdallenmkaa

namespace Go.Proofs.Ytdipcdallenmkaa
open Go.RowKit

theorem block_of_add (a:Addr) (n:Nat):(a.add n).block = a.block:=by unfold Addr.add;split <;> rfl
theorem add_of_add (a:Addr) (i j:Nat):(a.add i).add j = a.add (i + j):=by
 unfold Addr.add
 by_cases hi:i = 0 <;> by_cases hj:j = 0 <;> simp [hi,hj,Nat.add_assoc]

/-- w' has all that w has, unchanged. -/
abbrev Ext (w w':World):Prop:=Below w.heap.size w w'

theorem Ext.refl (w:World):Ext w w:=Below.refl _ w
theorem Ext.trans {a b c:World} (h:Ext a b) (k:Ext b c):Ext a c:=Below.trans h (k.mono h.size)
theorem Ext.of_alloc (w:World) (o:Obj):Ext w (w.alloc o):=(Below.refl _ w).alloc (Nat.le_refl _) o
theorem Ext.alloc {a w:World} (h:Ext a w) (o:Obj):Ext a (w.alloc o):=Below.alloc h h.size o
theorem Ext.drew {a w:World} (h:Ext a w):Ext a w.drew:=Below.drew h
theorem Ext.drewN {a w:World} (h:Ext a w) (n:Nat):Ext a (w.drewN n):=⟨h.os,h.tape,h.output,h.size,h.block⟩
theorem Ext.cellOf {w w':World} (h:Ext w w') {p:Addr} (hp:p.block < w.heap.size):w'.cell? p = w.cell? p:=Below.cell h hp

/-- The n elements (size cells each) of a slice at A are the cells xs. -/
def Sl (w:World) (size:Nat) (A:Option Addr) (n:Nat) (xs:List Value):Prop :=
 xs.length = n * size ∧ (0 < n → ∃ b off,A = some ⟨b,off,none⟩ ∧ b < w.heap.size ∧ ∀ (j:Nat) (u:Value),xs[j]? = some u → w.cell? ⟨b,off + j,none⟩ = some u)

theorem Sl.ext {w w':World} {size n:Nat} {A:Option Addr} {xs:List Value} (h:Sl w size A n xs) (e:Ext w w'):Sl w' size A n xs :=
 ⟨h.1,fun hn=>by
  obtain ⟨b,off,hA,hb,hc⟩:=h.2 hn
  exact ⟨b,off,hA,Nat.lt_of_lt_of_le hb e.size,fun j u hu=>(e.cellOf (p:=⟨b,off + j,none⟩) hb).trans (hc j u hu)⟩⟩
theorem Sl.nil (w:World) (size:Nat) (A:Option Addr):Sl w size A 0 []:=⟨by simp,fun h=>absurd h (by omega)⟩
theorem own_lt {w:World} {g:Nat} {o:Obj} (hh:w.heap[g]? = some o):g < w.heap.size:=by
 rcases Nat.lt_or_ge g w.heap.size with hlt|hge
 ·exact hlt
 ·rw [Array.getElem?_eq_none hge] at hh;cases hh
theorem Sl.of_own {w:World} {base size n c:Nat} {e:TypeId} {A:Option Addr} {xs:List Value} (h:w.ownsRow base e size (.slice A n c) n xs):Sl w size A n xs:=by
 refine ⟨h.1,fun hn=>?_⟩
 rcases h.2 with ⟨hv,hx⟩|⟨g,cap,cur,hv,hb,hh,_⟩
 ·injection hv with hA hn'
  omega
 ·injection hv with hA
  subst hA
  refine ⟨g,0,rfl,own_lt hh,fun j u hu=>?_⟩
  have h1:=h.cells (g:=g) rfl j u hu
  unfold Addr.add at h1
  split at h1
  ·rename_i h0;subst h0;exact h1
  ·simpa using h1
theorem Sl.at {w:World} {size n:Nat} {A:Option Addr} {xs:List Value} (h:Sl w size A n xs) {k:Nat} (hk:k < n) :
  ∃ b off,A = some ⟨b,off,none⟩ ∧ b < w.heap.size ∧ ∀ i,i < size → ∃ u,xs[k * size + i]? = some u ∧ w.cell? ⟨b,off + (k * size + i),none⟩ = some u:=by
 obtain ⟨b,off,hA,hb,hc⟩:=h.2 (by omega)
 refine ⟨b,off,hA,hb,fun i hi=>?_⟩
 have hlt:k * size + i < xs.length:=by
  rw [h.1]
  have:(k + 1) * size ≤ n * size:=Nat.mul_le_mul_right _ hk
  rw [Nat.add_mul] at this
  omega
 exact ⟨xs[k * size + i],List.getElem?_eq_getElem hlt,hc _ _ (List.getElem?_eq_getElem hlt)⟩

/-- A slice of ints. -/
def Ints (w:World) (A:Option Addr) (l:List Int):Prop :=
 ∀ k,k < l.length → ∃ b off,A = some ⟨b,off,none⟩ ∧ b < w.heap.size ∧ w.cell? ⟨b,off + k,none⟩ = some (.int .i64 (l.getD k 0))
theorem Ints.ext {w w':World} {A:Option Addr} {l:List Int} (h:Ints w A l) (e:Ext w w'):Ints w' A l:=fun k hk=>by
 obtain ⟨b,off,hA,hb,hc⟩:=h k hk
 exact ⟨b,off,hA,Nat.lt_of_lt_of_le hb e.size,(e.cellOf (p:=⟨b,off + k,none⟩) hb).trans hc⟩
theorem Ints.of_own {w:World} {base n c:Nat} {e:TypeId} {A:Option Addr} {l:List Int} (h:w.ownsRow base e 1 (.slice A n c) n (l.map (.int .i64))):n = l.length ∧ Ints w A l:=by
 have hl:n = l.length:=by have:=h.1;simp at this;omega
 refine ⟨hl,fun k hk=>?_⟩
 obtain ⟨b,off,hA,hb,hc⟩:=(Sl.of_own h).at (k:=k) (by omega)
 obtain ⟨u,hu,hcu⟩:=hc 0 (by omega)
 refine ⟨b,off,hA,hb,?_⟩
 simp at hu hcu
 obtain ⟨a,ha,rfl⟩:=hu
 rw [hcu]
 simp [List.getD,ha]

theorem Ints.get {w:World} {A:Option Addr} {l:List Int} (h:Ints w A l) {k:Nat} (hk:k < l.length) :
  ∃ b off x,A = some ⟨b,off,none⟩ ∧ b < w.heap.size ∧ w.cell? ⟨b,off + k,none⟩ = some (.int .i64 x) ∧ Hid (l.getD k 0 = x):=by
 obtain ⟨b,off,h1,h2,h3⟩:=h k hk
 exact ⟨b,off,_,h1,h2,h3,rfl⟩

theorem Ext.unalloc {w wr:World} {o:Obj} (h:Ext (w.alloc o) wr):Ext w wr:=(Ext.of_alloc w o).trans h
theorem Ext.box {w wr:World} {cs:Array Value} {T:TypeId} (h:Ext (w.alloc (.cells cs T)) wr) (i:Nat):wr.cell? ⟨w.heap.size,i,none⟩ = cs[i]?:=by
 rw [h.cellOf (by simp),World.cell?_alloc_at _ _ _ _ rfl]
theorem Ext.boxFree {w wr:World} {cs:Array Value} {T:TypeId} (h:Ext (w.alloc (.cells cs T)) wr) (i:Nat):wr.frozen? ⟨w.heap.size,i,none⟩ = false:=by
 rw [Below.frozen h (by simp),World.frozen?_alloc_at _ _ _ _ rfl]
theorem Ext.lt {w wr:World} {o:Obj} (h:Ext (w.alloc o) wr):w.heap.size < wr.heap.size:=by have:=h.size;simp at this;omega
theorem Ext.le {w wr:World} (h:Ext w wr):w.heap.size ≤ wr.heap.size:=h.size

theorem Ext.grown {w w':World} (h:Ext w w') (row:Option Nat):w.grownBy w' row:=⟨h.os,h.tape,h.output,h.size,fun i hi _=>h.block i hi⟩
theorem Ext.of_grown {w w':World} (h:w.grownBy w' none):Ext w w':=⟨h.os,h.tape,h.output,h.size,fun i hi=>h.block i hi (by simp)⟩

/-- Block g is just the cells cs of element type t, none frozen. -/
def Blk (w:World) (g:Nat) (t:TypeId) (cs:Array Value):Prop:=w.heap[g]? = some (.cells cs t (0,0))
theorem Blk.lt {w:World} {g:Nat} {t:TypeId} {cs:Array Value} (h:Blk w g t cs):g < w.heap.size:=own_lt h
theorem Blk.cell {w:World} {g:Nat} {t:TypeId} {cs:Array Value} (h:Blk w g t cs) (i:Nat):w.cell? ⟨g,i,none⟩ = cs[i]?:=by
 unfold Blk at h;simp [World.cell?,h]
theorem Blk.free {w:World} {g:Nat} {t:TypeId} {cs:Array Value} (h:Blk w g t cs) (i:Nat):w.frozen? ⟨g,i,none⟩ = false:=by
 unfold Blk at h;simp [World.frozen?,h]
theorem Blk.new (w:World) (t:TypeId) (cs:Array Value):Blk (w.alloc (.cells cs t)) w.heap.size t cs:=heap_alloc_new w _
theorem Blk.ext {w w':World} {g:Nat} {t:TypeId} {cs:Array Value} (h:Blk w g t cs) (e:Ext w w'):Blk w' g t cs:=(e.block g h.lt).trans h
theorem Blk.alloc {w:World} {g:Nat} {t:TypeId} {cs:Array Value} (h:Blk w g t cs) (o:Obj):Blk (w.alloc o) g t cs:=h.ext (Ext.of_alloc _ _)
theorem Blk.set {w:World} {g:Nat} {t:TypeId} {cs:Array Value} (h:Blk w g t cs) (i:Nat) (u:Value):Blk (w.setCell ⟨g,i,none⟩ u) g t (cs.setIfInBounds i u):=by
 unfold Blk at h ⊢
 simp [World.setCell,Array.getElem?_modify,h]
theorem Blk.far {w:World} {g:Nat} {t:TypeId} {cs:Array Value} (h:Blk w g t cs) {p:Addr} (hp:g ≠ p.block) (u:Value):Blk (w.setCell p u) g t cs:=(Below.heap_setCell w p u g hp).trans h
theorem Blk.grown {w w':World} {g:Nat} {t:TypeId} {cs:Array Value} {row:Option Nat} (h:Blk w g t cs) (hb:w.grownBy w' row) (hg:some g ≠ row):Blk w' g t cs:=(hb.block g h.lt hg).trans h
theorem Blk.ne {w:World} {g g':Nat} {t t':TypeId} {cs cs':Array Value} (h:Blk w g t cs) (h':Blk w g' t' cs') (hne:t ≠ t'):g ≠ g':=by
 rintro rfl
 unfold Blk at h h'
 rw [h] at h'
 injection h' with h'
 injection h' with _ ht
 exact hne ht
theorem grown_setCell (w:World) (p:Addr) (u:Value):w.grownBy (w.setCell p u) (some p.block) :=
 ⟨rfl,rfl,rfl,by simp,fun i _ hne=>Below.heap_setCell _ _ _ _ (fun e=>hne (by rw [e]))⟩
theorem grown_refl (w:World) (row:Option Nat):w.grownBy w row:=(Ext.refl w).grown row
theorem grown_trans {a b c:World} {row:Option Nat} (h:a.grownBy b row) (k:b.grownBy c row):a.grownBy c row :=
 ⟨k.os.trans h.os,k.tape.trans h.tape,k.output.trans h.output,Nat.le_trans h.size k.size,fun i hi hne=>(k.block i (Nat.lt_of_lt_of_le hi h.size) hne).trans (h.block i hi hne)⟩
theorem grown_drew (w:World) (row:Option Nat):w.grownBy w.drew row:=(Ext.refl w).drew.grown row

theorem quiet_add_same {P:Program} {f:FuncId} {args:Array Value} {w:World} {a n:Nat} {v:Value}
  (h:Calls P f args (w.drewN (a + n)) fun e w'=>e = .returned v ∧ w' = w.drewN (a + n)) :
  Calls P f args (w.drewN (a + n)) fun e w''=>e = .returned v ∧ ∃ m,w'' = w.drewN (a + m) :=
 h.mono fun _ _ ⟨he,hm⟩=>⟨he,n,hm⟩

/-- A region that draws, all of whose operations read or call, in a class of worlds. -/
theorem wp_region_class {P:Program} {id:Nat} {Q:Exit → Act → World → Prop} {a:Act} {w:World} {l:List Oper} (C:World → Prop) (hm:P.follows .mixedOrders = true) (hB:Region.lexB .any l.toArray = true) (hC:C w.drew)
  (h:wpQuiet P l.toArray C (fun a'=>∀ w',C w' → Q .normal a' w') l a):(Code.region id l.toArray true).wp P Q a w :=
 wp_region_quiet (C:=C) hm hB hC (by simpa using h)

theorem ret_int {k:IntKind} {a b:Int} (h:a = b):Ending.returned (.int k a) = .returned (.int k b):=by rw [h]
theorem ret_bool {a b:Bool} (h:a = b):Ending.returned (.bool a) = .returned (.bool b):=by rw [h]
end Go.Proofs.Ytdipcdallenmkaa

namespace Go.Proofs.Ytdipcdallenmkaa
open Go.RowKit Go.ChangeShapes Go.WideShapes Go.Deep

section
variable {H:Type} {enc:TypeId × Value → H} {P:Program} {w:World} {base:Nat} {held:Bool}

/-- A slice's elements, cell by cell. -/
theorem rd_slice {t e:TypeId} {sz n:Nat} {v:Value} {y:DataW H × List MemPlace} (ht:P.underlying t = some (.slice e)) (hc:P.cellsOf e = sz) (hsz:0 < sz) (h:DataW.trod enc P w base (fun _=>true) held n t [v] = some y) :
  ∃ A len cap,v = .slice A len cap ∧ len ≤ 9223372036854775807 ∧ (A = none → len = 0) ∧ ∀ i,i < len → ∃ b off m cs z,A = some ⟨b,off,none⟩ ∧ b < w.heap.size ∧ cs.length = sz ∧ (∀ j,j < sz → w.cell? ⟨b,off + i * sz + j,none⟩ = cs[j]?) ∧
   DataW.trod enc P w base (fun _=>true) held m e cs = some z:=by
 rcases open_slice ht h with ⟨h0,_⟩|⟨a,len,cap,m,n',D,Pl,h0,hb,hl,hm,hmm,_,hx⟩
 ·injection h0 with h0
  exact ⟨none,0,0,h0,by omega,fun _=>rfl,fun i hi=>by omega⟩
 ·injection h0 with h0
  have hmx:maxLen = 9223372036854775807:=rfl
  refine ⟨some a,len,cap,h0,by omega,(fun h=>by cases h),fun i hi=>?_⟩
  simp only [if_true] at hmm
  obtain ⟨cs,h1,h2⟩:=hx i (by omega)
  obtain ⟨_,hlen,hcell⟩:=World.cells?_some h1
  rw [hc] at hlen hcell
  have hc0:=hcell 0 hsz
  rw [List.getElem?_eq_getElem (by omega)] at hc0
  obtain ⟨b,off,spot⟩:=a
  have hadd:∀ (x y:Nat),((⟨b,off,spot⟩:Addr).add x).add y = (⟨b,off,spot⟩:Addr).add (x + y):=fun x y=>add_of_add _ _ _
  have hsp:spot = none:=by
   obtain ⟨cs0,g1,_⟩:=hx 0 (by omega)
   obtain ⟨_,glen,gcell⟩:=World.cells?_some g1
   rw [hc] at glen gcell
   have g0:=gcell 0 hsz
   rw [List.getElem?_eq_getElem (by omega)] at g0
   have:=World.cell?_spot g0
   simpa [hadd,Addr.add] using this
  subst hsp
  have hform:∀ x,(⟨b,off,none⟩:Addr).add x = ⟨b,off + x,none⟩:=fun x=>by
   unfold Addr.add
   by_cases hx0:x = 0 <;> simp [hx0]
  refine ⟨b,off,n',cs,_,rfl,?_,hlen,fun j hj=>?_,h2⟩
  ·have:=World.block_lt_of_cell? w _ hc0
   rw [hadd,hform] at this
   exact this
  ·have:=hcell j hj
   rw [hadd,hform] at this
   rw [← this,Nat.add_assoc]

theorem rd_int {t:TypeId} {n:Nat} {cs:List Value} {y:DataW H × List MemPlace} (ht:P.underlying t = some (.int .i64)) (h:DataW.trod enc P w base (fun _=>true) held n t cs = some y):∃ i:Int,cs = [.int .i64 i] ∧ -9223372036854775808 ≤ i ∧ i ≤ 9223372036854775807:=by
 obtain ⟨i,h1,_,h3⟩:=DataW.trod_int ht h
 refine ⟨i,h1,?_⟩
 simpa [Lit.wf,IntKind.min,IntKind.max,IntKind.signed,IntKind.bits] using h3

def I64 (x:Int):Prop:=-9223372036854775808 ≤ x ∧ x ≤ 9223372036854775807

theorem rd_ints {t e:TypeId} {n:Nat} {v:Value} {y:DataW H × List MemPlace} (ht:P.underlying t = some (.slice e)) (he:P.underlying e = some (.int .i64)) (hc:P.cellsOf e = 1) (h:DataW.trod enc P w base (fun _=>true) held n t [v] = some y) :
  ∃ A c,∃ l:List Int,v = .slice A l.length c ∧ Ints w A l ∧ l.length ≤ 9223372036854775807 ∧ (A = none → l = []) ∧ ∀ x ∈ l,I64 x:=by
 obtain ⟨A,len,cap,rfl,hl,hn,hx⟩:=rd_slice ht hc (by omega) h
 have key:∀ i,i < len → ∃ x:Int,(∃ b off,A = some ⟨b,off,none⟩ ∧ b < w.heap.size ∧ w.cell? ⟨b,off + i,none⟩ = some (.int .i64 x)) ∧ I64 x:=by
  intro i hi
  obtain ⟨b,off,m,cs,z,hA,hb,hlen,hcell,ht'⟩:=hx i hi
  obtain ⟨x,rfl,h1,h2⟩:=rd_int he ht'
  have:=hcell 0 (by omega)
  rw [Nat.mul_one,Nat.add_zero] at this
  exact ⟨x,⟨b,off,hA,hb,this⟩,h1,h2⟩
 obtain ⟨f,hf⟩:=choose_lt key
 have hlen:((List.range len).map f).length = len:=by simp
 refine ⟨A,cap,(List.range len).map f,by rw [hlen],fun k hk=>?_,by omega,fun hA=>by rw [hn hA];rfl,fun x hx'=>?_⟩
 ·rw [hlen] at hk
  obtain ⟨⟨b,off,h1,h2,h3⟩,_⟩:=hf k hk
  exact ⟨b,off,h1,h2,by rw [h3];simp [List.getD,hk]⟩
 ·obtain ⟨k,hk,rfl⟩:=List.mem_map.1 hx'
  exact (hf k (by simpa using hk)).2

/-- A world that only has more. -/
theorem since_of_ext {W W':World} (h:Ext W W'):W.Since W.heap.size W':=⟨h.os,h.tape,h.output,h.size,fun k hk=>h.block k hk⟩
/-- An argument reads as before in a world that only has more. -/
theorem stays {t:TypeId} (hl:laidOutB P = true) (hr:P.readableRec t = true) (hrow:t < P.types.size) {W W':World} {sp':Nat → Bool} {v:Value} {d:DataW H} {ps:List MemPlace}
  (h:DataW.Trod enc P W 0 (fun _=>true) true t v d ps) (hE:Ext W W') (hlt:∀ p ∈ ps,p.block < W.heap.size) (hs:∀ p ∈ ps,sp' p.block = true):DataW.Trod enc P W' 0 sp' true t v d ps :=
 WideElems.Trod_stays hl hr hrow h (fun p hp=>(since_of_ext hE).sameAt (hlt p hp)) hs
end
end Go.Proofs.Ytdipcdallenmkaa

namespace Go.Proofs.Ytdipcdallenmkaa
open Go.RowKit Go.ChangeShapes Go.WideShapes Go.Deep Go.ChangeAt

section
variable {H:Type} {enc:TypeId × Value → H} {P:Program}
theorem staysAll (hl:laidOutB P = true) {W W':World} (hE:Ext W W') {sp':Nat → Bool}:∀ {ts:List TypeId} {vs:List Value} {ds:List (DataW H)} {ps:List MemPlace},(∀ t ∈ ts,P.readableRec t = true ∧ t < P.types.size) →
  DataW.TrodAll enc P W 0 (fun _=>true) true ts vs ds ps → (∀ p ∈ ps,p.block < W.heap.size) → (∀ p ∈ ps,sp' p.block = true) → DataW.TrodAll enc P W' 0 sp' true ts vs ds ps:=by
 intro ts
 induction ts with
 | nil =>
  intro vs ds ps _ h _ _
  obtain ⟨rfl,rfl,rfl⟩:=trodAll_nil h
  exact trodAll_mk0
 | cons t ts ih =>
  intro vs ds ps ht h hlt hs
  obtain ⟨v,vs',d,ds',p,q,rfl,rfl,rfl,h0,hr⟩:=trodAll_cons h
  exact trodAll_cons_mk (stays hl (ht t List.mem_cons_self).1 (ht t List.mem_cons_self).2 h0 hE (fun x hx=>hlt x (List.mem_append_left _ hx)) (fun x hx=>hs x (List.mem_append_left _ hx)))
   (ih (fun t' h'=>ht t' (List.mem_cons_of_mem _ h')) hr (fun x hx=>hlt x (List.mem_append_right _ hx)) (fun x hx=>hs x (List.mem_append_right _ hx)))

theorem trodLen {w:World} {base:Nat} {spare:Nat → Bool} {held:Bool}:∀ {ts:List TypeId} {vs:List Value} {ds:List (DataW H)} {ps:List MemPlace},DataW.TrodAll enc P w base spare held ts vs ds ps → ds.length = ts.length:=by
 intro ts
 induction ts with
 | nil =>
  intro vs ds ps h
  obtain ⟨rfl,rfl,rfl⟩:=trodAll_nil h
  rfl
 | cons t ts ih =>
  intro vs ds ps h
  obtain ⟨v,vs',d,ds',p,q,rfl,rfl,rfl,h0,hr⟩:=trodAll_cons h
  simp [ih hr]

theorem law_post {f:Func} {s:ChangeSpec} {W W':World} {args:Array Value} {ds gs:List (DataW H)} {before:List MemPlace} {tb:TypeId} (hl:laidOutB P = true) (hts:∀ t ∈ f.params.toList,P.readableRec t = true ∧ t < P.types.size)
  (hv:s.vars = []) (hb:P.underlying tb = some .bool) (hrt:f.resultTypes = #[tb]) (hspec:∀ l:List (DataW H),l.length = f.params.toList.length → s.fn H (l ++ []) = { results:=[.lit (.bool true)],args:=l,vars:=[] })
  (hW:DataW.Whole enc P f.params.toList s.vars false W args.toList ds gs before) (hE:Ext W W'):s.post enc P f false true false false W args (.bool true) W':=by
 have hW':=hW
 obtain ⟨p,q,hA,hV,rfl,_,_⟩:=hW
 rw [hv] at hV
 obtain ⟨rfl,rfl⟩:=trodVars_none hV
 have hlt:∀ x ∈ p,x.block < W.heap.size:=fun x hx=>hW'.lt x (by simp [hx])
 have hlen:=trodLen hA
 have hs:=hspec ds hlen
 refine ⟨ds,[],_,[],p,[],hW',?_,?_,?_,(since_of_ext hE).frame _,fun h=>by cases h⟩
 ·rw [hs,hrt]
  exact trodAll_cons_mk (shut_bool hb _) trodAll_mk0
 ·rw [hs]
  exact staysAll hl hE hts hA hlt (fun x hx=>by simpa using hlt x hx)
 ·rw [hs,hv]
  rfl
end
end Go.Proofs.Ytdipcdallenmkaa

namespace Go.Proofs.Ytdipcdallenmkaa
open Go.RowKit Go.ChangeShapes Go.WideShapes Go.Deep

def nobody : Nat → Prop:=fun _=>False
/-- Cells that are as a table says. -/
def CellsAre (w:World) (cs:List Value) (sz:Nat) (c:Nat → AV):Prop:=cs.length = sz ∧ ∀ o,o < sz → ∃ u,cs[o]? = some u ∧ u.oneCell' = true ∧ rep nobody w (c o) g0 u
theorem law_calls {P:Program} {f:FuncId} {xs:List AV} (H:ACall P f xs [] (fun r h=>r = .bool true ∧ h = [])) {w:World} {vs:Array Value} (hs:vs.size = xs.length) (hr:∀ (i:Nat) (x:AV),xs[i]? = some x → rep nobody w x g0 (vs.getD i undef)) :
  Calls P f vs w fun e w'=>e = .returned (.bool true) ∧ Ext w w':=by
 have noM:∀ b,MM nobody g0 [] b → False:=fun b hb=>by
  rcases hb with hb|⟨d,cap,⟨x,hx,_⟩,_⟩
  ·exact hb
  ·simp at hx
 refine (H.2 nobody g0 w vs (HOK.nil w (fun _ h=>h.elim)) hs fun i x hx=>rep_mono (Chg.refl _ w) (fun b _ hb=>(noM b hb).elim) _ (GM.le_refl _) (hr i x hx)).mono ?_
 rintro e w' ⟨v,r,h',g',rfl,T,hv,rfl,_⟩
 have:v = .bool true:=hv
 subst this
 exact ⟨rfl,T.chg.os,T.chg.tape,T.chg.output,T.chg.size,fun b hb=>T.chg.block b hb (fun hm=>noM b (.inr hm))⟩
theorem CellsAre.agg {w:World} {cs:List Value} {sz:Nat} {c:Nat → AV} (h:CellsAre w cs sz c):rep nobody w (.agg sz c) g0 (.agg cs.toArray) :=
 ⟨_,rfl,by simp [h.1],fun i hi=>by obtain ⟨u,h1,h2,h3⟩:=h.2 i hi;exact ⟨u,by simpa using h1,h2,h3⟩⟩
theorem CellsAre.val {w:World} {v:Value} {cs:List Value} {c:Nat → AV} (h:CellsAre w cs 1 c) (hv:cs = [v]):rep nobody w (c 0) g0 v:=by
 subst hv
 obtain ⟨u,h1,_,h3⟩:=h.2 0 (by omega)
 simp at h1
 rw [h1];exact h3
theorem CellsAre.sub {w:World} {cs:List Value} {off k:Nat} {c:Nat → AV} (h:CellsAre w ((cs.drop off).take k) k c) {o:Nat} (ho:o < k):∃ u,cs[off + o]? = some u ∧ u.oneCell' = true ∧ rep nobody w (c o) g0 u:=by
 obtain ⟨u,h1,h2⟩:=h.2 o ho
 rw [List.getElem?_take] at h1
 simp only [ho,if_true,List.getElem?_drop] at h1
 exact ⟨u,h1,h2⟩
theorem CellsAre.one {w : World} {v : Value} {x : AV} (h1 : v.oneCell' = true) (h : rep nobody w x g0 v) : CellsAre w [v] 1 (fun _ => x) :=
  ⟨rfl, fun o ho => by obtain rfl : o = 0 := (by omega)
                       exact ⟨v, rfl, h1, h⟩⟩
section
variable {H:Type} {enc:TypeId × Value → H} {P:Program} {w:World} {base:Nat} {held:Bool}
theorem rdr_int {t:TypeId} {n:Nat} {cs:List Value} {y:DataW H × List MemPlace} (ht:P.underlying t = some (.int .i64)) (h:DataW.trod enc P w base (fun _=>true) held n t cs = some y):∃ i:Int,I64 i ∧ CellsAre w cs 1 (fun _=>.int .i64 i):=by
 obtain ⟨i,rfl,hi⟩:=rd_int ht h
 exact ⟨i,hi,.one rfl rfl⟩
theorem rdr_slice {α:Type} {t e:TypeId} {sz:Nat} (c:α → Nat → AV) (Q:α → Prop) (d:α) (ht:P.underlying t = some (.slice e)) (hc:P.cellsOf e = sz) (hsz:0 < sz) (rd:∀ {n:Nat} {cs:List Value} {y:DataW H × List MemPlace},DataW.trod enc P w base (fun _=>true) held n e cs = some y → ∃ x,Q x ∧ CellsAre w cs sz (c x))
  {n:Nat} {cs:List Value} {y:DataW H × List MemPlace} (h:DataW.trod enc P w base (fun _=>true) held n t cs = some y) :
  ∃ (z:Bool) (l:List α),(l.length ≤ 9223372036854775807 ∧ ∀ x ∈ l,Q x) ∧ CellsAre w cs 1 (fun _=>.sl z false l.length sz (fun k=>c (l.getD k d))):=by
 have hmx:maxLen = 9223372036854775807:=rfl
 have h':=h
 rcases open_slice ht h with ⟨rfl,_⟩|⟨a,len,cap,m,n',D,Pl,rfl,hb,hl,hm,hmm,_,hx⟩
 ·refine ⟨true,[],⟨by simp,fun x hx=>by cases hx⟩,.one rfl ⟨none,0,rfl,by simp,by simp,fun h=>(by cases h),by simp,fun k hk=>absurd hk (Nat.not_lt_zero k)⟩⟩
 ·obtain ⟨A,len',cap',h0,hl',hn,hxx⟩:=rd_slice ht hc hsz h'
  injection h0 with e1 e2 e3
  subst e1;subst e2;subst e3
  have key:∀ i,i < len → ∃ x:α,Q x ∧ ∃ b off,(some a:Option Addr) = some ⟨b,off,none⟩ ∧ b < w.heap.size ∧ ∀ o,o < sz → ∃ u,w.cell? ⟨b,off + i * sz + o,none⟩ = some u ∧ u.oneCell' = true ∧ rep nobody w (c x o) g0 u:=fun i hi=>by
   obtain ⟨b,off,m,cs,z,hA,hb,hlen,hcell,ht'⟩:=hxx i hi
   obtain ⟨x,hq,hcs⟩:=rd ht'
   refine ⟨x,hq,b,off,hA,hb,fun o ho=>?_⟩
   obtain ⟨u,h1,h2⟩:=hcs.2 o ho
   exact ⟨u,(hcell o ho).trans h1,h2⟩
  obtain ⟨f,hf⟩:∃ f:Nat → α,∀ i,i < len → Q (f i) ∧ ∃ b off,(some a:Option Addr) = some ⟨b,off,none⟩ ∧ b < w.heap.size ∧ ∀ o,o < sz → ∃ u,w.cell? ⟨b,off + i * sz + o,none⟩ = some u ∧ u.oneCell' = true ∧ rep nobody w (c (f i) o) g0 u:=by
   refine ⟨fun i=>open Classical in if hi:i < len then (key i hi).choose else d,fun i hi=>?_⟩
   simp only [hi,dif_pos]
   exact (key i hi).choose_spec
  have hlen:((List.range len).map f).length = len:=by simp
  refine ⟨false,(List.range len).map f,⟨by rw [hlen];omega,fun x hx=>?_⟩,?_⟩
  ·obtain ⟨k,hk,rfl⟩:=List.mem_map.1 hx
   exact (hf k (by simpa using hk)).1
  ·refine .one rfl ⟨some a,cap,by rw [hlen],by simp,by simp,fun h=>(by cases h),by rw [hlen];exact hl,fun k hk o ho=>?_⟩
   rw [hlen] at hk
   obtain ⟨_,b,off,h1,h2,h3⟩:=hf k hk
   obtain ⟨u,h4,h5,h6⟩:=h3 o ho
   have hg:((List.range len).map f).getD k d = f k:=by simp [List.getD,hk]
   exact ⟨b,off,u,h1,h2,fun h=>h,h4,h5,by show rep nobody w (c (((List.range len).map f).getD k d) o) g0 u;rw [hg];exact h6⟩
theorem rdr_field {t:TypeId} {fs:Array Field} {n:Nat} {cs:List Value} {y:DataW H × List MemPlace} (ht:P.underlying t = some (.struct fs)) (h:DataW.trod enc P w base (fun _=>true) held n t cs = some y):cs.length = P.cellsOf t ∧ ∀ (k:Nat) (f:Field),fs[k]? = some f → ∃ m x,DataW.trod enc P w base (fun _=>true) held m f.type ((cs.drop f.offset).take (P.cellsOf f.type)) = some x:=by
 obtain ⟨xs,m,_,rfl,hl,hlen,hf⟩:=DataW.trod_struct ht h
 refine ⟨hl,fun k f hk=>?_⟩
 have hk':k < fs.size:=by
  rcases Nat.lt_or_ge k fs.size with h|h
  ·exact h
  ·rw [Array.getElem?_eq_none h] at hk;cases hk
 have:=hf k f hk
 rw [List.getElem?_eq_getElem (by omega)] at this
 exact ⟨m,_,this⟩
/-- Each field reads. -/
def FRd (enc:TypeId × Value → H) (P:Program) (w:World) (base:Nat) (held:Bool) (cs:List Value):List Field → Prop
 | []=>True
 | f :: fs=>(∃ m x,DataW.trod enc P w base (fun _=>true) held m f.type ((cs.drop f.offset).take (P.cellsOf f.type)) = some x) ∧ FRd enc P w base held cs fs
theorem FRd.of {cs:List Value}:∀ {l:List Field},(∀ f ∈ l,∃ m x,DataW.trod enc P w base (fun _=>true) held m f.type ((cs.drop f.offset).take (P.cellsOf f.type)) = some x) → FRd enc P w base held cs l
 | [],_=>trivial
 | _ :: _,h=>⟨h _ List.mem_cons_self,FRd.of fun f hf=>h f (List.mem_cons_of_mem _ hf)⟩
theorem rdr_fields {t:TypeId} {fs:Array Field} {n:Nat} {cs:List Value} {y:DataW H × List MemPlace} (ht:P.underlying t = some (.struct fs)) (h:DataW.trod enc P w base (fun _=>true) held n t cs = some y):cs.length = P.cellsOf t ∧ FRd enc P w base held cs fs.toList:=by
 obtain ⟨h1,h2⟩:=rdr_field ht h
 refine ⟨h1,FRd.of fun f hf=>?_⟩
 obtain ⟨k,hk,rfl⟩:=List.getElem_of_mem hf
 exact h2 k _ (by simp)
end
end Go.Proofs.Ytdipcdallenmkaa

namespace Go.Proofs.Ytdipcdallenmkaa
open Go.RowKit Go.ChangeShapes Go.WideShapes Go.Deep

section
variable {H:Type} {enc:TypeId × Value → H} {w:World} {base:Nat} {held:Bool}
theorem csz : Try.prog.cellsOf 3 = 1 ∧ Try.prog.cellsOf 28 = 1 ∧ Try.prog.cellsOf 4 = 1 ∧ Try.prog.cellsOf 30 = 6 ∧ Try.prog.cellsOf 22 = 1 ∧ Try.prog.cellsOf 54 = 3 ∧ Try.prog.cellsOf 23 = 1 ∧ Try.prog.cellsOf 25 = 3 ∧ Try.prog.cellsOf 27 = 6:=by
 refine ⟨?_,?_,?_,?_,?_,?_,?_,?_,?_⟩ <;> kernel_rfl
theorem rt_int {n:Nat} {cs:List Value} {y:DataW H × List MemPlace} (h:DataW.trod enc Try.prog w base (fun _=>true) held n 3 cs = some y):∃ i:Int,I64 i ∧ CellsAre w cs 1 (fun _=>AI i):=rdr_int Try.underlying3 h
theorem rt_bool {n:Nat} {cs:List Value} {y:DataW H × List MemPlace} (h:DataW.trod enc Try.prog w base (fun _=>true) held n 4 cs = some y):∃ b:Bool,CellsAre w cs 1 (fun _=>.bool b):=by
 obtain ⟨b,rfl,_⟩:=DataW.trod_bool Try.underlying4 h
 exact ⟨b,.one rfl rfl⟩
theorem rt_ints {n:Nat} {cs:List Value} {y:DataW H × List MemPlace} (h:DataW.trod enc Try.prog w base (fun _=>true) held n 28 cs = some y):∃ (z:Bool) (l:List Int),(l.length ≤ 9223372036854775807 ∧ ∀ x ∈ l,I64 x) ∧ CellsAre w cs 1 (fun _=>aInts z false l) :=
 rdr_slice (fun (x:Int) _=>AI x) I64 0 Try.underlying28 csz.1 (by omega) rt_int h
theorem rt_person {n:Nat} {cs:List Value} {y:DataW H × List MemPlace} (h:DataW.trod enc Try.prog w base (fun _=>true) held n 30 cs = some y):∃ x:PFl × Person,(I64 x.2.fields ∧ I64 x.2.clears ∧ I64 x.2.fee) ∧ CellsAre w cs 6 (cPerson x.1 x.2):=by
 obtain ⟨hl,⟨_,_,h0⟩,⟨_,_,h1⟩,⟨_,_,h2⟩,⟨_,_,h3⟩,⟨_,_,h4⟩,⟨_,_,h5⟩,_⟩:=rdr_fields Try.underlying30 h
 simp only [csz.1,csz.2.1,csz.2.2.1] at h0 h1 h2 h3 h4 h5
 obtain ⟨z0,a,_,c0⟩:=rt_ints h0
 obtain ⟨b,hb,c1⟩:=rt_int h1
 obtain ⟨c,hc,c2⟩:=rt_int h2
 obtain ⟨z3,d,_,c3⟩:=rt_ints h3
 obtain ⟨e,c4⟩:=rt_bool h4
 obtain ⟨f,hf,c5⟩:=rt_int h5
 refine ⟨(⟨z0,false,z3,false⟩,⟨a,b,c,d,e,f⟩),⟨hb,hc,hf⟩,by rw [hl];exact csz.2.2.2.1,fun o ho=>?_⟩
 rcases (show o = 0 ∨ o = 1 ∨ o = 2 ∨ o = 3 ∨ o = 4 ∨ o = 5 by omega) with rfl|rfl|rfl|rfl|rfl|rfl
 ·exact c0.sub (o:=0) (by omega)
 ·exact c1.sub (o:=0) (by omega)
 ·exact c2.sub (o:=0) (by omega)
 ·exact c3.sub (o:=0) (by omega)
 ·exact c4.sub (o:=0) (by omega)
 ·exact c5.sub (o:=0) (by omega)
theorem rt_people {n:Nat} {cs:List Value} {y:DataW H × List MemPlace} (h:DataW.trod enc Try.prog w base (fun _=>true) held n 22 cs = some y):∃ (z:Bool) (pf:Nat → PFl) (l:List Person),(l.length ≤ 9223372036854775807 ∧ ∀ x ∈ l,I64 x.fields ∧ I64 x.clears ∧ I64 x.fee) ∧ CellsAre w cs 1 (fun _=>aPeople z false pf l):=by
 obtain ⟨z,l,⟨h1,h2⟩,c⟩:=rdr_slice (fun (x:PFl × Person)=>cPerson x.1 x.2) (fun x=>I64 x.2.fields ∧ I64 x.2.clears ∧ I64 x.2.fee) (⟨true,true,true,true⟩,ps0) Try.underlying22 csz.2.2.2.1 (by omega) rt_person h
 have hb:∀ k,(l.map Prod.snd).getD k ps0 = (l.getD k (⟨true,true,true,true⟩,ps0)).2:=fun k=>by
  simp only [List.getD,List.getElem?_map]
  cases l[k]? <;> rfl
 refine ⟨z,fun k=>(l.getD k (⟨true,true,true,true⟩,ps0)).1,l.map Prod.snd,⟨by simpa using h1,fun x hx=>?_⟩,?_⟩
 ·obtain ⟨y,hy,rfl⟩:=List.mem_map.1 hx
  exact h2 y hy
 ·simp only [aPeople,List.length_map,hb]
  exact c
theorem rt_law {n:Nat} {cs:List Value} {y:DataW H × List MemPlace} (h:DataW.trod enc Try.prog w base (fun _=>true) held n 54 cs = some y):∃ x:LawT,True ∧ CellsAre w cs 3 (cLaw x):=by
 obtain ⟨hl,⟨_,_,h0⟩,⟨_,_,h1⟩,⟨_,_,h2⟩,_⟩:=rdr_fields Try.underlying54 h
 simp only [csz.1,csz.2.2.1] at h0 h1 h2
 obtain ⟨a,_,c0⟩:=rt_int h0
 obtain ⟨b,_,c1⟩:=rt_int h1
 obtain ⟨c,c2⟩:=rt_bool h2
 refine ⟨⟨a,b,c⟩,trivial,by rw [hl];exact csz.2.2.2.2.2.1,fun o ho=>?_⟩
 rcases (show o = 0 ∨ o = 1 ∨ o = 2 by omega) with rfl|rfl|rfl
 ·exact c0.sub (o:=0) (by omega)
 ·exact c1.sub (o:=0) (by omega)
 ·exact c2.sub (o:=0) (by omega)
theorem rt_laws {n:Nat} {cs:List Value} {y:DataW H × List MemPlace} (h:DataW.trod enc Try.prog w base (fun _=>true) held n 23 cs = some y):∃ (z:Bool) (l:List LawT),(l.length ≤ 9223372036854775807 ∧ ∀ x ∈ l,True) ∧ CellsAre w cs 1 (fun _=>aLaws z false l) :=
 rdr_slice cLaw (fun _=>True) lw0 Try.underlying23 csz.2.2.2.2.2.1 (by omega) rt_law h
theorem rt_crew {n:Nat} {cs:List Value} {y:DataW H × List MemPlace} (h:DataW.trod enc Try.prog w base (fun _=>true) held n 25 cs = some y):∃ (f:CFl) (c:Crew),(I64 c.langs ∧ ∀ x ∈ c.people,I64 x.fields ∧ I64 x.clears ∧ I64 x.fee) ∧ CellsAre w cs 3 (cCrew f c):=by
 obtain ⟨hl,⟨_,_,h0⟩,⟨_,_,h1⟩,⟨_,_,h2⟩,_⟩:=rdr_fields Try.underlying25 h
 simp only [csz.1,csz.2.2.2.2.1,csz.2.2.2.2.2.2.1] at h0 h1 h2
 obtain ⟨a,ha,c0⟩:=rt_int h0
 obtain ⟨z1,pf,b,⟨_,hb⟩,c1⟩:=rt_people h1
 obtain ⟨z2,c,_,c2⟩:=rt_laws h2
 refine ⟨⟨z1,false,z2,false,pf⟩,⟨a,b,c⟩,⟨ha,hb⟩,by rw [hl];exact csz.2.2.2.2.2.2.2.1,fun o ho=>?_⟩
 rcases (show o = 0 ∨ o = 1 ∨ o = 2 by omega) with rfl|rfl|rfl
 ·exact c0.sub (o:=0) (by omega)
 ·exact c1.sub (o:=0) (by omega)
 ·exact c2.sub (o:=0) (by omega)
theorem rt_job {n:Nat} {cs:List Value} {y:DataW H × List MemPlace} (h:DataW.trod enc Try.prog w base (fun _=>true) held n 27 cs = some y):∃ j:Job,(I64 j.fr ∧ I64 j.to ∧ I64 j.client ∧ I64 j.field ∧ I64 j.kind ∧ I64 j.size) ∧ CellsAre w cs 6 (cJob j):=by
 obtain ⟨hl,⟨_,_,h0⟩,⟨_,_,h1⟩,⟨_,_,h2⟩,⟨_,_,h3⟩,⟨_,_,h4⟩,⟨_,_,h5⟩,_⟩:=rdr_fields Try.underlying27 h
 simp only [csz.1] at h0 h1 h2 h3 h4 h5
 obtain ⟨a,ha,c0⟩:=rt_int h0
 obtain ⟨b,hb,c1⟩:=rt_int h1
 obtain ⟨c,hc,c2⟩:=rt_int h2
 obtain ⟨d,hd,c3⟩:=rt_int h3
 obtain ⟨e,he,c4⟩:=rt_int h4
 obtain ⟨f,hf,c5⟩:=rt_int h5
 refine ⟨⟨a,b,c,d,e,f⟩,⟨ha,hb,hc,hd,he,hf⟩,by rw [hl];exact csz.2.2.2.2.2.2.2.2,fun o ho=>?_⟩
 rcases (show o = 0 ∨ o = 1 ∨ o = 2 ∨ o = 3 ∨ o = 4 ∨ o = 5 by omega) with rfl|rfl|rfl|rfl|rfl|rfl
 ·exact c0.sub (o:=0) (by omega)
 ·exact c1.sub (o:=0) (by omega)
 ·exact c2.sub (o:=0) (by omega)
 ·exact c3.sub (o:=0) (by omega)
 ·exact c4.sub (o:=0) (by omega)
 ·exact c5.sub (o:=0) (by omega)
end
end Go.Proofs.Ytdipcdallenmkaa
