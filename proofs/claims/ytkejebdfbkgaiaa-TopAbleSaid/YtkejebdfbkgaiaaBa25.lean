/- Teams: the program's Check and open. / Teams: the program's Contains, count, alone (printed by gen_tek.py). / Teams: the iterators teams and members. / Teams: the iterator members. -/
import Derived.Test.YtkejebdfbkgaiaaBa24
import Derived.RangeFuncNested
import Derived.RangeFuncBound
import Derived.RangeFuncCalls
import Derived.RangeFuncLeaves
import Derived.Shelf.Abstract
import Derived.Shelf.RegionOpen
import Derived.WalkKit
import Derived.OwnWalkIn
import Derived.TacticsInMore
import Derived.LoopNIn
import Derived.LoopIn
set_option linter.unusedSimpArgs false
set_option linter.unusedVariables false
namespace Go.Proofs.Ytkejebdfbkgaiaa
open Go.RowKit

abbrev fPer (f:CFl) (c:Crew):AV:=.fn 48 3 (ofL [.ip 3 (cCrew f c) 0,iFn fLev,iFn fCli])
abbrev fLan (f:CFl) (c:Crew):AV:=.fn 51 1 (ofL [.ip 3 (cCrew f c) 0])
theorem checkT_30 {c:Crew} {j:Job} (h:c.ok = false):checkT c j = 30:=by unfold checkT;rw [h];rfl
theorem checkT_31 {c:Crew} {j:Job} (h:c.ok = true) (k:Job.ok c j = false):checkT c j = 31:=by unfold checkT;rw [h,k];rfl
theorem crew_n1 {c:Crew} (h:c.ok = true) (k:c.people.all (Person.ok c.langs) = false):False:=by
 simp only [Crew.ok,Bool.and_eq_true] at h;rw [h.1.2] at k;cases k
theorem crew_n2 {c:Crew} (h:c.ok = true) (k:c.laws.all LawT.ok = false):False:=by
 simp only [Crew.ok,Bool.and_eq_true] at h;rw [h.2] at k;cases k
theorem crew_y {c:Crew} (h1:2 ≤ c.langs ∧ c.langs ≤ 5) (h2:c.people.length ≤ 8) (h3:c.laws.length = 4) (h4:c.people.all (Person.ok c.langs) = true) (h5:c.laws.all LawT.ok = true):c.ok = true:=by
 simp only [Crew.ok,inB,Bool.and_eq_true,decide_eq_true_eq]
 exact ⟨⟨⟨⟨h1,h2⟩,h3⟩,h4⟩,h5⟩
set_option maxHeartbeats 4000000
set_option maxRecDepth 100000
theorem check_ok (f:CFl) (c:Crew) (j:Job):ACall Try.prog 37 [aCrew f c,aJob j] [] (fun r h=>r = AI (checkT c j) ∧ h = []):=by
 (refine fcall_of mixed Try.func37 rfl (by decide) (hs:={ pub:=[6] }) ?k (ac:=?ac) ?c (rs:=?rs) ?r ?l ?H;(case k=>kernel_rfl);(case c=>(conv=>(lhs;cbv)));(case r=>(conv=>(lhs;cbv)));(case l=>exact Nat.le_of_ble_eq_true rfl))
 (repeat' ((try conv=>whnf);first|(with_reducible first|refine wT ?_|refine wF ?_|(refine wI (fun hq=>?_) (fun hq=>?_) <;> try simp only [zA,zE,zD,zJ,zB,zI,wK,wL] at hq)|refine wA ?_|refine wB ?_|refine wC ?_|refine wD ?_|refine wE ?_)|((with_reducible refine wN ?_ ?_);focus exact needA)|(with_reducible refine wG ?_)|(with_reducible refine wP ?_)))
 all_goals (try conv=>whnf)
 refine FWk.of [(2,.ip 3 (cCrew f c) 0),(3,.ip 6 (cJob j) 0),(6,iFn fCli),(7,fPer f c),(8,.fn 50 0 (ofL [])),(9,fLan f c)] [] [] (Cut.nil _) ⟨Ln.boxP (m:=3) (goneB rfl) rfl ⟨⟨⟨True.intro,Ln.A⟩,Ln.A⟩,Ln.A⟩ rfl,Ln.boxP (m:=6) (goneB rfl) rfl ⟨⟨⟨⟨⟨⟨True.intro,Ln.A⟩,Ln.A⟩,Ln.A⟩,Ln.A⟩,Ln.A⟩,Ln.A⟩ rfl,Ln.boxP (m:=1) (goneB rfl) rfl ⟨True.intro,Ln.A⟩ rfl,Ln.fnN ⟨⟨⟨True.intro,Ln.boxP (m:=3) (goneB rfl) rfl ⟨⟨⟨True.intro,Ln.A⟩,Ln.A⟩,Ln.A⟩ rfl⟩,Ln.boxP (m:=1) (goneB rfl) rfl ⟨True.intro,Ln.A⟩ rfl⟩,Ln.boxP (m:=1) (goneB rfl) rfl ⟨True.intro,Ln.A⟩ rfl⟩,Ln.A,Ln.fnN ⟨True.intro,Ln.boxP (m:=3) (goneB rfl) rfl ⟨⟨⟨True.intro,Ln.A⟩,Ln.A⟩,Ln.A⟩ rfl⟩,True.intro⟩ ?_
 (repeat' ((try conv=>whnf);first|(with_reducible first|refine wT ?_|refine wF ?_|(refine wI (fun hq=>?_) (fun hq=>?_) <;> try simp only [zA,zE,zD,zJ,zB,zI,wK,wL] at hq)|refine wA ?_|refine wB ?_|refine wC ?_|refine wD ?_|refine wE ?_)|((with_reducible refine wN ?_ ?_);focus exact needA)|(with_reducible refine wG ?_)|(refine FCall.pure ((pwithin_ok _ _ _)) ⟨Ln.sameB _ rfl,Ln.sameB _ rfl,Ln.sameB _ rfl,True.intro⟩ rfl ?_)|(refine FCall.pure ((every_per _ _ f.pf 48 f c c.people (Person.ok c.langs) (by omega) (fun k _=>perc_ok f c (f.pf k) _ (by omega)))) ⟨Ln.sameB _ rfl,Ln.sameB _ rfl,True.intro⟩ rfl ?_)|(refine FCall.pure ((every_law _ _ 50 c.laws LawT.ok (by omega) (fun k _=>lawc_ok _))) ⟨Ln.sameB _ rfl,Ln.sameB _ rfl,True.intro⟩ rfl ?_)|(refine FCall.pure ((lan_ok f c _ (by omega))) ⟨Ln.sameB _ rfl,Ln.sameB _ rfl,True.intro⟩ rfl ?_)|(refine FCall.pure ((cli_ok _)) ⟨Ln.sameB _ rfl,True.intro⟩ rfl ?_)|(with_reducible refine wP ?_)))
 all_goals (try conv=>whnf)
 all_goals
  (refine ⟨⟨_,[],[],Cut.nil _,Ln.sameB _ rfl,?_,rfl⟩⟩)
  refine int_eq ?_
  first
   | exact (checkT_30 (not_of fun h=>by simp only [Crew.ok,inB,Bool.and_eq_true,decide_eq_true_eq] at h;omega)).symm
   | exact (checkT_30 (not_of fun h=>crew_n1 h (by assumption))).symm
   | exact (checkT_30 (not_of fun h=>crew_n2 h (by assumption))).symm
   | exact (checkT_31 (crew_y (by omega) (by omega) (by omega) (by assumption) (by assumption)) (not_of fun h=>by simp only [Job.ok,inB,Bool.and_eq_true,decide_eq_true_eq] at h;omega)).symm
   | exact (checkT_0.2 ⟨crew_y (by omega) (by omega) (by omega) (by assumption) (by assumption),by simp only [Job.ok,inB,Bool.and_eq_true,decide_eq_true_eq];omega⟩).symm
   | fail
theorem open_ok (f:CFl) (c:Crew) (j:Job):ACall Try.prog 26 [aCrew f c,aJob j] [] (fun r h=>r = (if checkT c j = 0 then .tup 2 (ofL [pTask f c j (lawOf c j),AI 0]) else .tup 2 (ofL [.nilp,AI (checkT c j)])) ∧ h = []):=by
 (refine fcall_of mixed Try.func26 rfl (by decide) (hs:={}) ?k (ac:=?ac) ?c (rs:=?rs) ?r ?l ?H;(case k=>kernel_rfl);(case c=>(conv=>(lhs;cbv)));(case r=>(conv=>(lhs;cbv)));(case l=>exact Nat.le_of_ble_eq_true rfl))
 (repeat' ((try conv=>whnf);first|(with_reducible first|refine wT ?_|refine wF ?_|(refine wI (fun hq=>?_) (fun hq=>?_) <;> try simp only [zA,zE,zD,zJ,zB,zI,wK,wL] at hq)|refine wA ?_|refine wB ?_|refine wC ?_|refine wD ?_|refine wE ?_)|((with_reducible refine wN ?_ ?_);focus exact needA)|(with_reducible refine wG ?_)|(refine FCall.pure ((check_ok _ _ _)) ⟨Ln.sameB _ rfl,Ln.sameB _ rfl,True.intro⟩ rfl ?_)|(with_reducible refine wP ?_)))
 all_goals (try conv=>whnf)
 ·(refine ⟨⟨_,[],[],Cut.nil _,Ln.sameB _ rfl,?_,rfl⟩⟩)
  rw [if_neg hq];rfl
 ·obtain ⟨hc,hj⟩:=checkT_0.1 hq
  obtain ⟨d1,d2,d3,d4,d5⟩:=crew_d hc
  obtain ⟨j1,j2,j3,j4,j5,j6,j7⟩:=job_d hj
  (repeat' ((try conv=>whnf);first|(with_reducible first|refine wT ?_|refine wF ?_|(refine wI (fun hq=>?_) (fun hq=>?_) <;> try simp only [zA,zE,zD,zJ,zB,zI,wK,wL] at hq)|refine wA ?_|refine wB ?_|refine wC ?_|refine wD ?_|refine wE ?_)|((with_reducible refine wN ?_ ?_);focus exact needA)|(with_reducible refine wG ?_)|(with_reducible refine wP ?_)))
  all_goals (try conv=>whnf)
  rw [if_pos hq]
  exact ⟨⟨.tup 2 (ofL [pTask f c j (lawOf c j),AI 0]),[],[],Cut.nil _,Ln.tupN ⟨⟨True.intro,Ln.boxP (m:=12) (goneB rfl) rfl ⟨⟨⟨⟨⟨⟨⟨⟨⟨⟨⟨⟨True.intro,Ln.A⟩,Ln.A⟩,Ln.A⟩,Ln.A⟩,Ln.A⟩,Ln.A⟩,Ln.A⟩,Ln.A⟩,Ln.A⟩,Ln.A⟩,Ln.A⟩,Ln.A⟩ rfl⟩,Ln.A⟩,rfl,rfl⟩⟩
theorem open_y (f:CFl) (c:Crew) (j:Job) (h:checkT c j = 0):ACall Try.prog 26 [aCrew f c,aJob j] [] (fun r h=>r = .tup 2 (ofL [pTask f c j (lawOf c j),AI 0]) ∧ h = []):=by
 have:=open_ok f c j
 rwa [if_pos h] at this
theorem open_n (f:CFl) (c:Crew) (j:Job) (h:checkT c j ≠ 0):ACall Try.prog 26 [aCrew f c,aJob j] [] (fun r h=>r = .tup 2 (ofL [.nilp,AI (checkT c j)]) ∧ h = []):=by
 have:=open_ok f c j
 rwa [if_neg h] at this
theorem team_n (f:CFl) (c:Crew) (j:Job) (m:Int) (h:checkT c j ≠ 0):ACall Try.prog 30 [aCrew f c,aJob j,AI m] [] (fun r h=>r = .tup 2 (ofL [.nilp,AI (checkTm c j m)]) ∧ h = []):=by
 rw [checkTm_c h]
 (refine fcall_of mixed Try.func30 rfl (by decide) (hs:={}) ?k (ac:=?ac) ?c (rs:=?rs) ?r ?l ?H;(case k=>kernel_rfl);(case c=>(conv=>(lhs;cbv)));(case r=>(conv=>(lhs;cbv)));(case l=>exact Nat.le_of_ble_eq_true rfl))
 (repeat' ((try conv=>whnf);first|(with_reducible first|refine wT ?_|refine wF ?_|(refine wI (fun hq=>?_) (fun hq=>?_) <;> try simp only [zA,zE,zD,zJ,zB,zI,wK,wL] at hq)|refine wA ?_|refine wB ?_|refine wC ?_|refine wD ?_|refine wE ?_)|((with_reducible refine wN ?_ ?_);focus exact needA)|(with_reducible refine wG ?_)|(refine FCall.pure ((open_n _ _ _ h)) ⟨Ln.sameB _ rfl,Ln.sameB _ rfl,True.intro⟩ rfl ?_)|(with_reducible refine wP ?_)))
 all_goals (try conv=>whnf)
 (refine ⟨⟨_,[],[],Cut.nil _,Ln.sameB _ rfl,?_,rfl⟩⟩)
 rfl
theorem team_y (f:CFl) (c:Crew) (j:Job) (m:Int) (h:checkT c j = 0):ACall Try.prog 30 [aCrew f c,aJob j,AI m] [] (fun r h=>r = .tup 2 (ofL [pTask f c j (lawOf c j),AI (checkTm c j m)]) ∧ h = []):=by
 have hd:=(crew_d (checkT_0.1 h).1).2.1
 have hp:=pow_le hd
 (refine fcall_of mixed Try.func30 rfl (by decide) (hs:={}) ?k (ac:=?ac) ?c (rs:=?rs) ?r ?l ?H;(case k=>kernel_rfl);(case c=>(conv=>(lhs;cbv)));(case r=>(conv=>(lhs;cbv)));(case l=>exact Nat.le_of_ble_eq_true rfl))
 (repeat' ((try conv=>whnf);first|(with_reducible first|refine wT ?_|refine wF ?_|(refine wI (fun hq=>?_) (fun hq=>?_) <;> try simp only [zA,zE,zD,zJ,zB,zI,wK,wL] at hq)|refine wA ?_|refine wB ?_|refine wC ?_|refine wD ?_|refine wE ?_)|((with_reducible refine wN ?_ ?_);focus exact needA)|(with_reducible first|refine FBit.hasT rfl (by assumption) ?_|refine FBit.hasF rfl (by assumption) ?_|refine FBit.shrN rfl (by omega) ?_|refine FBit.half rfl ?_|refine FBit.shl1 rfl (by omega) ?_|refine Fits.inU (by omega) ?_|refine FBit.shrNI rfl (by omega) ?_|refine FBit.shrIN rfl (by omega) (by omega) ?_|refine FBit.shrI rfl (by omega) (by omega) ?_|refine FBit.shl1I rfl (by omega) ?_)|(with_reducible refine FBit.has rfl (fun hq=>?_) (fun hq=>?_))|(with_reducible first|refine FBit.and1 rfl ?_|refine FBit.andN rfl (by omega) (by omega) ?_|refine FBit.orN rfl (by omega) (by omega) ?_|refine FBit.andNotN rfl (by omega) (by omega) ?_)|(with_reducible refine wG ?_)|(refine FCall.pure ((open_y _ _ _ h)) ⟨Ln.sameB _ rfl,Ln.sameB _ rfl,True.intro⟩ rfl ?_)|(refine FCall.pure ((pwithin_ok _ _ _)) ⟨Ln.sameB _ rfl,Ln.sameB _ rfl,Ln.sameB _ rfl,True.intro⟩ rfl ?_)|(with_reducible refine wP ?_)))
 all_goals (try conv=>whnf)
 all_goals (refine ⟨⟨_,[],[],Cut.nil _,Ln.sameB _ rfl,?_,rfl⟩⟩)
 all_goals first|(rw [checkTm_t h (by unfold isTeamT;simp only [inB,decide_eq_true_eq];exact hq)];rfl)|(rw [checkTm_f h (by unfold isTeamT;simp only [inB,decide_eq_false_iff_not];exact hq)];rfl)
end Go.Proofs.Ytkejebdfbkgaiaa

namespace Go.Proofs.Ytkejebdfbkgaiaa
open Go.RowKit

theorem any_idx {q:Int → Bool} {l:List Int}:decide (0 ≤ idxP l.length (fun k=>q (l.getD k 0)) l.length 0) = l.any q:=by
 rw [Bool.eq_iff_iff]
 simp only [decide_eq_true_eq,idxP_any,List.any_eq_true]
 constructor
 ·rintro ⟨j,_,hj,h⟩
  have hj:j < l.length:=by omega
  exact ⟨l[j],List.getElem_mem hj,by simpa [List.getD,List.getElem?_eq_getElem hj] using h⟩
 ·rintro ⟨x,hx,h⟩
  obtain ⟨k,hk,rfl⟩:=List.getElem_of_mem hx
  exact ⟨k,by omega,by omega,by simpa [List.getD,List.getElem?_eq_getElem hk] using h⟩
def perms3 : List (List Nat):=[[0,1,2],[0,2,1],[1,0,2],[1,2,0],[2,0,1],[2,1,0]]
abbrev Lof (X:Nat → Int) (r:List Nat):List (List Int × AV):=r.map fun (k:Nat)=>([(k:Int)],AI (X k))
theorem Lof_get {X:Nat → Int} {r:List Nat} {i:Nat} (h:i < r.length):(Lof X r).getD i default = ([((r.getD i 0:Nat):Int)],AI (X (r.getD i 0))):=by
 simp [List.getD,h]
theorem perms_d {r:List Nat} (h:r ∈ perms3):r.length = 3 ∧ ∀ i,i < 3 → r.getD i 0 < 3:=by
 simp only [perms3,List.mem_cons,List.not_mem_nil,or_false] at h
 rcases h with rfl|rfl|rfl|rfl|rfl|rfl
 all_goals exact ⟨rfl,fun i hi=>by rcases (show i = 0 ∨ i = 1 ∨ i = 2 by omega) with rfl|rfl|rfl <;> decide⟩
theorem pow3 {k:Nat} (h:k < 3):2 ^ k < 8:=by rcases (show k = 0 ∨ k = 1 ∨ k = 2 by omega) with rfl|rfl|rfl <;> decide
theorem nodup_snoc {s:List Nat} {i:Nat} (h:s.Nodup) (hn:¬ i ∈ s):(s ++ [i]).Nodup:=by
 rw [List.nodup_append]
 refine ⟨h,by simp,fun a ha b hb e=>?_⟩
 rw [List.mem_singleton] at hb
 subst hb;subst e;exact hn ha
theorem seen_lt {s:List Nat} {i:Nat} (h:∀ x ∈ s,x < 3) (hi:i < 3):∀ x ∈ s ++ [i],x < 3:=fun x hx=>by
 rcases List.mem_append.1 hx with hx|hx
 ·exact h x hx
 ·rw [List.mem_singleton] at hx;omega
theorem inv0 {r:List Nat} {b:Nat → Nat} (h:r ∈ perms3):r ∈ perms3 ∧ ([]:List Nat).Nodup ∧ (∀ i ∈ ([]:List Nat),i < 3) ∧ 0 = orL (([]:List Nat).map fun i=>b (r.getD i 0)) ∧ 0 < 8:=⟨h,List.nodup_nil,(fun i hi=>by cases hi),rfl,by decide⟩
def bitX (X:Nat → Int) (k:Nat):Nat:=if X k = 0 then 2 ^ k else 0
theorem bitX_lt {X:Nat → Int} {k:Nat} (h:k < 3):bitX X k < 8:=by
 unfold bitX
 rcases (show k = 0 ∨ k = 1 ∨ k = 2 by omega) with rfl|rfl|rfl <;> split <;> decide
theorem orL_snoc : ∀ (l:List Nat) (x:Nat),orL (l ++ [x]) = orL l ||| x
 | [],x=>by simp [orL]
 | y :: l,x=>by simp only [List.cons_append,orL,orL_snoc l x,Nat.or_assoc]
theorem seen_all {s:List Nat} {r:List Nat} {b:Nat → Nat} (hr:r ∈ perms3) (h1:s.length = 3) (h2:s.Nodup) (h3:∀ i ∈ s,i < 3):orL (s.map fun i=>b (r.getD i 0)) = b 0 ||| b 1 ||| b 2:=by
 match s,h1 with
 | [x,y,z],_ =>
  simp only [List.nodup_cons,List.mem_cons,List.not_mem_nil,or_false,not_or] at h2
  have hx:=h3 x (by simp)
  have hy:=h3 y (by simp)
  have hz:=h3 z (by simp)
  clear h3
  have hc:(x = 0 ∧ y = 1 ∧ z = 2) ∨ (x = 0 ∧ y = 2 ∧ z = 1) ∨ (x = 1 ∧ y = 0 ∧ z = 2) ∨ (x = 1 ∧ y = 2 ∧ z = 0) ∨ (x = 2 ∧ y = 0 ∧ z = 1) ∨ (x = 2 ∧ y = 1 ∧ z = 0):=by omega
  simp only [perms3,List.mem_cons,List.not_mem_nil,or_false] at hr
  rcases hc with ⟨rfl,rfl,rfl⟩|⟨rfl,rfl,rfl⟩|⟨rfl,rfl,rfl⟩|⟨rfl,rfl,rfl⟩|⟨rfl,rfl,rfl⟩|⟨rfl,rfl,rfl⟩
  all_goals rcases hr with rfl|rfl|rfl|rfl|rfl|rfl
  all_goals
   simp only [List.map_cons,List.map_nil,orL,Nat.or_zero,List.getD_cons_zero,List.getD_cons_succ]
   ac_rfl
/-- What a person keeps of the rules for each member alone: 0 or 1. -/
def keepX (p:Person) (j:Job):Nat → Int
 | 0=>if !tiedT p j.client then 1 else 0
 | 1=>((p.fields.toNat >>> j.field.toNat % 2:Nat):Int)
 | _=>((p.clears.toNat >>> j.kind.toNat % 2:Nat):Int)
theorem keep_alone (p:Person) (j:Job):bitX (keepX p j) 0 ||| bitX (keepX p j) 1 ||| bitX (keepX p j) 2 = alone3 p j:=by
 unfold alone3 bitX
 simp only [keepX,bit_mod]
 cases tiedT p j.client <;> cases p.fields.toNat.testBit j.field.toNat <;> cases p.clears.toNat.testBit j.kind.toNat <;> rfl
set_option maxHeartbeats 4000000
set_option maxRecDepth 100000
theorem index_ok (z e:Bool) (l:List Int) (n:Int) (hl:l.length ≤ 1000):ACall Try.prog 75 [aInts z e l,AI n] [] (fun r h=>r = AI (idxP l.length (fun k=>decide (l.getD k 0 = n)) l.length 0) ∧ h = []):=by
 (refine fcall_of mixed Try.func75 rfl (by decide) (hs:={}) ?k (ac:=?ac) ?c (rs:=?rs) ?r ?l ?H;(case k=>kernel_rfl);(case c=>(conv=>(lhs;cbv)));(case r=>(conv=>(lhs;cbv)));(case l=>exact Nat.le_of_ble_eq_true rfl))
 (repeat' ((try conv=>whnf);first|(with_reducible first|refine wT ?_|refine wF ?_|(refine wI (fun hq=>?_) (fun hq=>?_) <;> try simp only [zA,zE,zD,zJ,zB,zI,wK,wL] at hq)|refine wA ?_|refine wB ?_|refine wC ?_|refine wD ?_|refine wE ?_)|((with_reducible refine wN ?_ ?_);focus exact needA)|(with_reducible refine wG ?_)|(with_reducible refine wP ?_)))
 all_goals (try conv=>whnf)
 refine FLoop.of (ACalls.mono _) (X:=Nat) (fun k=>[(0,aInts z e l),(1,AI n),(7,AI l.length),(8,AI k)]) (fun _=>[]) (fun k=>k ≤ l.length ∧ idxP l.length (fun k=>decide (l.getD k 0 = n)) l.length 0 = idxP l.length (fun k=>decide (l.getD k 0 = n)) (l.length - k) k) (fun k=>l.length - k) 0 ⟨⟨Nat.zero_le _,rfl⟩,[],Cut.A,allA⟩ ?_
 rintro k ⟨hk,hL⟩
 by_cases hlt:k < l.length
 ·obtain ⟨m,hm⟩:∃ m,l.length - k = m + 1:=⟨l.length - k - 1,by omega⟩
  rw [hm,idxP] at hL
  (repeat' ((try conv=>whnf);first|(with_reducible first|refine wT ?_|refine wF ?_|(refine wI (fun hq=>?_) (fun hq=>?_) <;> try simp only [zA,zE,zD,zJ,zB,zI,wK,wL] at hq)|refine wA ?_|refine wB ?_|refine wC ?_|refine wD ?_|refine wE ?_)|((with_reducible refine wN ?_ ?_);focus exact needA)|(with_reducible refine wG ?_)|(with_reducible refine wP ?_)))
  all_goals (try conv=>whnf)
  ·(refine ⟨⟨_,[],[],Cut.nil _,Ln.sameB _ rfl,?_,rfl⟩⟩)
   rw [hL,if_pos (decide_eq_true (by omega))]
  ·(exact ⟨⟨(k + 1),⟨hlt,by rw [hL,if_neg (by simp only [decide_eq_true_eq];omega),show l.length - (k + 1) = m by omega]⟩,by show _ < _;omega,[],Cut.A,allA⟩⟩)
 ·rw [show l.length - k = 0 by omega,idxP] at hL
  (repeat' ((try conv=>whnf);first|(with_reducible first|refine wT ?_|refine wF ?_|(refine wI (fun hq=>?_) (fun hq=>?_) <;> try simp only [zA,zE,zD,zJ,zB,zI,wK,wL] at hq)|refine wA ?_|refine wB ?_|refine wC ?_|refine wD ?_|refine wE ?_)|((with_reducible refine wN ?_ ?_);focus exact needA)|(with_reducible refine wG ?_)|(with_reducible refine wP ?_)))
  all_goals (try conv=>whnf)
  (refine ⟨⟨_,[],[],Cut.nil _,Ln.sameB _ rfl,?_,rfl⟩⟩)
  rw [hL]
theorem contains_ok (z e:Bool) (l:List Int) (n:Int) (hl:l.length ≤ 1000):ACall Try.prog 57 [aInts z e l,AI n] [] (fun r h=>r = .bool (l.any fun x=>decide (x = n)) ∧ h = []):=by
 (refine fcall_of mixed Try.func57 rfl (by decide) (hs:={}) ?k (ac:=?ac) ?c (rs:=?rs) ?r ?l ?H;(case k=>kernel_rfl);(case c=>(conv=>(lhs;cbv)));(case r=>(conv=>(lhs;cbv)));(case l=>exact Nat.le_of_ble_eq_true rfl))
 (repeat' ((try conv=>whnf);first|(with_reducible first|refine wT ?_|refine wF ?_|(refine wI (fun hq=>?_) (fun hq=>?_) <;> try simp only [zA,zE,zD,zJ,zB,zI,wK,wL] at hq)|refine wA ?_|refine wB ?_|refine wC ?_|refine wD ?_|refine wE ?_)|((with_reducible refine wN ?_ ?_);focus exact needA)|(with_reducible refine wG ?_)|(refine FCall.pure ((index_ok z e l n hl)) ⟨Ln.sameB _ rfl,Ln.sameB _ rfl,True.intro⟩ rfl ?_)|(with_reducible refine wP ?_)))
 all_goals (try conv=>whnf)
 (refine ⟨⟨_,[],[],Cut.nil _,Ln.sameB _ rfl,?_,rfl⟩⟩)
 rw [← any_idx]
theorem count_ok (b:Bool):ACall Try.prog 56 [.bool b] [] (fun r h=>r = AI (if b then 1 else 0) ∧ h = []):=by
 (refine fcall_of mixed Try.func56 rfl (by decide) (hs:={}) ?k (ac:=?ac) ?c (rs:=?rs) ?r ?l ?H;(case k=>kernel_rfl);(case c=>(conv=>(lhs;cbv)));(case r=>(conv=>(lhs;cbv)));(case l=>exact Nat.le_of_ble_eq_true rfl))
 (repeat' ((try conv=>whnf);first|(with_reducible first|refine wT ?_|refine wF ?_|(refine wI (fun hq=>?_) (fun hq=>?_) <;> try simp only [zA,zE,zD,zJ,zB,zI,wK,wL] at hq)|refine wA ?_|refine wB ?_|refine wC ?_|refine wD ?_|refine wE ?_)|((with_reducible refine wN ?_ ?_);focus exact needA)|(with_reducible refine wG ?_)|(with_reducible refine wP ?_)))
 all_goals (try conv=>whnf)
 all_goals
  (refine ⟨⟨_,[],[],Cut.nil _,Ln.sameB _ rfl,?_,rfl⟩⟩)
  rw [hq];rfl
theorem alone_ok (f:CFl) (c:Crew) (j:Job) (x:LawT) (g:PFl) (p:Person) (hp:Person.ok c.langs p = true) (hj:Job.ok c j = true):ACall Try.prog 39 [pTask f c j x,aPerson g p] [] (fun r h=>r = AU (alone3 p j) ∧ h = []):=by
 obtain ⟨p1,p2,p3,p4,p5,p6,p7⟩:=ps_d hp
 obtain ⟨j1,j2,j3,j4,j5,j6,j7⟩:=job_d hj
 (refine fcall_of mixed Try.func39 rfl (by decide) (hs:={ alt:=[(1,⟨[1,2,3,4,5,6,7,12,13,14,15,16,17,18,19,20,22,23,24,25,26,27,28,29,30],(.alt 0 [] (.alt 8 [9] (.alt 10 [] (.alt 11 [] (.alt 21 [] (.alt 31 [32] (.alt 33 [] .leaf .leaf) .leaf) (.alt 31 [] (.alt 21 [32] (.alt 33 [] .leaf .leaf) .leaf) .leaf)) (.alt 21 [] (.alt 11 [] (.alt 31 [32] (.alt 33 [] .leaf .leaf) .leaf) (.alt 31 [] (.alt 11 [32] (.alt 33 [] .leaf .leaf) .leaf) .leaf)) (.alt 31 [] (.alt 11 [] (.alt 21 [32] (.alt 33 [] .leaf .leaf) .leaf) (.alt 21 [] (.alt 11 [32] (.alt 33 [] .leaf .leaf) .leaf) .leaf)) .leaf))) (.alt 21 [] (.alt 10 [] (.alt 11 [] (.alt 31 [32] (.alt 33 [] .leaf .leaf) .leaf) (.alt 31 [] (.alt 11 [32] (.alt 33 [] .leaf .leaf) .leaf) .leaf)) (.alt 31 [] (.alt 10 [] (.alt 11 [32] (.alt 33 [] .leaf .leaf) .leaf) .leaf) .leaf)) (.alt 31 [] (.alt 10 [] (.alt 11 [] (.alt 21 [32] (.alt 33 [] .leaf .leaf) .leaf) (.alt 21 [] (.alt 11 [32] (.alt 33 [] .leaf .leaf) .leaf) .leaf)) (.alt 21 [] (.alt 10 [] (.alt 11 [32] (.alt 33 [] .leaf .leaf) .leaf) .leaf) .leaf)) .leaf))) (.alt 21 [] (.alt 8 [9] (.alt 10 [] (.alt 11 [] (.alt 31 [32] (.alt 33 [] .leaf .leaf) .leaf) (.alt 31 [] (.alt 11 [32] (.alt 33 [] .leaf .leaf) .leaf) .leaf)) (.alt 31 [] (.alt 10 [] (.alt 11 [32] (.alt 33 [] .leaf .leaf) .leaf) .leaf) .leaf)) (.alt 31 [] (.alt 8 [9] (.alt 10 [] (.alt 11 [32] (.alt 33 [] .leaf .leaf) .leaf) .leaf) .leaf) .leaf)) (.alt 31 [] (.alt 8 [9] (.alt 10 [] (.alt 11 [] (.alt 21 [32] (.alt 33 [] .leaf .leaf) .leaf) (.alt 21 [] (.alt 11 [32] (.alt 33 [] .leaf .leaf) .leaf) .leaf)) (.alt 21 [] (.alt 10 [] (.alt 11 [32] (.alt 33 [] .leaf .leaf) .leaf) .leaf) .leaf)) (.alt 21 [] (.alt 8 [9] (.alt 10 [] (.alt 11 [32] (.alt 33 [] .leaf .leaf) .leaf) .leaf) .leaf) .leaf)) .leaf))) (.alt 8 [9] (.alt 0 [] (.alt 10 [] (.alt 11 [] (.alt 21 [] (.alt 31 [32] (.alt 33 [] .leaf .leaf) .leaf) (.alt 31 [] (.alt 21 [32] (.alt 33 [] .leaf .leaf) .leaf) .leaf)) (.alt 21 [] (.alt 11 [] (.alt 31 [32] (.alt 33 [] .leaf .leaf) .leaf) (.alt 31 [] (.alt 11 [32] (.alt 33 [] .leaf .leaf) .leaf) .leaf)) (.alt 31 [] (.alt 11 [] (.alt 21 [32] (.alt 33 [] .leaf .leaf) .leaf) (.alt 21 [] (.alt 11 [32] (.alt 33 [] .leaf .leaf) .leaf) .leaf)) .leaf))) (.alt 21 [] (.alt 10 [] (.alt 11 [] (.alt 31 [32] (.alt 33 [] .leaf .leaf) .leaf) (.alt 31 [] (.alt 11 [32] (.alt 33 [] .leaf .leaf) .leaf) .leaf)) (.alt 31 [] (.alt 10 [] (.alt 11 [32] (.alt 33 [] .leaf .leaf) .leaf) .leaf) .leaf)) (.alt 31 [] (.alt 10 [] (.alt 11 [] (.alt 21 [32] (.alt 33 [] .leaf .leaf) .leaf) (.alt 21 [] (.alt 11 [32] (.alt 33 [] .leaf .leaf) .leaf) .leaf)) (.alt 21 [] (.alt 10 [] (.alt 11 [32] (.alt 33 [] .leaf .leaf) .leaf) .leaf) .leaf)) .leaf))) (.alt 10 [] (.alt 0 [] (.alt 11 [] (.alt 21 [] (.alt 31 [32] (.alt 33 [] .leaf .leaf) .leaf) (.alt 31 [] (.alt 21 [32] (.alt 33 [] .leaf .leaf) .leaf) .leaf)) (.alt 21 [] (.alt 11 [] (.alt 31 [32] (.alt 33 [] .leaf .leaf) .leaf) (.alt 31 [] (.alt 11 [32] (.alt 33 [] .leaf .leaf) .leaf) .leaf)) (.alt 31 [] (.alt 11 [] (.alt 21 [32] (.alt 33 [] .leaf .leaf) .leaf) (.alt 21 [] (.alt 11 [32] (.alt 33 [] .leaf .leaf) .leaf) .leaf)) .leaf))) .leaf) .leaf)) .leaf)),[(0,[2,7,13,18,23,28]),(8,[13,18,23,28]),(10,[13,18,23,28]),(11,[13,18,23,28]),(21,[2,7,23,28]),(31,[2,7,13,18])]⟩)] }) ?k (ac:=?ac) ?c (rs:=?rs) ?r ?l ?H;(case k=>kernel_rfl);(case c=>(conv=>(lhs;cbv)));(case r=>(conv=>(lhs;cbv)));(case l=>exact Nat.le_of_ble_eq_true rfl))
 ·(repeat' ((try conv=>whnf);first|(with_reducible first|refine wT ?_|refine wF ?_|(refine wI (fun hq=>?_) (fun hq=>?_) <;> try simp only [zA,zE,zD,zJ,zB,zI,wK,wL] at hq)|refine wA ?_|refine wB ?_|refine wC ?_|refine wD ?_|refine wE ?_)|((with_reducible refine wN ?_ ?_);focus exact needA)|(refine FAlt.mk ?_ ?_)|(refine Need.mk (by unfold in64;omega) ?_)|(refine FCall.pure ((contains_ok _ _ _ _ (by omega))) ⟨Ln.sameB _ rfl,Ln.sameB _ rfl,True.intro⟩ rfl ?_)|(refine FCall.pure ((count_ok _)) ⟨Ln.sameB _ rfl,True.intro⟩ rfl ?_)|(refine FBit.shrI rfl (by omega) (by omega) ?_)|(refine FBit.and1 rfl ?_)|(with_reducible refine wP ?_)))
  all_goals (try conv=>whnf)
  all_goals (first|refine FLoop.of3 (ACalls.mono _) (fun (r:List Nat) (v:Nat) (s:List Nat)=>[(4,AU v),(37,.ptr 1 0)]) (fun r v s=>[.mp 0 (Lof (keepX p j) r),.mit (.mpv 0) 3 s]) (fun r v s=>r ∈ perms3 ∧ s.Nodup ∧ (∀ i ∈ s,i < 3) ∧ v = orL (s.map fun i=>bitX (keepX p j) (r.getD i 0)) ∧ v < 8) (fun r v s=>3 - s.length) [0,1,2] 0 [] ⟨inv0 (by decide),[1,2],wO rfl rfl rfl (wV rfl LnB.mpS (wV rfl (LnB.mitS rfl) wX)),allA⟩ ?body|refine FLoop.of3 (ACalls.mono _) (fun (r:List Nat) (v:Nat) (s:List Nat)=>[(4,AU v),(37,.ptr 1 0)]) (fun r v s=>[.mp 0 (Lof (keepX p j) r),.mit (.mpv 0) 3 s]) (fun r v s=>r ∈ perms3 ∧ s.Nodup ∧ (∀ i ∈ s,i < 3) ∧ v = orL (s.map fun i=>bitX (keepX p j) (r.getD i 0)) ∧ v < 8) (fun r v s=>3 - s.length) [0,2,1] 0 [] ⟨inv0 (by decide),[1,2],wO rfl rfl rfl (wV rfl LnB.mpS (wV rfl (LnB.mitS rfl) wX)),allA⟩ ?body|refine FLoop.of3 (ACalls.mono _) (fun (r:List Nat) (v:Nat) (s:List Nat)=>[(4,AU v),(37,.ptr 1 0)]) (fun r v s=>[.mp 0 (Lof (keepX p j) r),.mit (.mpv 0) 3 s]) (fun r v s=>r ∈ perms3 ∧ s.Nodup ∧ (∀ i ∈ s,i < 3) ∧ v = orL (s.map fun i=>bitX (keepX p j) (r.getD i 0)) ∧ v < 8) (fun r v s=>3 - s.length) [1,0,2] 0 [] ⟨inv0 (by decide),[1,2],wO rfl rfl rfl (wV rfl LnB.mpS (wV rfl (LnB.mitS rfl) wX)),allA⟩ ?body|refine FLoop.of3 (ACalls.mono _) (fun (r:List Nat) (v:Nat) (s:List Nat)=>[(4,AU v),(37,.ptr 1 0)]) (fun r v s=>[.mp 0 (Lof (keepX p j) r),.mit (.mpv 0) 3 s]) (fun r v s=>r ∈ perms3 ∧ s.Nodup ∧ (∀ i ∈ s,i < 3) ∧ v = orL (s.map fun i=>bitX (keepX p j) (r.getD i 0)) ∧ v < 8) (fun r v s=>3 - s.length) [1,2,0] 0 [] ⟨inv0 (by decide),[1,2],wO rfl rfl rfl (wV rfl LnB.mpS (wV rfl (LnB.mitS rfl) wX)),allA⟩ ?body|refine FLoop.of3 (ACalls.mono _) (fun (r:List Nat) (v:Nat) (s:List Nat)=>[(4,AU v),(37,.ptr 1 0)]) (fun r v s=>[.mp 0 (Lof (keepX p j) r),.mit (.mpv 0) 3 s]) (fun r v s=>r ∈ perms3 ∧ s.Nodup ∧ (∀ i ∈ s,i < 3) ∧ v = orL (s.map fun i=>bitX (keepX p j) (r.getD i 0)) ∧ v < 8) (fun r v s=>3 - s.length) [2,0,1] 0 [] ⟨inv0 (by decide),[1,2],wO rfl rfl rfl (wV rfl LnB.mpS (wV rfl (LnB.mitS rfl) wX)),allA⟩ ?body|refine FLoop.of3 (ACalls.mono _) (fun (r:List Nat) (v:Nat) (s:List Nat)=>[(4,AU v),(37,.ptr 1 0)]) (fun r v s=>[.mp 0 (Lof (keepX p j) r),.mit (.mpv 0) 3 s]) (fun r v s=>r ∈ perms3 ∧ s.Nodup ∧ (∀ i ∈ s,i < 3) ∧ v = orL (s.map fun i=>bitX (keepX p j) (r.getD i 0)) ∧ v < 8) (fun r v s=>3 - s.length) [2,1,0] 0 [] ⟨inv0 (by decide),[1,2],wO rfl rfl rfl (wV rfl LnB.mpS (wV rfl (LnB.mitS rfl) wX)),allA⟩ ?body|fail)
  case body =>
   rintro r v s ⟨hr,hs,hs3,hv,hv8⟩
   have hr3:=perms_d hr
   (repeat' ((try conv=>whnf);first|(with_reducible first|refine wT ?_|refine wF ?_|(refine wI (fun hq=>?_) (fun hq=>?_) <;> try simp only [zA,zE,zD,zJ,zB,zI,wK,wL] at hq)|refine wA ?_|refine wB ?_|refine wC ?_|refine wD ?_|refine wE ?_)|((with_reducible refine wN ?_ ?_);focus exact needA)|(with_reducible first|refine FBit.hasT rfl (by assumption) ?_|refine FBit.hasF rfl (by assumption) ?_|refine FBit.shrN rfl (by omega) ?_|refine FBit.half rfl ?_|refine FBit.shl1 rfl (by omega) ?_|refine Fits.inU (by omega) ?_|refine FBit.shrNI rfl (by omega) ?_|refine FBit.shrIN rfl (by omega) (by omega) ?_|refine FBit.shrI rfl (by omega) (by omega) ?_|refine FBit.shl1I rfl (by omega) ?_)|(with_reducible refine FBit.has rfl (fun hq=>?_) (fun hq=>?_))|(with_reducible first|refine FBit.and1 rfl ?_|refine FBit.andN rfl (by omega) (by omega) ?_|refine FBit.orN rfl (by omega) (by omega) ?_|refine FBit.andNotN rfl (by omega) (by omega) ?_)|(with_reducible refine wG ?_)|(refine FNext.mk (fun hlen=>?_) (fun i hi hn=>?_))|(refine FEnt.of (Lof_get (by omega)) ?_)|(refine FLast.app ?_)|(refine Need.mk (show 0 ≤ ((r.getD i 0:Nat):Int) by omega) ?_)|(refine FBit.shl1 (j:=r.getD i 0) rfl (by have:=hr3.2 i hi;omega) ?_)|(refine FBit.orN rfl (by omega) (Nat.lt_trans (pow3 (hr3.2 i hi)) (by decide)) ?_)|(with_reducible refine wP ?_)))
   all_goals (try conv=>whnf)
   ·(refine ⟨⟨_,[],[],Cut.nil _,Ln.sameB _ rfl,?_,rfl⟩⟩)
    exact int_eq (by rw [hv,seen_all (b:=bitX (keepX p j)) hr hlen hs hs3,keep_alone])
   ·have hsn:=nodup_snoc hs hn
    have hsl:=pigeon 3 id (s ++ [i]) hsn (fun y hy=>⟨y,seen_lt hs3 hi y hy,rfl⟩)
    rw [List.length_append] at hsl
    have hsl:s.length + 1 ≤ 3:=hsl
    (exact ⟨⟨r,(v ||| 2 ^ (r.getD i 0)),(s ++ [i]),⟨hr,hsn,seen_lt hs3 hi,by rw [List.map_append,List.map_cons,List.map_nil,orL_snoc,← hv,bitX,if_pos hq],or8 hv8 (pow3 (hr3.2 i hi))⟩,by show 3 - (s ++ [i]).length < 3 - s.length;rw [List.length_append];show 3 - (s.length + 1) < _;omega,[0,1],Cut.A,allA⟩⟩)
   ·have hsn:=nodup_snoc hs hn
    have hsl:=pigeon 3 id (s ++ [i]) hsn (fun y hy=>⟨y,seen_lt hs3 hi y hy,rfl⟩)
    rw [List.length_append] at hsl
    have hsl:s.length + 1 ≤ 3:=hsl
    (exact ⟨⟨r,v,(s ++ [i]),⟨hr,hsn,seen_lt hs3 hi,by rw [List.map_append,List.map_cons,List.map_nil,orL_snoc,← hv,bitX,if_neg hq,Nat.or_zero],hv8⟩,by show 3 - (s ++ [i]).length < 3 - s.length;rw [List.length_append];show 3 - (s.length + 1) < _;omega,[0,1],Cut.A,allA⟩⟩)
end Go.Proofs.Ytkejebdfbkgaiaa

namespace Go.Proofs.Ytkejebdfbkgaiaa
open Go.RowKit Go.Shelf

attribute [local go_sem] Oper.semAt_some

theorem arr1 {cs:Array Value} {v:Value} {n:Nat} (h:cs.size = n) (hp:cs.getD 0 undef = v) (hn:n = 1:=by rfl):cs = #[v]:=by
 subst hn
 have h0:0 < cs.size:=by omega
 have h1:cs[0] = v:=by simpa [h0] using hp
 apply Array.ext
 ·simpa using h
 ·intro i h2 h3
  obtain rfl:i = 0:=by simp at h3;omega
  simpa using h1

set_option maxRecDepth 100000 in
set_option maxHeartbeats 2000000 in
theorem teams_it (f:CFl) (c:Crew) (j:Job) (x:LawT) (n N:Nat) (hn:c.people.length = n) (hl:n ≤ 8) (hN:N + 1 = 2 ^ n):AIterM true Try.prog 27 [pTask f c j x] ((List.range N).map fun k=>[AU (k + 1)]):=by
 refine ⟨⟨_,Try.func27,by decide,rfl⟩,fun M w0 cs hcs hreps lp J Jx W hW hJ hJx hY h0=>?_⟩
 obtain ⟨Bs,off,hp,hb,hMn,hc⟩:=hreps 0 _ rfl
 obtain ⟨u,hcell,_,A,cap,rfl,hz,hnil,_,hcap,hel⟩:=hc 1 (by omega)
 rw [Nat.add_zero] at hp
 obtain rfl:=arr1 hcs hp
 have wn:Wd none = Fence.wide:=rfl
 rw [wn] at hY ⊢
 refine callsIn_of_wp Try.func27 rfl trivial ?_ rfl
 simp only [Try.ntmps27,List.size_toArray,List.length_cons,List.length_nil,Nat.reduceAdd,Nat.reduceSub,Array.replicate_succ,Array.replicate_zero,List.push_toArray,List.append_toArray,List.nil_append,List.cons_append,argsOf]
 rw [hn] at hcell
 have hcell0:=(hW.cell hb hMn).trans hcell
 clear hel hc hnil hcap hn
 rcases (show n = 0 ∨ n = 1 ∨ n = 2 ∨ n = 3 ∨ n = 4 ∨ n = 5 ∨ n = 6 ∨ n = 7 ∨ n = 8 by omega) with rfl|rfl|rfl|rfl|rfl|rfl|rfl|rfl|rfl
 ·obtain rfl:N = 0:=by omega
  gi_wp2
  gi_loopw [4] (fun i wr=>i = .int .u64 1 ∧ J 0 wr ∧ Chg M w0 wr) (fun i _=>0)
  case atStart=>exact ⟨rfl,h0,hW⟩
  case round =>
   obtain ⟨rfl,hJk,hck⟩:=hrel
   have hcellk:=(hck.cell hb hMn).trans hcell
   gi_wp2
   go_end0
   exact ⟨⟨_,rfl⟩,.inl hJk⟩
 all_goals
  gi_wp2
  gi_loopw [4] (fun i wr=>∃ k:Nat,k ≤ N ∧ i = .int .u64 ((k:Int) + 1) ∧ J k wr ∧ Chg M w0 wr)
   (fun i _=>(N + 1 - intOf i).toNat)
  case atStart=>exact ⟨0,Nat.zero_le _,rfl,h0,hW⟩
  case round =>
   obtain ⟨k,hk,rfl,hJk,hck⟩:=hrel
   have hcellk:=(hck.cell hb hMn).trans hcell
   by_cases hlt:k < N
   ·obtain ⟨fn,tmps,assign,body,hy,hR⟩:=hY k #[.int .u64 ((k:Int) + 1)] wr (by simpa using hlt) hJk hck (by simp [List.getD,hlt]) (fun i x hx=>by
     simp only [List.getD,List.getElem?_map,List.getElem?_range hlt,Option.map_some,Option.getD_some] at hx
     match i,hx with
     | 0,hx=>cases hx;rfl)
    gi_wp2
    refine ⟨rfl,hR.mono ?_⟩
    rintro e W3 (⟨rfl,hJ3,hk3⟩|⟨rfl,hJx3⟩)
    ·gi_wp2
     go_roundw
     case rel=>exact ⟨k + 1,by omega,by congr 1,hJ3,hck.trans hk3 (fun _ _ h=>h)⟩
     case measure=>simp [intOf];omega
    ·gi_wp2
     refine bodyPost_ret (results_none rfl _ _ _) rfl ?_
     exact ⟨⟨_,rfl⟩,.inr ⟨k,by simpa using hlt,hJx3⟩⟩
   ·obtain rfl:k = N:=by omega
    gi_wp2
    go_end0
    exact ⟨⟨_,rfl⟩,.inl (by simpa using hJk)⟩
end Go.Proofs.Ytkejebdfbkgaiaa

namespace Go.Proofs.Ytkejebdfbkgaiaa
open Go.RowKit Go.Shelf

attribute [local go_sem] Oper.semAt_some

theorem arr2 {cs:Array Value} {u v:Value} (h:cs.size = 2) (h0:cs.getD 0 undef = u) (h1:cs.getD 1 undef = v):cs = #[u,v]:=by
 apply Array.ext
 ·simpa using h
 ·intro i h2 h3
  rcases (show i = 0 ∨ i = 1 by simp at h3;omega) with rfl|rfl
  ·simpa [h] using h0
  ·simpa [h] using h1
def cntF (s k:Nat):Nat:=((List.range k).filter fun i=>s.testBit i).length
theorem memb_split {c:Crew} {s k:Nat} (h:k ≤ c.people.length):memb c s = ((List.range k).filter fun i=>s.testBit i) ++ memF c s k:=by
 have:List.range c.people.length = List.range k ++ (List.range c.people.length).drop k:=by
  rw [← List.take_append_drop k (List.range c.people.length)]
  simp [List.take_range,Nat.min_eq_left h]
 unfold memb memF
 rw [this,List.filter_append]
 simp
theorem memb_at {c:Crew} {s k:Nat} (h:k < c.people.length) (hb:s.testBit k = true):cntF s k < (memb c s).length ∧ (memb c s).getD (cntF s k) 0 = k:=by
 rw [memb_split (Nat.le_of_lt h),memF_yes h hb]
 constructor
 ·simp [cntF]
 ·simp [cntF,List.getD]
theorem cnt_yes {s k:Nat} (hb:s.testBit k = true):cntF s (k + 1) = cntF s k + 1:=by
 unfold cntF;rw [List.range_succ,List.filter_append];simp [hb]
theorem cnt_no {s k:Nat} (hb:s.testBit k = false):cntF s (k + 1) = cntF s k:=by
 unfold cntF;rw [List.range_succ,List.filter_append];simp [hb]
theorem cnt_end {c:Crew} {s:Nat}:cntF s c.people.length = (memb c s).length:=rfl
abbrev iTask (f:CFl) (c:Crew) (j:Job) (x:LawT):AV:=.ip 1 (ofL [pTask f c j x]) 0
abbrev iTeam (s:Nat):AV:=.ip 1 (ofL [AU s]) 0

theorem getD_map' {α β:Type} {f:α → β} {l:List α} {k:Nat} {d:α} {d':β} (h:k < l.length):(l.map f).getD k d' = f (l.getD k d):=by
 simp [List.getD,List.getElem?_eq_getElem h]
theorem pure_call {P:Program} {g:FuncId} {xs:List AV} {r:AV} (H:ACall P g xs [] (fun v h=>v = r ∧ h = [])) (w:World) (vs:Array Value) (hs:vs.size = xs.length) (hv:∀ i x,xs[i]? = some x → rep (MM (fun _=>False) g0 []) w x g0 (vs.getD i undef)):Calls P g vs w fun en w'=>∃ v g' M,en = .returned v ∧ Chg (fun _=>False) w w' ∧ rep M w' r g' v:=by
 refine (H.2 (fun _=>False) g0 w vs (HOK.nil w (fun _ h=>h.elim)) hs hv).mono ?_
 rintro en w' ⟨v,r',h',g',rfl,T,hr,rfl,rfl⟩
 refine ⟨v,g',_,rfl,T.mchg.weak (fun x _ h=>?_),hr⟩
 rcases h with h|⟨d,cap,⟨x,h,_⟩,_⟩
 ·exact h.elim
 ·simp at h
theorem has_call (s k:Nat) (hk:k ≤ 64) (w:World):Calls Try.prog 55 #[.int .u64 s,.int .i64 k] w fun en w'=>en = .returned (.bool (s.testBit k)) ∧ Chg (fun _=>False) w w':=by
 refine (pure_call (phas_ok s k hk) w #[.int .u64 s,.int .i64 k] rfl (fun i x hx=>?_)).mono ?_
 ·match i,hx with
  | 0,hx=>cases hx;rfl
  | 1,hx=>cases hx;rfl
 ·rintro en w' ⟨v,g',M,rfl,hc,hr⟩
  have:v = .bool (s.testBit k):=hr
  exact ⟨by rw [this],hc⟩
set_option maxRecDepth 100000 in
set_option maxHeartbeats 2000000 in
theorem members_it (f:CFl) (c:Crew) (j:Job) (x:LawT) (s:Nat) (hl:c.people.length ≤ 8):AIter Try.prog 54 [iTask f c j x,iTeam s] ((memb c s).map fun (i:Nat)=>[AI i,.agg 6 (cPerson (f.pf i) (c.people.getD i ps0))]):=by
 refine ⟨⟨_,Try.func54,by decide,rfl⟩,fun M w0 cs hcs hreps lp J Jx W hW hJ hJx hY h0=>?_⟩
 obtain ⟨B1,off1,hp1,hb1,hM1,hc1⟩:=hreps 0 _ rfl
 obtain ⟨u1,hcell1,_,Bt,offt,hut,hbt,hMt,hct⟩:=hc1 0 (by omega)
 obtain ⟨B2,off2,hp2,hb2,hM2,hc2⟩:=hreps 1 _ rfl
 obtain ⟨u2,hcell2,_,hu2⟩:=hc2 0 (by omega)
 have hu2:u2 = .int .u64 s:=hu2
 subst hu2
 subst hut
 obtain ⟨u,hcell,_,A,cap,rfl,hz,hnil,_,hcap,hel⟩:=hct 1 (by omega)
 obtain rfl:=arr2 hcs hp1 hp2
 rw [Nat.add_zero] at hcell1 hcell2
 simp only [Nat.add_zero] at hp1 hp2 ⊢
 have wn:Wd none = Fence.wide:=rfl
 rw [wn] at hY ⊢
 refine callsIn_of_wp Try.func54 rfl trivial ?_ rfl
 simp only [Try.ntmps54,List.size_toArray,List.length_cons,List.length_nil,Nat.reduceAdd,Nat.reduceSub,Array.replicate_succ,Array.replicate_zero,List.push_toArray,List.append_toArray,List.nil_append,List.cons_append,argsOf]
 have hcellA:=(hW.cell hb1 hM1).trans hcell1
 have hcellB:=(hW.cell hb2 hM2).trans hcell2
 have hcellC:=(hW.cell hbt hMt).trans hcell
 gi_wp2
 gi_loopw [12] (fun i wr=>∃ k:Nat,k ≤ c.people.length ∧ i = .int .i64 k ∧ J (cntF s k) wr ∧ Chg M w0 wr)
  (fun i _=>(c.people.length - intOf i).toNat)
 case atStart=>exact ⟨0,Nat.zero_le _,rfl,h0,hW⟩
 case round =>
  obtain ⟨k,hk,rfl,hJk,hck⟩:=hrel
  have hcellB2:=(hck.cell hb2 hM2).trans hcell2
  by_cases hlt:k < c.people.length
  ·obtain ⟨b,off',v0,hA,hb',hn',hv0,_,hr0⟩:=hel k hlt 0 (by omega)
   subst hA
   have hcl:∀ o,o < 6 → ∃ u,w0.cell? ⟨b,off' + k * 6 + o,none⟩ = some u ∧ u.oneCell' = true ∧ rep M w0 (cPerson (f.pf k) (c.people.getD k ps0) o) g0 u:=fun o ho=>by
    obtain ⟨b2,o2,u,e1,_,_,e4,e5,e6⟩:=hel k hlt o ho
    injection e1 with e1
    injection e1 with e1 e2
    subst e1;subst e2
    exact ⟨u,e4,e5,e6⟩
   obtain ⟨v0,hv0,hq0,hr0⟩:=hcl 0 (by omega)
   obtain ⟨v1,hv1,hq1,hr1⟩:=hcl 1 (by omega)
   obtain ⟨v2,hv2,hq2,hr2⟩:=hcl 2 (by omega)
   obtain ⟨v3,hv3,hq3,hr3⟩:=hcl 3 (by omega)
   obtain ⟨v4,hv4,hq4,hr4⟩:=hcl 4 (by omega)
   obtain ⟨v5,hv5,hq5,hr5⟩:=hcl 5 (by omega)
   have hag:rep M w0 (.agg 6 (cPerson (f.pf k) (c.people.getD k ps0))) g0 (.agg #[v0,v1,v2,v3,v4,v5]):=by
    refine ⟨_,rfl,rfl,fun i hi=>?_⟩
    rcases (show i = 0 ∨ i = 1 ∨ i = 2 ∨ i = 3 ∨ i = 4 ∨ i = 5 by omega) with rfl|rfl|rfl|rfl|rfl|rfl
    ·exact ⟨v0,rfl,hq0,hr0⟩
    ·exact ⟨v1,rfl,hq1,hr1⟩
    ·exact ⟨v2,rfl,hq2,hr2⟩
    ·exact ⟨v3,rfl,hq3,hr3⟩
    ·exact ⟨v4,rfl,hq4,hr4⟩
    ·exact ⟨v5,rfl,hq5,hr5⟩
   obtain ⟨A0,cap0,rfl,_⟩:=hr0
   obtain rfl:v1 = .int .i64 (c.people.getD k ps0).fields:=hr1
   obtain rfl:v2 = .int .i64 (c.people.getD k ps0).clears:=hr2
   obtain ⟨A3,cap3,rfl,_⟩:=hr3
   obtain rfl:v4 = .bool (c.people.getD k ps0).deaf:=hr4
   obtain rfl:v5 = .int .i64 (c.people.getD k ps0).fee:=hr5
   have k0:=(hck.cell hb' hn').trans hv0
   have k1:=(hck.cell hb' hn').trans hv1
   have k2:=(hck.cell hb' hn').trans hv2
   have k3:=(hck.cell hb' hn').trans hv3
   have k4:=(hck.cell hb' hn').trans hv4
   have k5:=(hck.cell hb' hn').trans hv5
   clear hel hc1 hc2 hct hcl hv1 hv2 hv3 hv4 hv5
   rw [Nat.add_zero] at k0
   generalize (c.people.getD k ps0).levels.length = n0 at k0 k1 k2 k3 k4 k5 hag
   generalize (c.people.getD k ps0).fields = z1 at k0 k1 k2 k3 k4 k5 hag
   generalize (c.people.getD k ps0).clears = z2 at k0 k1 k2 k3 k4 k5 hag
   generalize (c.people.getD k ps0).ties.length = n3 at k0 k1 k2 k3 k4 k5 hag
   generalize (c.people.getD k ps0).deaf = z4 at k0 k1 k2 k3 k4 k5 hag
   generalize (c.people.getD k ps0).fee = z5 at k0 k1 k2 k3 k4 k5 hag
   obtain ⟨W2,hW2⟩:∃ W2,W2 = wr.alloc (.cells #[.slice A0 n0 cap0,.int .i64 z1,.int .i64 z2,.slice A3 n3 cap3,.bool z4,.int .i64 z5] 52):=⟨_,rfl⟩
   have hA2:Chg (fun _=>False) wr W2:=by rw [hW2];exact Chg.alloc _ _ _
   have hcellB3:W2.cell? ⟨B2,off2,none⟩ = some (.int .u64 s):=(hA2.cell (Nat.lt_of_lt_of_le hb2 hck.size) (fun h=>h)).trans hcellB2
   rw [hW2] at hcellB3
   have hhas:=has_call s k (by omega) W2
   rw [hW2] at hhas
   gi_wp2
   refine ⟨trivial,rfl,(callsIn_wide.2 hhas).mono ?_⟩
   rintro e W3 ⟨rfl,hA3⟩
   rw [← hW2] at hA3
   have hA4:=hA2.trans hA3 (fun _ _ h=>h)
   have hA5:Chg M wr W3:=hA4.weak (fun _ _ h=>h.elim)
   have hnew:W2.heap[wr.heap.size]? = some (.cells #[.slice A0 n0 cap0,.int .i64 z1,.int .i64 z2,.slice A3 n3 cap3,.bool z4,.int .i64 z5] 52):=by rw [hW2];exact heap_alloc_new _ _
   have hsz:=lt_of_heap hnew
   have hnew3:=(hA3.block _ hsz (fun h=>h)).trans hnew
   have c0:W3.cell? ⟨wr.heap.size,0,none⟩ = some (.slice A0 n0 cap0):=cell_of_heap hnew3 rfl
   have c1:W3.cell? ⟨wr.heap.size,1,none⟩ = some (.int .i64 z1):=cell_of_heap hnew3 rfl
   have c2:W3.cell? ⟨wr.heap.size,2,none⟩ = some (.int .i64 z2):=cell_of_heap hnew3 rfl
   have c3:W3.cell? ⟨wr.heap.size,3,none⟩ = some (.slice A3 n3 cap3):=cell_of_heap hnew3 rfl
   have c4:W3.cell? ⟨wr.heap.size,4,none⟩ = some (.bool z4):=cell_of_heap hnew3 rfl
   have c5:W3.cell? ⟨wr.heap.size,5,none⟩ = some (.int .i64 z5):=cell_of_heap hnew3 rfl
   have hJ3:=hJ _ _ _ hJk hA4
   have hck3:=hck.trans hA5 (fun _ _ h=>h)
   by_cases hbit:s.testBit k = true
   ·obtain ⟨hm1,hm2⟩:=memb_at hlt hbit
    obtain ⟨fn,tmps,assign,body,hy,hR⟩:=hY (cntF s k) #[.int .i64 k,.agg #[.slice A0 n0 cap0,.int .i64 z1,.int .i64 z2,.slice A3 n3 cap3,.bool z4,.int .i64 z5]] W3 (by simpa using hm1) hJ3 hck3 (by simp [List.getD,hm1]) (fun i x hx=>by
     have e0:((memb c s).map fun (i:Nat)=>[AI i,.agg 6 (cPerson (f.pf i) (c.people.getD i ps0))]).getD (cntF s k) [] = [AI k,.agg 6 (cPerson (f.pf k) (c.people.getD k ps0))]:=by
      rw [getD_map' (d:=0) hm1,hm2]
     rw [e0] at hx
     match i,hx with
     | 0,hx=>cases hx;rfl
     | 1,hx=>cases hx;exact rep_mono hck3 (fun _ _ h=>h) _ (GM.le_refl _) hag)
    gi_wp2
    refine ⟨rfl,hR.mono ?_⟩
    rintro e W4 (⟨rfl,hJ4,hk4⟩|⟨rfl,hJx4⟩)
    ·gi_wp2
     go_roundw
     case rel=>exact ⟨k + 1,hlt,by congr 1,by rw [cnt_yes hbit];exact hJ4,hck3.trans hk4 (fun _ _ h=>h)⟩
     case measure=>simp [intOf];omega
    ·gi_wp2
     refine bodyPost_ret (results_none rfl _ _ _) rfl ?_
     exact ⟨⟨_,rfl⟩,.inr ⟨cntF s k,by simpa using hm1,hJx4⟩⟩
   ·have hbit:=Bool.eq_false_iff.2 hbit
    gi_wp2
    refine ⟨fun _ h=>(by cases h),?_⟩
    gi_wp2
    go_roundw
    case rel=>exact ⟨k + 1,hlt,by congr 1,by rw [cnt_no hbit];exact hJ3,hck3⟩
    case measure=>simp [intOf];omega
  ·obtain rfl:k = c.people.length:=by omega
   gi_wp2
   go_end0
   exact ⟨⟨_,rfl⟩,.inl (by simpa [cnt_end] using hJk)⟩
end Go.Proofs.Ytkejebdfbkgaiaa
