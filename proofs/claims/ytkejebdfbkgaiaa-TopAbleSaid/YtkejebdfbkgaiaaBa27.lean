/- Teams: the program's broken. / Teams: the program's Broken. / Teams: the program's May (printed by gen_ter.py). / Teams: the program's Team. / Teams: the program's Chain. / Teams: the answers in a form that can be computed; the chapter's example -/
import Derived.Test.YtkejebdfbkgaiaaBa26
import Derived.Test.YtkejebdfbkgaiaaBa17
set_option linter.unusedSimpArgs false
set_option linter.unusedVariables false
namespace Go.Proofs.Ytkejebdfbkgaiaa
open Go.RowKit

set_option maxHeartbeats 4000000
set_option maxRecDepth 100000
theorem pbroken_ok (f:CFl) (c:Crew) (j:Job) (s:Nat) (hc:c.ok = true) (hj:Job.ok c j = true) (hs:s < 256):ACall Try.prog 29 [pTask f c j (lawOf c j),AU s] [] (fun r h=>r = AU (brokenT c j s) ∧ h = []):=by
 obtain ⟨d1,d2,d3,d4,d5⟩:=crew_d hc
 obtain ⟨j1,j2,j3,j4,j5,j6,j7⟩:=job_d hj
 obtain ⟨n,hn⟩:∃ n:Nat,c.langs = n:=⟨c.langs.toNat,by omega⟩
 have hnn:c.langs.toNat = n:=by omega
 have hml:=memb_len c s
 have hfar:=far_ok f c j (lawOf c j) s n j.to.toNat hc hn (by omega) (by omega)
 (refine fcall_of mixed Try.func29 rfl (by decide) (hs:={ ord:=[(4,[(0,[]),(1,[]),(2,[]),(3,[0]),(4,[]),(5,[])]),(6,[(0,[]),(2,[]),(3,[]),(4,[]),(5,[]),(6,[]),(7,[]),(8,[]),(9,[]),(10,[]),(11,[]),(12,[]),(1,[2,6,7,11]),(13,[])]),(10,[(0,[]),(1,[]),(3,[]),(4,[]),(5,[]),(6,[]),(7,[]),(2,[3,7]),(8,[]),(9,[]),(10,[])])] }) ?k (ac:=?ac) ?c (rs:=?rs) ?r ?l ?H;(case k=>kernel_rfl);(case c=>(conv=>(lhs;cbv)));(case r=>(conv=>(lhs;cbv)));(case l=>exact Nat.le_of_ble_eq_true rfl))
 (repeat' ((try conv=>whnf);first|(with_reducible first|refine wT ?_|refine wF ?_|(refine wI (fun hq=>?_) (fun hq=>?_) <;> try simp only [zA,zE,zD,zJ,zB,zI,wK,wL] at hq)|refine wA ?_|refine wB ?_|refine wC ?_|refine wD ?_|refine wE ?_)|((with_reducible refine wN ?_ ?_);focus exact needA)|(with_reducible refine wG ?_)|(refine FCall.pure ((mem_ok _ _ _ _ _)) ⟨Ln.sameB _ rfl,Ln.sameB _ rfl,True.intro⟩ rfl ?_)|(with_reducible refine wP ?_)))
 all_goals (try conv=>whnf)
 refine FRange.of (ACalls.mono _) (X:=Nat × Bool) (memb c s).length (fun k=>[AI (((memb c s).getD k 0:Nat):Int),.agg 6 (cPerson (f.pf ((memb c s).getD k 0)) (c.people.getD ((memb c s).getD k 0) ps0))]) (fun y=>[(1,AU s),(2,.ptr 0 0),(4,.ptr 1 0),(5,.ptr 2 0),(10,fMem f c j (lawOf c j) s)]) (fun y=>[.box 1 (ofL [pTask f c j (lawOf c j)]),.box 1 (ofL [AU y.1]),.box 1 (ofL [.bool y.2])])
  (fun k y=>soloT c j s = y.1 ||| orL (((memb c s).drop k).map fun i=>alone3 (c.people.getD i ps0) j) ∧ y.1 < 8 ∧ deafT c s = (y.2 || ((memb c s).drop k).any fun i=>(c.people.getD i ps0).deaf)) (0,false) ⟨⟨by rw [List.drop_zero,Nat.zero_or];rfl,by decide,rfl⟩,[0,1,2],Cut.A,allA⟩ rfl rfl (mem_it f c j (lawOf c j) s d2) (fun _ _=>rfl) ?round ?done
 case round =>
  rintro k ⟨v,d⟩ hk ⟨hV,hv,hd⟩
  change soloT c j s = v ||| _ at hV
  change v < 8 at hv
  change deafT c s = (d || _) at hd
  obtain ⟨g1,g2⟩:=memb_get hk
  have hok:=d4 _ g1
  have hal:=alone3_lt (c.people.getD ((memb c s).getD k 0) ps0) j
  have hor:=or8 hv hal
  rw [drop_eq 0 hk,List.map_cons,orL,← Nat.or_assoc] at hV
  rw [drop_eq 0 hk,List.any_cons,← Bool.or_assoc] at hd
  dsimp only
  (repeat' ((try conv=>whnf);first|(with_reducible first|refine wT ?_|refine wF ?_|(refine wI (fun hq=>?_) (fun hq=>?_) <;> try simp only [zA,zE,zD,zJ,zB,zI,wK,wL] at hq)|refine wA ?_|refine wB ?_|refine wC ?_|refine wD ?_|refine wE ?_)|((with_reducible refine wN ?_ ?_);focus exact needA)|(with_reducible first|refine FBit.hasT rfl (by assumption) ?_|refine FBit.hasF rfl (by assumption) ?_|refine FBit.shrN rfl (by omega) ?_|refine FBit.half rfl ?_|refine FBit.shl1 rfl (by omega) ?_|refine Fits.inU (by omega) ?_|refine FBit.shrNI rfl (by omega) ?_|refine FBit.shrIN rfl (by omega) (by omega) ?_|refine FBit.shrI rfl (by omega) (by omega) ?_|refine FBit.shl1I rfl (by omega) ?_)|(with_reducible refine FBit.has rfl (fun hq=>?_) (fun hq=>?_))|(with_reducible first|refine FBit.and1 rfl ?_|refine FBit.andN rfl (by omega) (by omega) ?_|refine FBit.orN rfl (by omega) (by omega) ?_|refine FBit.andNotN rfl (by omega) (by omega) ?_)|(with_reducible refine wG ?_)|(refine FCall.pure ((alone_ok f c j (lawOf c j) _ _ hok hj)) ⟨Ln.sameB _ rfl,Ln.sameB _ rfl,True.intro⟩ rfl ?_)|(with_reducible refine wP ?_)))
  all_goals (try conv=>whnf)
  ·subst hq
   (refine ⟨⟨(v ||| alone3 (c.people.getD ((memb c s).getD k 0) ps0) j,true),⟨hV,hor,hd⟩,[0,1,2],Cut.A,allA⟩⟩)
  ·subst hq
   (refine ⟨⟨(v ||| alone3 (c.people.getD ((memb c s).getD k 0) ps0) j,(c.people.getD ((memb c s).getD k 0) ps0).deaf),⟨hV,hor,by rw [Bool.false_or] at hd;exact hd⟩,[0,1,2],Cut.A,allA⟩⟩)
 case done =>
  rintro ⟨v,d⟩ ⟨hV,hv,hd⟩
  rw [List.drop_length] at hV hd
  change v < 8 at hv
  have hV:soloT c j s = v:=by rw [hV];simp [orL]
  have hd:deafT c s = d:=by rw [hd];simp
  have q8:=or64 (show v < 64 by omega) (show 8 < 64 by decide)
  have q16:=or64 (show v < 64 by omega) (show 16 < 64 by decide)
  have q32:=or64 (show v < 64 by omega) (show 32 < 64 by decide)
  have q816:=or64 q8 (show 16 < 64 by decide)
  have hdl:(distL n (relT c s (lawOf c j).level) j.to.toNat).length = n:=by simp [distL]
  have hdg:(distL n (relT c s (lawOf c j).level) j.to.toNat).getD j.fr.toNat 0 = dist n (relT c s (lawOf c j).level) j.fr.toNat j.to.toNat:=by
   rw [distL,getD_range (by omega)]
   exact dist_back (rel_sym c s _) (by omega) (by omega)
  clear hn
  dsimp only
  (repeat' ((try conv=>whnf);first|(with_reducible first|refine wT ?_|refine wF ?_|(refine wI (fun hq=>?_) (fun hq=>?_) <;> try simp only [zA,zE,zD,zJ,zB,zI,wK,wL] at hq)|refine wA ?_|refine wB ?_|refine wC ?_|refine wD ?_|refine wE ?_)|((with_reducible refine wN ?_ ?_);focus exact needA)|(with_reducible first|refine FBit.hasT rfl (by assumption) ?_|refine FBit.hasF rfl (by assumption) ?_|refine FBit.shrN rfl (by omega) ?_|refine FBit.half rfl ?_|refine FBit.shl1 rfl (by omega) ?_|refine Fits.inU (by omega) ?_|refine FBit.shrNI rfl (by omega) ?_|refine FBit.shrIN rfl (by omega) (by omega) ?_|refine FBit.shrI rfl (by omega) (by omega) ?_|refine FBit.shl1I rfl (by omega) ?_)|(with_reducible refine FBit.has rfl (fun hq=>?_) (fun hq=>?_))|(with_reducible first|refine FBit.and1 rfl ?_|refine FBit.andN rfl (by omega) (by omega) ?_|refine FBit.orN rfl (by omega) (by omega) ?_|refine FBit.andNotN rfl (by omega) (by omega) ?_)|(with_reducible refine wG ?_)|(refine FCall.pure ((psize_ok _ hs)) ⟨Ln.sameB _ rfl,True.intro⟩ rfl ?_)|(refine FCall.pure (hfar) ⟨Ln.sameB _ rfl,Ln.sameB _ rfl,True.intro⟩ rfl ?_)|(first|refine FBit.orI rfl rfl (b:=8) rfl (by omega) (by omega) ?_|refine FBit.orI rfl rfl (b:=16) rfl (by omega) (by omega) ?_|refine FBit.orI rfl rfl (b:=32) rfl (by omega) (by omega) ?_)|(with_reducible refine wP ?_)))
  all_goals (try conv=>whnf)
  all_goals
   (refine ⟨⟨_,[],[],Cut.nil _,Ln.sameB _ rfl,?_,rfl⟩⟩)
   refine congrArg (fun n:Nat=>AU n) ?_
   first
    | (refine Eq.trans ?_ (brokenT_eq (n:=n) (a:=true) (b:=true) (d:=true) hnn hV hd (by first|exact decide_eq_true (by assumption)|exact decide_eq_false (fun h=>h (by assumption))|fail) (by first|exact bAnd_tt (by assumption) (by assumption)|exact bAnd_tf (by assumption) (by assumption)|exact bAnd_f (by assumption)|fail) (by first|exact decide_eq_true (by omega)|exact decide_eq_false (by omega)|fail)).symm;simp;done)
    | (refine Eq.trans ?_ (brokenT_eq (n:=n) (a:=true) (b:=true) (d:=false) hnn hV hd (by first|exact decide_eq_true (by assumption)|exact decide_eq_false (fun h=>h (by assumption))|fail) (by first|exact bAnd_tt (by assumption) (by assumption)|exact bAnd_tf (by assumption) (by assumption)|exact bAnd_f (by assumption)|fail) (by first|exact decide_eq_true (by omega)|exact decide_eq_false (by omega)|fail)).symm;simp;done)
    | (refine Eq.trans ?_ (brokenT_eq (n:=n) (a:=true) (b:=false) (d:=true) hnn hV hd (by first|exact decide_eq_true (by assumption)|exact decide_eq_false (fun h=>h (by assumption))|fail) (by first|exact bAnd_tt (by assumption) (by assumption)|exact bAnd_tf (by assumption) (by assumption)|exact bAnd_f (by assumption)|fail) (by first|exact decide_eq_true (by omega)|exact decide_eq_false (by omega)|fail)).symm;simp;done)
    | (refine Eq.trans ?_ (brokenT_eq (n:=n) (a:=true) (b:=false) (d:=false) hnn hV hd (by first|exact decide_eq_true (by assumption)|exact decide_eq_false (fun h=>h (by assumption))|fail) (by first|exact bAnd_tt (by assumption) (by assumption)|exact bAnd_tf (by assumption) (by assumption)|exact bAnd_f (by assumption)|fail) (by first|exact decide_eq_true (by omega)|exact decide_eq_false (by omega)|fail)).symm;simp;done)
    | (refine Eq.trans ?_ (brokenT_eq (n:=n) (a:=false) (b:=true) (d:=true) hnn hV hd (by first|exact decide_eq_true (by assumption)|exact decide_eq_false (fun h=>h (by assumption))|fail) (by first|exact bAnd_tt (by assumption) (by assumption)|exact bAnd_tf (by assumption) (by assumption)|exact bAnd_f (by assumption)|fail) (by first|exact decide_eq_true (by omega)|exact decide_eq_false (by omega)|fail)).symm;simp;done)
    | (refine Eq.trans ?_ (brokenT_eq (n:=n) (a:=false) (b:=true) (d:=false) hnn hV hd (by first|exact decide_eq_true (by assumption)|exact decide_eq_false (fun h=>h (by assumption))|fail) (by first|exact bAnd_tt (by assumption) (by assumption)|exact bAnd_tf (by assumption) (by assumption)|exact bAnd_f (by assumption)|fail) (by first|exact decide_eq_true (by omega)|exact decide_eq_false (by omega)|fail)).symm;simp;done)
    | (refine Eq.trans ?_ (brokenT_eq (n:=n) (a:=false) (b:=false) (d:=true) hnn hV hd (by first|exact decide_eq_true (by assumption)|exact decide_eq_false (fun h=>h (by assumption))|fail) (by first|exact bAnd_tt (by assumption) (by assumption)|exact bAnd_tf (by assumption) (by assumption)|exact bAnd_f (by assumption)|fail) (by first|exact decide_eq_true (by omega)|exact decide_eq_false (by omega)|fail)).symm;simp;done)
    | (refine Eq.trans ?_ (brokenT_eq (n:=n) (a:=false) (b:=false) (d:=false) hnn hV hd (by first|exact decide_eq_true (by assumption)|exact decide_eq_false (fun h=>h (by assumption))|fail) (by first|exact bAnd_tt (by assumption) (by assumption)|exact bAnd_tf (by assumption) (by assumption)|exact bAnd_f (by assumption)|fail) (by first|exact decide_eq_true (by omega)|exact decide_eq_false (by omega)|fail)).symm;simp;done)
end Go.Proofs.Ytkejebdfbkgaiaa

namespace Go.Proofs.Ytkejebdfbkgaiaa
open Go.RowKit

set_option maxHeartbeats 4000000
set_option maxRecDepth 100000
theorem broken_y (f:CFl) (c:Crew) (j:Job) (m:Int) (h0:checkT c j = 0):ACall Try.prog 16 [aCrew f c,aJob j,AI m] [] (fun r h=>r = .tup 2 (ofL [AI (brokenE c j m).1,AI (brokenE c j m).2]) ∧ h = []):=by
 have ht:=team_y f c j m h0
 (refine fcall_of mixed Try.func16 rfl (by decide) (hs:={}) ?k (ac:=?ac) ?c (rs:=?rs) ?r ?l ?H;(case k=>kernel_rfl);(case c=>(conv=>(lhs;cbv)));(case r=>(conv=>(lhs;cbv)));(case l=>exact Nat.le_of_ble_eq_true rfl))
 (repeat' ((try conv=>whnf);first|(with_reducible first|refine wT ?_|refine wF ?_|(refine wI (fun hq=>?_) (fun hq=>?_) <;> try simp only [zA,zE,zD,zJ,zB,zI,wK,wL] at hq)|refine wA ?_|refine wB ?_|refine wC ?_|refine wD ?_|refine wE ?_)|((with_reducible refine wN ?_ ?_);focus exact needA)|(with_reducible refine wG ?_)|(refine FCall.pure (ht) ⟨Ln.sameB _ rfl,Ln.sameB _ rfl,Ln.sameB _ rfl,True.intro⟩ rfl ?_)|(with_reducible refine wP ?_)))
 all_goals (try conv=>whnf)
 ·(refine ⟨⟨_,[],[],Cut.nil _,Ln.sameB _ rfl,?_,rfl⟩⟩)
  unfold brokenE;rw [if_neg hq];rfl
 ·obtain ⟨hc,hj,k0,k1⟩:=checkTm_0 hq
  have hp:=pow_le (crew_d hc).2.1
  obtain ⟨s,rfl⟩:∃ s:Nat,m = s:=⟨m.toNat,by omega⟩
  have hbl:=broken_lt c j s
  (repeat' ((try conv=>whnf);first|(with_reducible first|refine wT ?_|refine wF ?_|(refine wI (fun hq=>?_) (fun hq=>?_) <;> try simp only [zA,zE,zD,zJ,zB,zI,wK,wL] at hq)|refine wA ?_|refine wB ?_|refine wC ?_|refine wD ?_|refine wE ?_)|((with_reducible refine wN ?_ ?_);focus exact needA)|(with_reducible first|refine FBit.hasT rfl (by assumption) ?_|refine FBit.hasF rfl (by assumption) ?_|refine FBit.shrN rfl (by omega) ?_|refine FBit.half rfl ?_|refine FBit.shl1 rfl (by omega) ?_|refine Fits.inU (by omega) ?_|refine FBit.shrNI rfl (by omega) ?_|refine FBit.shrIN rfl (by omega) (by omega) ?_|refine FBit.shrI rfl (by omega) (by omega) ?_|refine FBit.shl1I rfl (by omega) ?_)|(with_reducible refine FBit.has rfl (fun hq=>?_) (fun hq=>?_))|(with_reducible first|refine FBit.and1 rfl ?_|refine FBit.andN rfl (by omega) (by omega) ?_|refine FBit.orN rfl (by omega) (by omega) ?_|refine FBit.andNotN rfl (by omega) (by omega) ?_)|(with_reducible refine wG ?_)|(refine FCall.pure ((pbroken_ok f c j s hc hj (by omega))) ⟨Ln.sameB _ rfl,Ln.sameB _ rfl,True.intro⟩ rfl ?_)|(with_reducible refine wP ?_)))
  all_goals (try conv=>whnf)
  all_goals
   (refine ⟨⟨_,[],[],Cut.nil _,Ln.sameB _ rfl,?_,rfl⟩⟩)
   unfold brokenE;rw [if_pos hq];rfl
theorem broken_n (f:CFl) (c:Crew) (j:Job) (m:Int) (h0:checkT c j ≠ 0):ACall Try.prog 16 [aCrew f c,aJob j,AI m] [] (fun r h=>r = .tup 2 (ofL [AI (brokenE c j m).1,AI (brokenE c j m).2]) ∧ h = []):=by
 have ht:=team_n f c j m h0
 have hne:checkTm c j m ≠ 0:=by rw [checkTm_c h0];exact h0
 (refine fcall_of mixed Try.func16 rfl (by decide) (hs:={}) ?k (ac:=?ac) ?c (rs:=?rs) ?r ?l ?H;(case k=>kernel_rfl);(case c=>(conv=>(lhs;cbv)));(case r=>(conv=>(lhs;cbv)));(case l=>exact Nat.le_of_ble_eq_true rfl))
 (repeat' ((try conv=>whnf);first|(with_reducible first|refine wT ?_|refine wF ?_|(refine wI (fun hq=>?_) (fun hq=>?_) <;> try simp only [zA,zE,zD,zJ,zB,zI,wK,wL] at hq)|refine wA ?_|refine wB ?_|refine wC ?_|refine wD ?_|refine wE ?_)|((with_reducible refine wN ?_ ?_);focus exact needA)|(with_reducible refine wG ?_)|(refine FCall.pure (ht) ⟨Ln.sameB _ rfl,Ln.sameB _ rfl,Ln.sameB _ rfl,True.intro⟩ rfl ?_)|(with_reducible refine wP ?_)))
 all_goals (try conv=>whnf)
 (refine ⟨⟨_,[],[],Cut.nil _,Ln.sameB _ rfl,?_,rfl⟩⟩)
 unfold brokenE;rw [if_neg hne];rfl
theorem broken_ok (f:CFl) (c:Crew) (j:Job) (m:Int):ACall Try.prog 16 [aCrew f c,aJob j,AI m] [] (fun r h=>r = .tup 2 (ofL [AI (brokenE c j m).1,AI (brokenE c j m).2]) ∧ h = []):=by
 by_cases h0:checkT c j = 0
 ·exact broken_y f c j m h0
 ·exact broken_n f c j m h0
end Go.Proofs.Ytkejebdfbkgaiaa

namespace Go.Proofs.Ytkejebdfbkgaiaa
open Go.RowKit

theorem alone_may (p:Person) (j:Job):alone3 p j = 0 ↔ p.may j = true:=by
 unfold alone3 Person.may
 cases tiedT p j.client <;> cases p.fields.toNat.testBit j.field.toNat <;> cases p.clears.toNat.testBit j.kind.toNat <;> decide
set_option maxHeartbeats 4000000
set_option maxRecDepth 100000
end Go.Proofs.Ytkejebdfbkgaiaa

namespace Go.Proofs.Ytkejebdfbkgaiaa
open Go.RowKit

abbrev mTeams (f:CFl) (c:Crew) (j:Job):AV:=.mv 27 1 (ofL [pTask f c j (lawOf c j)])
set_option maxHeartbeats 4000000
set_option maxRecDepth 100000
theorem pteam_n (f:CFl) (c:Crew) (j:Job) (h0:checkT c j ≠ 0):ACall Try.prog 14 [aCrew f c,aJob j] [] (fun r h=>r = .tup 3 (ofL [AI (teamE c j).1,AI (teamE c j).2.1,AI (teamE c j).2.2]) ∧ h = []):=by
 (refine fcall_of mixed Try.func14 rfl (by decide) (hs:={ ord:=[(11,[(0,[]),(1,[]),(2,[1]),(3,[]),(4,[])])] }) ?k (ac:=?ac) ?c (rs:=?rs) ?r ?l ?H;(case k=>kernel_rfl);(case c=>(conv=>(lhs;cbv)));(case r=>(conv=>(lhs;cbv)));(case l=>exact Nat.le_of_ble_eq_true rfl))
 (repeat' ((try conv=>whnf);first|(with_reducible first|refine wT ?_|refine wF ?_|(refine wI (fun hq=>?_) (fun hq=>?_) <;> try simp only [zA,zE,zD,zJ,zB,zI,wK,wL] at hq)|refine wA ?_|refine wB ?_|refine wC ?_|refine wD ?_|refine wE ?_)|((with_reducible refine wN ?_ ?_);focus exact needA)|(with_reducible refine wG ?_)|(refine FCall.pure ((open_n _ _ _ h0)) ⟨Ln.sameB _ rfl,Ln.sameB _ rfl,True.intro⟩ rfl ?_)|(with_reducible refine wP ?_)))
 all_goals (try conv=>whnf)
 (refine ⟨⟨_,[],[],Cut.nil _,Ln.sameB _ rfl,?_,rfl⟩⟩)
 unfold teamE;rw [if_neg h0];rfl
theorem pteam_y (f:CFl) (c:Crew) (j:Job) (h0:checkT c j = 0):ACall Try.prog 14 [aCrew f c,aJob j] [] (fun r h=>r = .tup 3 (ofL [AI (teamE c j).1,AI (teamE c j).2.1,AI (teamE c j).2.2]) ∧ h = []):=by
 obtain ⟨hc,hj⟩:=checkT_0.1 h0
 obtain ⟨d1,d2,d3,d4,d5⟩:=crew_d hc
 have hp:=pow_le d2
 have hpp:0 < 2 ^ c.people.length:=Nat.two_pow_pos _
 obtain ⟨N,hN⟩:∃ N,N + 1 = 2 ^ c.people.length:=⟨2 ^ c.people.length - 1,by omega⟩
 have hbe:bestT c j = teamS c j N:=by unfold bestT;rw [← hN];rfl
 (refine fcall_of mixed Try.func14 rfl (by decide) (hs:={ ord:=[(11,[(0,[]),(1,[]),(2,[1]),(3,[]),(4,[])])] }) ?k (ac:=?ac) ?c (rs:=?rs) ?r ?l ?H;(case k=>kernel_rfl);(case c=>(conv=>(lhs;cbv)));(case r=>(conv=>(lhs;cbv)));(case l=>exact Nat.le_of_ble_eq_true rfl))
 (repeat' ((try conv=>whnf);first|(with_reducible first|refine wT ?_|refine wF ?_|(refine wI (fun hq=>?_) (fun hq=>?_) <;> try simp only [zA,zE,zD,zJ,zB,zI,wK,wL] at hq)|refine wA ?_|refine wB ?_|refine wC ?_|refine wD ?_|refine wE ?_)|((with_reducible refine wN ?_ ?_);focus exact needA)|(with_reducible refine wG ?_)|(refine FCall.pure ((open_y _ _ _ h0)) ⟨Ln.sameB _ rfl,Ln.sameB _ rfl,True.intro⟩ rfl ?_)|(with_reducible refine wP ?_)))
 all_goals (try conv=>whnf)
 refine FRange.ofM (ACalls.mono _) (X:=Nat × Int) N (fun k=>[AU (k + 1)]) (fun y=>[(4,.ptr 0 0),(5,.ptr 1 0),(6,AI 0),(7,.ptr 2 0),(20,mTeams f c j)]) (fun y=>[.box 1 (ofL [AI y.1]),.box 1 (ofL [AI y.2]),.box 1 (ofL [pTask f c j (lawOf c j)])])
  (fun k y=>teamS c j k = y ∧ y.1 ≤ k) (0,0) ⟨⟨rfl,Nat.le_refl _⟩,[2,3,4],Cut.A,allA⟩ rfl rfl (teams_it f c j (lawOf c j) _ N rfl d2 hN) (fun _ _=>rfl) ?round ?done
 case round =>
  rintro k ⟨m,n⟩ hk ⟨hx,hm⟩
  change m ≤ k at hm
  have hst:teamS c j (k + 1) = stepTm c j (k + 1) (m,n):=by rw [← hx];rfl
  have hft:brokenT c j (k + 1) = 0 → fitsT c j (k + 1) = true:=fun h=>by unfold fitsT;rw [h];simp
  have hff:brokenT c j (k + 1) ≠ 0 → fitsT c j (k + 1) = false:=fun h=>by unfold fitsT;simp [h]
  dsimp only
  (repeat' ((try conv=>whnf);first|(with_reducible first|refine wT ?_|refine wF ?_|(refine wI (fun hq=>?_) (fun hq=>?_) <;> try simp only [zA,zE,zD,zJ,zB,zI,wK,wL] at hq)|refine wA ?_|refine wB ?_|refine wC ?_|refine wD ?_|refine wE ?_)|((with_reducible refine wN ?_ ?_);focus exact needA)|(with_reducible first|refine FBit.hasT rfl (by assumption) ?_|refine FBit.hasF rfl (by assumption) ?_|refine FBit.shrN rfl (by omega) ?_|refine FBit.half rfl ?_|refine FBit.shl1 rfl (by omega) ?_|refine Fits.inU (by omega) ?_|refine FBit.shrNI rfl (by omega) ?_|refine FBit.shrIN rfl (by omega) (by omega) ?_|refine FBit.shrI rfl (by omega) (by omega) ?_|refine FBit.shl1I rfl (by omega) ?_)|(with_reducible refine FBit.has rfl (fun hq=>?_) (fun hq=>?_))|(with_reducible first|refine FBit.and1 rfl ?_|refine FBit.andN rfl (by omega) (by omega) ?_|refine FBit.orN rfl (by omega) (by omega) ?_|refine FBit.andNotN rfl (by omega) (by omega) ?_)|(with_reducible refine wG ?_)|(refine FCall.pure ((pfee_ok _ _ _ _ _ hc)) ⟨Ln.sameB _ rfl,Ln.sameB _ rfl,True.intro⟩ rfl ?_)|(refine FCall.pure ((pbroken_ok _ _ _ _ hc hj (by omega))) ⟨Ln.sameB _ rfl,Ln.sameB _ rfl,True.intro⟩ rfl ?_)|(with_reducible refine wP ?_)))
  all_goals (try conv=>whnf)
  ·(refine ⟨⟨((k + 1),feeT c (k + 1)),⟨by rw [hst];exact stepTm_yes (hft (by omega)) (.inl (by omega)),Nat.le_refl _⟩,[0,1,2],Cut.A,allA⟩⟩)
  ·(refine ⟨⟨((k + 1),feeT c (k + 1)),⟨by rw [hst];exact stepTm_yes (hft (by omega)) (.inr (by omega)),Nat.le_refl _⟩,[0,1,2],Cut.A,allA⟩⟩)
  ·(refine ⟨⟨(m,n),⟨by rw [hst];exact stepTm_no2 (by omega) (by omega),Nat.le_succ_of_le hm⟩,[0,1,2],Cut.A,allA⟩⟩)
  ·(refine ⟨⟨(m,n),⟨by rw [hst];exact stepTm_no (hff (by omega)),Nat.le_succ_of_le hm⟩,[0,1,2],Cut.A,allA⟩⟩)
 case done =>
  rintro ⟨m,n⟩ ⟨hx,hm⟩
  dsimp only
  (repeat' ((try conv=>whnf);first|(with_reducible first|refine wT ?_|refine wF ?_|(refine wI (fun hq=>?_) (fun hq=>?_) <;> try simp only [zA,zE,zD,zJ,zB,zI,wK,wL] at hq)|refine wA ?_|refine wB ?_|refine wC ?_|refine wD ?_|refine wE ?_)|((with_reducible refine wN ?_ ?_);focus exact needA)|(with_reducible first|refine FBit.hasT rfl (by assumption) ?_|refine FBit.hasF rfl (by assumption) ?_|refine FBit.shrN rfl (by omega) ?_|refine FBit.half rfl ?_|refine FBit.shl1 rfl (by omega) ?_|refine Fits.inU (by omega) ?_|refine FBit.shrNI rfl (by omega) ?_|refine FBit.shrIN rfl (by omega) (by omega) ?_|refine FBit.shrI rfl (by omega) (by omega) ?_|refine FBit.shl1I rfl (by omega) ?_)|(with_reducible refine FBit.has rfl (fun hq=>?_) (fun hq=>?_))|(with_reducible first|refine FBit.and1 rfl ?_|refine FBit.andN rfl (by omega) (by omega) ?_|refine FBit.orN rfl (by omega) (by omega) ?_|refine FBit.andNotN rfl (by omega) (by omega) ?_)|(with_reducible refine wG ?_)|(with_reducible refine wP ?_)))
  all_goals (try conv=>whnf)
  ·(refine ⟨⟨_,[],[],Cut.nil _,Ln.sameB _ rfl,?_,rfl⟩⟩)
   unfold teamE;rw [if_pos h0,hbe,hx,if_pos (by show m = 0;omega)];rfl
  ·(refine ⟨⟨_,[],[],Cut.nil _,Ln.sameB _ rfl,?_,rfl⟩⟩)
   unfold teamE;rw [if_pos h0,hbe,hx,if_neg (by show m ≠ 0;omega)];rfl
theorem pteam_ok (f:CFl) (c:Crew) (j:Job):ACall Try.prog 14 [aCrew f c,aJob j] [] (fun r h=>r = .tup 3 (ofL [AI (teamE c j).1,AI (teamE c j).2.1,AI (teamE c j).2.2]) ∧ h = []):=by
 by_cases h0:checkT c j = 0
 ·exact pteam_y f c j h0
 ·exact pteam_n f c j h0
end Go.Proofs.Ytkejebdfbkgaiaa

namespace Go.Proofs.Ytkejebdfbkgaiaa
open Go.RowKit

set_option maxHeartbeats 4000000
set_option maxRecDepth 100000
theorem pchain_n (f:CFl) (c:Crew) (j:Job) (m:Int) (h0:checkT c j ≠ 0):ACall Try.prog 15 [aCrew f c,aJob j,AI m] [] (fun r h=>r = .tup 2 (ofL [outI (chainE c j m).1,AI (chainE c j m).2]) ∧ h = []):=by
 have ht:=team_n f c j m h0
 have hne:checkTm c j m ≠ 0:=by rw [checkTm_c h0];exact h0
 (refine fcall_of mixed Try.func15 rfl (by decide) (hs:={}) ?k (ac:=?ac) ?c (rs:=?rs) ?r ?l ?H;(case k=>kernel_rfl);(case c=>(conv=>(lhs;cbv)));(case r=>(conv=>(lhs;cbv)));(case l=>exact Nat.le_of_ble_eq_true rfl))
 (repeat' ((try conv=>whnf);first|(with_reducible first|refine wT ?_|refine wF ?_|(refine wI (fun hq=>?_) (fun hq=>?_) <;> try simp only [zA,zE,zD,zJ,zB,zI,wK,wL] at hq)|refine wA ?_|refine wB ?_|refine wC ?_|refine wD ?_|refine wE ?_)|((with_reducible refine wN ?_ ?_);focus exact needA)|(with_reducible refine wG ?_)|(refine FCall.pure (ht) ⟨Ln.sameB _ rfl,Ln.sameB _ rfl,Ln.sameB _ rfl,True.intro⟩ rfl ?_)|(with_reducible refine wP ?_)))
 all_goals (try conv=>whnf)
 have hcE:chainE c j m = ([],checkTm c j m):=by unfold chainE;rw [if_neg hne]
 rw [hcE]
 exact ⟨⟨.tup 2 (ofL [outI [],AI (checkTm c j m)]),[],[],Cut.nil _,Ln.A,rfl,rfl⟩⟩
theorem pchain_y (f:CFl) (c:Crew) (j:Job) (m:Int) (h0:checkT c j = 0):ACall Try.prog 15 [aCrew f c,aJob j,AI m] [] (fun r h=>r = .tup 2 (ofL [outI (chainE c j m).1,AI (chainE c j m).2]) ∧ h = []):=by
 have ht:=team_y f c j m h0
 (refine fcall_of mixed Try.func15 rfl (by decide) (hs:={}) ?k (ac:=?ac) ?c (rs:=?rs) ?r ?l ?H;(case k=>kernel_rfl);(case c=>(conv=>(lhs;cbv)));(case r=>(conv=>(lhs;cbv)));(case l=>exact Nat.le_of_ble_eq_true rfl))
 (repeat' ((try conv=>whnf);first|(with_reducible first|refine wT ?_|refine wF ?_|(refine wI (fun hq=>?_) (fun hq=>?_) <;> try simp only [zA,zE,zD,zJ,zB,zI,wK,wL] at hq)|refine wA ?_|refine wB ?_|refine wC ?_|refine wD ?_|refine wE ?_)|((with_reducible refine wN ?_ ?_);focus exact needA)|(with_reducible refine wG ?_)|(refine FCall.pure (ht) ⟨Ln.sameB _ rfl,Ln.sameB _ rfl,Ln.sameB _ rfl,True.intro⟩ rfl ?_)|(with_reducible refine wP ?_)))
 all_goals (try conv=>whnf)
 ·have hcE:chainE c j m = ([],checkTm c j m):=by unfold chainE;rw [if_neg hq]
  rw [hcE]
  exact ⟨⟨.tup 2 (ofL [outI [],AI (checkTm c j m)]),[],[],Cut.nil _,Ln.A,rfl,rfl⟩⟩
 ·obtain ⟨hc,hj,h0,h1⟩:=checkTm_0 hq
  obtain ⟨s,rfl⟩:∃ s:Nat,m = s:=⟨m.toNat,by omega⟩
  have hq0:=hq
  obtain ⟨d1,d2,d3,d4,d5⟩:=crew_d hc
  have hp:=pow_le d2
  have hs:s < 256:=by omega
  clear hq h0 h1
  obtain ⟨j1,j2,j3,j4,j5,j6,j7⟩:=job_d hj
  obtain ⟨n,hn⟩:∃ n:Nat,c.langs = n:=⟨c.langs.toNat,by omega⟩
  have hnn:c.langs.toNat = n:=by omega
  obtain ⟨a,ha⟩:∃ a:Nat,j.fr = a:=⟨j.fr.toNat,by omega⟩
  obtain ⟨b,hb⟩:∃ b:Nat,j.to = b:=⟨j.to.toNat,by omega⟩
  have haa:j.fr.toNat = a:=by omega
  have hbb:j.to.toNat = b:=by omega
  have hdl:∀ {x:Nat},(distL n (relT c s (lawOf c j).level) x).length = n:=by simp [distL]
  have hdg:∀ {x:Nat},x < n → (distL n (relT c s (lawOf c j).level) b).getD x 0 = dist n (relT c s (lawOf c j).level) b x:=fun h=>getD_range h
  have hB:backT c j s = dist n (relT c s (lawOf c j).level) b:=by unfold backT relOf;rw [hnn,hbb]
  have hga:=hdg (x:=a) (by omega)
  have hbl:=hdl (x:=b)
  have hfar:=far_ok f c j (lawOf c j) s n b hc hn hb (by omega)
  (repeat' ((try conv=>whnf);first|(with_reducible first|refine wT ?_|refine wF ?_|(refine wI (fun hq=>?_) (fun hq=>?_) <;> try simp only [zA,zE,zD,zJ,zB,zI,wK,wL] at hq)|refine wA ?_|refine wB ?_|refine wC ?_|refine wD ?_|refine wE ?_)|((with_reducible refine wN ?_ ?_);focus exact needA)|(with_reducible first|refine FBit.hasT rfl (by assumption) ?_|refine FBit.hasF rfl (by assumption) ?_|refine FBit.shrN rfl (by omega) ?_|refine FBit.half rfl ?_|refine FBit.shl1 rfl (by omega) ?_|refine Fits.inU (by omega) ?_|refine FBit.shrNI rfl (by omega) ?_|refine FBit.shrIN rfl (by omega) (by omega) ?_|refine FBit.shrI rfl (by omega) (by omega) ?_|refine FBit.shl1I rfl (by omega) ?_)|(with_reducible refine FBit.has rfl (fun hq=>?_) (fun hq=>?_))|(with_reducible first|refine FBit.and1 rfl ?_|refine FBit.andN rfl (by omega) (by omega) ?_|refine FBit.orN rfl (by omega) (by omega) ?_|refine FBit.andNotN rfl (by omega) (by omega) ?_)|(with_reducible refine wG ?_)|(refine FCall.pure (hfar) ⟨Ln.sameB _ rfl,Ln.sameB _ rfl,True.intro⟩ rfl ?_)|(with_reducible refine wP ?_)))
  all_goals (try conv=>whnf)
  ·have hneg:dist n (relT c s (lawOf c j).level) b a < 0:=by rw [← hga,← haa];exact hq
   have hcE:chainE c j s = ([],3):=by unfold chainE;rw [if_pos hq0,if_pos (by rw [Int.toNat_natCast,hB,haa];exact hneg)]
   rw [hcE]
   exact ⟨⟨.tup 2 (ofL [outI [],AI 3]),[],[],Cut.nil _,Ln.A,rfl,rfl⟩⟩
  ·rw [haa,hga] at hq
   obtain ⟨k,hk⟩:∃ k:Nat,dist n (relT c s (lawOf c j).level) b a = k:=⟨(dist n (relT c s (lawOf c j).level) b a).toNat,by omega⟩
   have hjn:∀ x y:Nat,x < n → y < n → ACall Try.prog 32 [pTask f c j (lawOf c j),AU s,AI x,AI y] [] (fun r h=>r = .bool (relT c s (lawOf c j).level x y) ∧ h = []):=fun x y hx hy=>joined_ok f c j (lawOf c j) s x y hc (by omega) (by omega)
   generalize hR:relT c s (lawOf c j).level = R at *
   have hRs:∀ a b,R a b = R b a:=fun a b=>by rw [← hR];exact rel_sym _ _ _ _ _
   have hcE:chainE c j s = ((a:Int) :: chainL n R (dist n R b) k a,0):=by
    unfold chainE
    rw [if_pos hq0,if_neg (by rw [Int.toNat_natCast,hB,haa];omega)]
    unfold chainT
    rw [Int.toNat_natCast,hB,haa,hk,hnn,ha]
    unfold relOf
    rw [hR];rfl
   rw [hcE]
   generalize hW:(a:Int) :: chainL n R (dist n R b) k a = W
   have hkn:=dist_lt (R:=R) (a:=b) (b:=a) (n:=n) (by omega)
   refine FLoop.of4 (ACalls.mono _) (fun (e k m:Nat) (l:List Int)=>[(2,AI s),(4,.ptr 0 0),(8,pTask f c j (lawOf c j)),(10,aInts false false (distL n R b)),(11,match m with|0=>aInts false true [(a:Int)]|m + 1=>.own 1 (m + 2)),(12,AI e)]) (fun e k m l=>match m with
    | 0=>[.box 6 (cJob j)]
    | m + 1=>[.box 6 (cJob j),rowI (m + 2) l]) (fun e k m l=>e < n ∧ dist n R b e = k ∧ m + 1 = l.length ∧ l ++ chainL n R (dist n R b) k e = W ∧ m + k < n ∧ (m = 0 → e = a ∧ l = [(a:Int)])) (fun e k m l=>k) a k 0 [(a:Int)] ⟨⟨by omega,hk,rfl,hW,by omega,fun _=>⟨rfl,rfl⟩⟩,[1],Cut.A,?vals⟩ ?_
   case vals=>exact ⟨Ln.A,Ln.A,Ln.A,Ln.A,Ln.sl _ _ _ _ _ _ _ (fun _=>rfl) (fun k hk o ho=>by obtain rfl:k = 0:=(by omega);rw [← ha];rfl),Ln.A,True.intro⟩
   rintro e k m l ⟨he,hke,hml,hl,hmk,hm0⟩
   have hge:=hdg he
   by_cases hab:e = b
   ·subst hab
    rw [dist_self] at hke
    obtain rfl:k = 0:=by omega
    rw [chainL,List.append_nil] at hl
    rcases m with _|m
    ·have:=(hm0 rfl).1;omega
    ·(repeat' ((try conv=>whnf);first|(with_reducible first|refine wT ?_|refine wF ?_|(refine wI (fun hq=>?_) (fun hq=>?_) <;> try simp only [zA,zE,zD,zJ,zB,zI,wK,wL] at hq)|refine wA ?_|refine wB ?_|refine wC ?_|refine wD ?_|refine wE ?_)|((with_reducible refine wN ?_ ?_);focus exact needA)|(with_reducible first|refine FBit.hasT rfl (by assumption) ?_|refine FBit.hasF rfl (by assumption) ?_|refine FBit.shrN rfl (by omega) ?_|refine FBit.half rfl ?_|refine FBit.shl1 rfl (by omega) ?_|refine Fits.inU (by omega) ?_|refine FBit.shrNI rfl (by omega) ?_|refine FBit.shrIN rfl (by omega) (by omega) ?_|refine FBit.shrI rfl (by omega) (by omega) ?_|refine FBit.shl1I rfl (by omega) ?_)|(with_reducible refine FBit.has rfl (fun hq=>?_) (fun hq=>?_))|(with_reducible first|refine FBit.and1 rfl ?_|refine FBit.andN rfl (by omega) (by omega) ?_|refine FBit.orN rfl (by omega) (by omega) ?_|refine FBit.andNotN rfl (by omega) (by omega) ?_)|(with_reducible refine wG ?_)|(with_reducible refine wP ?_)))
     all_goals (try conv=>whnf)
     rw [← hl]
     exact ⟨⟨.tup 2 (ofL [outI l,AI 0]),[],[],Cut.nil _,Ln.tupN ⟨⟨True.intro,Ln.out (goneB rfl) rfl (Nat.le_refl _) hml (fun _ _ _ _=>rfl)⟩,Ln.A⟩,rfl,rfl⟩⟩
   ·obtain ⟨k,rfl⟩:∃ k',k = k' + 1:=⟨k - 1,by
     have h0:dist n R b e ≠ 0:=fun h=>hab (dist_zero h).symm
     omega⟩
    rcases m with _|m
    ·obtain ⟨hea,hla⟩:=hm0 rfl
     subst hla
     (repeat' ((try conv=>whnf);first|(with_reducible first|refine wT ?_|refine wF ?_|(refine wI (fun hq=>?_) (fun hq=>?_) <;> try simp only [zA,zE,zD,zJ,zB,zI,wK,wL] at hq)|refine wA ?_|refine wB ?_|refine wC ?_|refine wD ?_|refine wE ?_)|((with_reducible refine wN ?_ ?_);focus exact needA)|(with_reducible first|refine FBit.hasT rfl (by assumption) ?_|refine FBit.hasF rfl (by assumption) ?_|refine FBit.shrN rfl (by omega) ?_|refine FBit.half rfl ?_|refine FBit.shl1 rfl (by omega) ?_|refine Fits.inU (by omega) ?_|refine FBit.shrNI rfl (by omega) ?_|refine FBit.shrIN rfl (by omega) (by omega) ?_|refine FBit.shrI rfl (by omega) (by omega) ?_|refine FBit.shl1I rfl (by omega) ?_)|(with_reducible refine FBit.has rfl (fun hq=>?_) (fun hq=>?_))|(with_reducible first|refine FBit.and1 rfl ?_|refine FBit.andN rfl (by omega) (by omega) ?_|refine FBit.orN rfl (by omega) (by omega) ?_|refine FBit.andNotN rfl (by omega) (by omega) ?_)|(with_reducible refine wG ?_)|(with_reducible refine wP ?_)))
     all_goals (try conv=>whnf)
     refine FLoop.of (ACalls.mono _) (X:=Nat) (fun q=>[(2,AI s),(4,.ptr 0 0),(8,pTask f c j (lawOf c j)),(10,aInts false false (distL n R b)),(11,aInts false true [(a:Int)]),(12,AI e),(44,aInts false false (distL n R b)),(45,AI n),(46,AI q)]) (fun _=>[.box 6 (cJob j)]) (fun q=>q ≤ n ∧ ∀ x,x < q → ¬ (dist n R b x = dist n R b e - 1 ∧ R e x = true)) (fun q=>n - q) 0 ⟨⟨Nat.zero_le _,fun x hx=>by omega⟩,[0],Cut.A,allA⟩ ?_
     rintro q ⟨hq1,hno⟩
     by_cases hql:q < n
     ·have hgq:=hdg hql
      have hjc:=hjn e q he hql
      (repeat' ((try conv=>whnf);first|(with_reducible first|refine wT ?_|refine wF ?_|(refine wI (fun hq=>?_) (fun hq=>?_) <;> try simp only [zA,zE,zD,zJ,zB,zI,wK,wL] at hq)|refine wA ?_|refine wB ?_|refine wC ?_|refine wD ?_|refine wE ?_)|((with_reducible refine wN ?_ ?_);focus exact needA)|(with_reducible first|refine FBit.hasT rfl (by assumption) ?_|refine FBit.hasF rfl (by assumption) ?_|refine FBit.shrN rfl (by omega) ?_|refine FBit.half rfl ?_|refine FBit.shl1 rfl (by omega) ?_|refine Fits.inU (by omega) ?_|refine FBit.shrNI rfl (by omega) ?_|refine FBit.shrIN rfl (by omega) (by omega) ?_|refine FBit.shrI rfl (by omega) (by omega) ?_|refine FBit.shl1I rfl (by omega) ?_)|(with_reducible refine FBit.has rfl (fun hq=>?_) (fun hq=>?_))|(with_reducible first|refine FBit.and1 rfl ?_|refine FBit.andN rfl (by omega) (by omega) ?_|refine FBit.orN rfl (by omega) (by omega) ?_|refine FBit.andNotN rfl (by omega) (by omega) ?_)|(with_reducible refine wG ?_)|(refine FCall.pure (hjc) ⟨Ln.sameB _ rfl,Ln.sameB _ rfl,Ln.sameB _ rfl,Ln.sameB _ rfl,True.intro⟩ rfl ?_)|(with_reducible refine wP ?_)))
      all_goals (try conv=>whnf)
      ·have hyes:R e q = true:=hq
       have hdq:dist n R b q = dist n R b e - 1:=by omega
       have hnx:=nextT_eq (D:=dist n R b) hql hno hdq hyes
       have hdk:dist n R b q = k:=by omega
       have hl2:[(a:Int)] ++ [(q:Int)] ++ chainL n R (dist n R b) k q = W:=by rw [← hl,chainL,hnx,List.append_assoc];rfl
       (exact ⟨⟨q,k,1,([(a:Int)] ++ [(q:Int)]),⟨hql,hdk,rfl,hl2,by omega,fun h=>by cases h⟩,by show k < k + 1;omega,[0,1],(by (refine wO rfl rfl rfl ?_;repeat (first|exact wX|(refine wV rfl (by first|exact LnB.rowS|exact LnB.app (fun k hk o ho=>by obtain rfl:k = 0:=(by omega);rfl) (fun o ho=>rfl)|exact LnB.A) ?_)|(refine CutL.gone (Nat.lt_of_lt_of_le (Nat.lt_succ_self _) (Nat.le_of_ble_eq_true rfl)) ?_)))),allA⟩⟩)
      ·(exact ⟨⟨(q + 1),⟨hql,fun x hx=>by by_cases e':x = q;(· subst e';intro h;rw [hq] at h;cases h.2);exact hno x (by omega)⟩,by show _ < _;omega,[0],Cut.A,allA⟩⟩)
      ·(exact ⟨⟨(q + 1),⟨hql,fun x hx=>by by_cases e':x = q;(· subst e';intro h;omega);exact hno x (by omega)⟩,by show _ < _;omega,[0],Cut.A,allA⟩⟩)
     ·exfalso
      obtain ⟨x,hx1,hx2,hx3⟩:=next_ex (n:=n) hRs (t:=b) (a:=e) (by omega)
      exact hno x (by omega) ⟨hx2,hx3⟩
    ·(repeat' ((try conv=>whnf);first|(with_reducible first|refine wT ?_|refine wF ?_|(refine wI (fun hq=>?_) (fun hq=>?_) <;> try simp only [zA,zE,zD,zJ,zB,zI,wK,wL] at hq)|refine wA ?_|refine wB ?_|refine wC ?_|refine wD ?_|refine wE ?_)|((with_reducible refine wN ?_ ?_);focus exact needA)|(with_reducible first|refine FBit.hasT rfl (by assumption) ?_|refine FBit.hasF rfl (by assumption) ?_|refine FBit.shrN rfl (by omega) ?_|refine FBit.half rfl ?_|refine FBit.shl1 rfl (by omega) ?_|refine Fits.inU (by omega) ?_|refine FBit.shrNI rfl (by omega) ?_|refine FBit.shrIN rfl (by omega) (by omega) ?_|refine FBit.shrI rfl (by omega) (by omega) ?_|refine FBit.shl1I rfl (by omega) ?_)|(with_reducible refine FBit.has rfl (fun hq=>?_) (fun hq=>?_))|(with_reducible first|refine FBit.and1 rfl ?_|refine FBit.andN rfl (by omega) (by omega) ?_|refine FBit.orN rfl (by omega) (by omega) ?_|refine FBit.andNotN rfl (by omega) (by omega) ?_)|(with_reducible refine wG ?_)|(with_reducible refine wP ?_)))
     all_goals (try conv=>whnf)
     refine FLoop.of (ACalls.mono _) (X:=Nat) (fun q=>[(2,AI s),(4,.ptr 0 0),(8,pTask f c j (lawOf c j)),(10,aInts false false (distL n R b)),(11,.own 1 (m + 2)),(12,AI e),(44,aInts false false (distL n R b)),(45,AI n),(46,AI q)]) (fun _=>[.box 6 (cJob j),rowI (m + 2) l]) (fun q=>q ≤ n ∧ ∀ x,x < q → ¬ (dist n R b x = dist n R b e - 1 ∧ R e x = true)) (fun q=>n - q) 0 ⟨⟨Nat.zero_le _,fun x hx=>by omega⟩,[0,1],Cut.A,allA⟩ ?_
     rintro q ⟨hq1,hno⟩
     by_cases hql:q < n
     ·have hgq:=hdg hql
      have hjc:=hjn e q he hql
      (repeat' ((try conv=>whnf);first|(with_reducible first|refine wT ?_|refine wF ?_|(refine wI (fun hq=>?_) (fun hq=>?_) <;> try simp only [zA,zE,zD,zJ,zB,zI,wK,wL] at hq)|refine wA ?_|refine wB ?_|refine wC ?_|refine wD ?_|refine wE ?_)|((with_reducible refine wN ?_ ?_);focus exact needA)|(with_reducible first|refine FBit.hasT rfl (by assumption) ?_|refine FBit.hasF rfl (by assumption) ?_|refine FBit.shrN rfl (by omega) ?_|refine FBit.half rfl ?_|refine FBit.shl1 rfl (by omega) ?_|refine Fits.inU (by omega) ?_|refine FBit.shrNI rfl (by omega) ?_|refine FBit.shrIN rfl (by omega) (by omega) ?_|refine FBit.shrI rfl (by omega) (by omega) ?_|refine FBit.shl1I rfl (by omega) ?_)|(with_reducible refine FBit.has rfl (fun hq=>?_) (fun hq=>?_))|(with_reducible first|refine FBit.and1 rfl ?_|refine FBit.andN rfl (by omega) (by omega) ?_|refine FBit.orN rfl (by omega) (by omega) ?_|refine FBit.andNotN rfl (by omega) (by omega) ?_)|(with_reducible refine wG ?_)|(refine FCall.pure (hjc) ⟨Ln.sameB _ rfl,Ln.sameB _ rfl,Ln.sameB _ rfl,Ln.sameB _ rfl,True.intro⟩ rfl ?_)|(with_reducible refine wP ?_)))
      all_goals (try conv=>whnf)
      ·have hyes:R e q = true:=hq
       have hdq:dist n R b q = dist n R b e - 1:=by omega
       have hnx:=nextT_eq (D:=dist n R b) hql hno hdq hyes
       have hdk:dist n R b q = k:=by omega
       have hl2:l ++ [(q:Int)] ++ chainL n R (dist n R b) k q = W:=by rw [← hl,chainL,hnx,List.append_assoc];rfl
       (exact ⟨⟨q,k,(m + 2),(l ++ [(q:Int)]),⟨hql,hdk,by rw [List.length_append,← hml];rfl,hl2,by omega,fun h=>by cases h⟩,by show k < k + 1;omega,[0,2],(by (refine wO rfl rfl rfl ?_;repeat (first|exact wX|(refine wV rfl (by first|exact LnB.rowS|exact LnB.app (fun k hk o ho=>int_eq (by rw [getD_snoc,if_pos (by omega)])) (fun o ho=>by show AI _ = AI _;exact int_eq (by rw [getD_snoc,if_neg (by omega),if_pos (by omega)]))|exact LnB.A) ?_)|(refine CutL.gone (Nat.lt_of_lt_of_le (Nat.lt_succ_self _) (Nat.le_of_ble_eq_true rfl)) ?_)))),allA⟩⟩)
      ·(exact ⟨⟨(q + 1),⟨hql,fun x hx=>by by_cases e':x = q;(· subst e';intro h;rw [hq] at h;cases h.2);exact hno x (by omega)⟩,by show _ < _;omega,[0,1],Cut.A,allA⟩⟩)
      ·(exact ⟨⟨(q + 1),⟨hql,fun x hx=>by by_cases e':x = q;(· subst e';intro h;omega);exact hno x (by omega)⟩,by show _ < _;omega,[0,1],Cut.A,allA⟩⟩)
     ·exfalso
      obtain ⟨x,hx1,hx2,hx3⟩:=next_ex (n:=n) hRs (t:=b) (a:=e) (by omega)
      exact hno x (by omega) ⟨hx2,hx3⟩
theorem pchain_ok (f:CFl) (c:Crew) (j:Job) (m:Int):ACall Try.prog 15 [aCrew f c,aJob j,AI m] [] (fun r h=>r = .tup 2 (ofL [outI (chainE c j m).1,AI (chainE c j m).2]) ∧ h = []):=by
 by_cases h0:checkT c j = 0
 ·exact pchain_y f c j m h0
 ·exact pchain_n f c j m h0
end Go.Proofs.Ytkejebdfbkgaiaa

namespace Go.Proofs.Ytkejebdfbkgaiaa
open Go.RowKit

def walkB (n:Nat) (R:Nat → Nat → Bool):Nat → Nat → Nat → Bool
 | 0,a,b=>decide (a = b)
 | k + 1,a,b=>(List.range n).any fun c=>walkB n R k a c && R c b
theorem walkB_iff {n:Nat} {R:Nat → Nat → Bool} {a:Nat}:∀ {k b:Nat},walkB n R k a b = true ↔ Walk n R k a b
 | 0,b=>by simp [walkB,Walk]
 | k + 1,b=>by
  simp only [walkB,Walk,List.any_eq_true,List.mem_range,Bool.and_eq_true]
  constructor
  ·rintro ⟨c,h1,h2,h3⟩;exact ⟨c,h1,walkB_iff.1 h2,h3⟩
  ·rintro ⟨c,h1,h2,h3⟩;exact ⟨c,h1,walkB_iff.2 h2,h3⟩
def distC (n:Nat) (R:Nat → Nat → Bool) (a b:Nat):Int:=match (List.range n).find? (fun k=>walkB n R k a b) with
 | some k=>k
 | none=>-1
theorem distC_eq {n:Nat} {R:Nat → Nat → Bool} {a b:Nat} (hb:b < n):dist n R a b = distC n R a b:=by
 have hlt:=dist_lt (R:=R) (a:=a) hb
 unfold distC
 rcases dist_spec n R a b with ⟨h1,h2⟩|⟨k,h1,h2,h3⟩
 ·rw [h1]
  have:(List.range n).find? (fun k=>walkB n R k a b) = none:=by
   rw [List.find?_eq_none]
   intro x _ h
   exact h2 x (walkB_iff.1 h)
  rw [this]
 ·have:(List.range n).find? (fun k=>walkB n R k a b) = some k:=by
   rw [List.find?_range_eq_some]
   refine ⟨walkB_iff.2 h2,by simp;omega,fun i hi=>?_⟩
   cases hw:walkB n R i a b
   ·rfl
   ·have:=h3 i (walkB_iff.1 hw);omega
  rw [this,h1]
def brokenC (c:Crew) (j:Job) (s:Nat):Nat :=
 soloT c j s ||| (if (pop s:Int) ≠ max j.size (lawOf c j).size then 8 else 0) ||| (if (lawOf c j).deaf && !deafT c s then 16 else 0) |||
  (if distC c.langs.toNat (relT c s (lawOf c j).level) j.fr.toNat j.to.toNat < 0 then 32 else 0)
theorem brokenC_eq {c:Crew} {j:Job} {s:Nat} (h:j.to.toNat < c.langs.toNat):brokenT c j s = brokenC c j s:=by
 unfold brokenT brokenC
 rw [distC_eq h]
def stepG (b:Nat → Nat) (c:Crew) (t:Nat) (x:Nat × Int):Nat × Int:=if (decide (0 < t) && decide (b t = 0)) && (decide (x.1 = 0) || decide (feeT c t < x.2)) then (t,feeT c t) else x
def teamG (b:Nat → Nat) (c:Crew):Nat → Nat × Int
 | 0=>(0,0)
 | t + 1=>stepG b c (t + 1) (teamG b c t)
theorem teamG_eq {c:Crew} {j:Job} {b:Nat → Nat} (h:∀ t,brokenT c j t = b t):∀ t,teamS c j t = teamG b c t
 | 0=>rfl
 | t + 1=>by
  rw [teamS,teamG,teamG_eq h t]
  unfold stepTm stepG fitsT
  rw [h]
def keptG (b:Nat → Nat) (N r:Nat):Bool:=(List.range N).any fun t=>decide (1 ≤ t) && decide (b t &&& r = 0)
theorem keptG_eq {c:Crew} {j:Job} {b:Nat → Nat} (h:∀ t,brokenT c j t = b t) {r:Nat}:keptT c j r = keptG b (2 ^ c.people.length) r:=by
 rw [Bool.eq_iff_iff,kept_iff]
 simp only [keptG,List.any_eq_true,List.mem_range,Bool.and_eq_true,decide_eq_true_eq,h]
 constructor
 ·rintro ⟨t,h1,h2,h3⟩;exact ⟨t,h2,h1,h3⟩
 ·rintro ⟨t,h1,h2,h3⟩;exact ⟨t,h2,h1,h3⟩
def whyG (k:Nat → Bool):Nat → Option Nat
 | 0=>none
 | r + 1=>if !k r && (match whyG k r with|none=>true|some b=>decide (pop r < pop b)) then some r else whyG k r
theorem whyG_eq {c:Crew} {j:Job} {k:Nat → Bool} (h:∀ r,keptT c j r = k r):∀ r,whyS c j r = whyG k r
 | 0=>rfl
 | r + 1=>by
  rw [whyS,whyG,whyG_eq h r,h]
  try rfl
theorem nextT_cong {n:Nat} {R:Nat → Nat → Bool} {D D':Nat → Int} {a:Nat} (h:∀ x,x < n → D x = D' x) (ha:a < n):nextT n R D a = nextT n R D' a ∧ nextT n R D' a < n:=by
 have:∀ l:List Nat,(∀ x ∈ l,x < n) → (l.find? fun x=>decide (D x = D a - 1) && R a x) = l.find? fun x=>decide (D' x = D' a - 1) && R a x:=by
  intro l
  induction l with
  | nil=>intro _;rfl
  | cons y l ih =>
   intro hl
   simp only [List.find?]
   rw [ih fun x hx=>hl x (by simp [hx]),h y (hl y (by simp)),h a ha]
 unfold nextT
 rw [this _ (fun x hx=>List.mem_range.1 hx)]
 refine ⟨rfl,?_⟩
 cases hf:(List.range n).find? fun x=>decide (D' x = D' a - 1) && R a x with
 | none=>simp;omega
 | some y=>have:=List.mem_of_find?_eq_some hf;simpa using this
theorem chainL_cong {n:Nat} {R:Nat → Nat → Bool} {D D':Nat → Int} (h:∀ x,x < n → D x = D' x):∀ {k a:Nat},a < n → chainL n R D k a = chainL n R D' k a
 | 0,_,_=>rfl
 | k + 1,a,ha=>by
  obtain ⟨e1,e2⟩:=nextT_cong (R:=R) h ha
  rw [chainL,chainL,e1,chainL_cong h e2]
/-- The example of the chapter. -/
def exC : Crew:=⟨3,[⟨[5,4,0],3,15,[],false,50⟩,⟨[0,5,3],3,15,[],true,40⟩,⟨[4,0,4],1,3,[7],false,30⟩,⟨[3,3,3],255,1,[],false,10⟩],[⟨2,1,false⟩,⟨4,2,false⟩,⟨3,2,true⟩,⟨5,1,false⟩]⟩
def exJ0 : Job:=⟨0,2,7,1,2,1⟩
def exJ2 : Job:=⟨0,2,7,1,1,1⟩
theorem ex_check0 : checkT exC exJ0 = 0:=by decide +kernel
theorem ex_check2 : checkT exC exJ2 = 0:=by decide +kernel
theorem ex_best : bestT exC exJ0 = (3,90):=by
 have h:teamG (brokenC exC exJ0) exC 15 = (3,90):=by decide +kernel
 unfold bestT
 rw [teamG_eq (b:=brokenC exC exJ0) (fun t=>brokenC_eq (by decide))];exact h
theorem ex_why : whyS exC exJ2 64 = some 33:=by
 have h:whyG (keptG (brokenC exC exJ2) 16) 64 = some 33:=by decide +kernel
 rw [whyG_eq (k:=keptG (brokenC exC exJ2) 16) (fun r=>keptG_eq (fun t=>brokenC_eq (by decide)))];exact h
theorem ex_team : teamE exC exJ0 = (3,90,0):=by unfold teamE;rw [if_pos ex_check0,ex_best];rfl
theorem ex_whyE : whyE exC exJ2 = (33,0):=by unfold whyE;rw [if_pos ex_check2,ex_why];rfl
theorem ex_chain : chainE exC exJ0 3 = ([0,1,2],0):=by
 have hm:checkTm exC exJ0 3 = 0:=by decide +kernel
 have hd:∀ x,x < 3 → backT exC exJ0 3 x = distC 3 (relOf exC exJ0 3) 2 x:=fun x hx=>distC_eq hx
 have h0:distC 3 (relOf exC exJ0 3) 2 0 = 2:=by decide +kernel
 have hl:(0:Int) :: chainL 3 (relOf exC exJ0 3) (distC 3 (relOf exC exJ0 3) 2) 2 0 = [0,1,2]:=by decide +kernel
 unfold chainE
 rw [if_pos hm]
 show (if backT exC exJ0 3 0 < 0 then _ else _) = _
 have hb:backT exC exJ0 3 0 = 2:=(hd 0 (by decide)).trans h0
 rw [if_neg (by rw [hb];decide)]
 have:chainT exC exJ0 3 = [0,1,2]:=by
  unfold chainT
  show (0:Int) :: chainL 3 (relOf exC exJ0 3) (backT exC exJ0 3) (backT exC exJ0 3 0).toNat 0 = _
  rw [hb,chainL_cong hd (by decide)];exact hl
 show (chainT exC exJ0 3,(0:Int)) = _
 rw [this]
end Go.Proofs.Ytkejebdfbkgaiaa
