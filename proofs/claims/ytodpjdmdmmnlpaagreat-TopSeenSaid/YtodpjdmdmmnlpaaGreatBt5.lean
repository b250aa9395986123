/- Signs: the reference's Shown, Agrees. / TopSeen: the law's walk (printed by gen_tslw.py). / TopSeen: how books and sights read (printed by gen_tsrd.py). -/
import Derived.Test.YtodpjdmdmmnlpaaGreatBt4
import Derived.Test.YtodpjdmdmmnlpaaGreatBs16
set_option linter.unusedSimpArgs false
set_option linter.unusedVariables false
namespace Go.Proofs.YtodpjdmdmmnlpaaGreat
open Go.RowKit

set_option maxHeartbeats 8000000
set_option maxRecDepth 100000
theorem shown_ok (z e z2 e2:Bool) (f:Form) (s:Seen) (hf:FormOk f) (hs:SeenOk s):ACall Tryz.prog 20 [aForm z e f,aSeen z2 e2 s] [] (fun r h=>r = .bool (showsR f s) ∧ h = []):=by
 have f1:=hf.r
 have f2:=hf.l
 have f3:=hf.fc
 have c1:=has1_ok s.ri (f.r + 1) (by have:=hs.ri;omega) (by omega)
 have c2:=has1_ok s.le (f.l + 1) (by have:=hs.le;omega) (by omega)
 have c3:=has1_ok s.fa f.f (by have:=hs.fa;omega) (by omega)
 have c4:=within_ok f.c s.cl s.ch
 have c5:=within_ok f.w s.rl s.rh
 have c6:=fits_ok f.mv (by have:=hf.n;omega) hf.mv z e z2 e2 s.mv s.lost (by have:=hs.n;omega) (fun k hk=>by have:=hs.mv k hk;omega) (by have:=hs.lost;omega)
 unfold showsR handsB
 (refine fcall_of mixed Tryz.func20 rfl (by decide) (hs:={}) ?k (ac:=?ac) ?c (rs:=?rs) ?r ?l ?H;(case k=>kernel_rfl);(case c=>(conv=>(lhs;cbv)));(case r=>(conv=>(lhs;cbv)));(case l=>exact Nat.le_of_ble_eq_true rfl))
 generalize bitI s.ri (f.r + 1) = b1 at *
 generalize bitI s.le (f.l + 1) = b2 at *
 generalize bitI s.fa f.f = b3 at *
 generalize inB f.c s.cl s.ch = b4 at *
 generalize inB f.w s.rl s.rh = b5 at *
 generalize fitsR f.mv s.mv s.lost.toNat = b6 at *
 (repeat' ((try conv=>whnf);first|(with_reducible first|refine wT ?_|refine wF ?_|(refine wI (fun hq=>?_) (fun hq=>?_) <;> try simp only [zA,zE,zD,zJ,zB,zI,wK,wL] at hq)|refine wA ?_|refine wB ?_|refine wC ?_|refine wD ?_|refine wE ?_)|((with_reducible refine wN ?_ ?_);focus exact needA)|(with_reducible refine wG ?_)|(refine FCall.pure (c1) ⟨Ln.sameB _ rfl,Ln.sameB _ rfl,True.intro⟩ rfl ?_)|(refine FCall.pure (c2) ⟨Ln.sameB _ rfl,Ln.sameB _ rfl,True.intro⟩ rfl ?_)|(refine FCall.pure (c3) ⟨Ln.sameB _ rfl,Ln.sameB _ rfl,True.intro⟩ rfl ?_)|(refine FCall.pure (c4) ⟨Ln.sameB _ rfl,Ln.sameB _ rfl,Ln.sameB _ rfl,True.intro⟩ rfl ?_)|(refine FCall.pure (c5) ⟨Ln.sameB _ rfl,Ln.sameB _ rfl,Ln.sameB _ rfl,True.intro⟩ rfl ?_)|(refine FCall.pure (c6) ⟨Ln.sameB _ rfl,Ln.sameB _ rfl,Ln.sameB _ rfl,True.intro⟩ rfl ?_)|(with_reducible refine wP ?_)))
 all_goals (try conv=>whnf)
 all_goals ((refine ⟨⟨_,[],[],Cut.nil _,Ln.sameB _ rfl,?_,rfl⟩⟩);first|(simp_all;done)|skip)
theorem and_nz {a b:Int} (ha:0 ≤ a) (hb:0 ≤ b):((a.toNat &&& b.toNat:Nat):Int) ≠ 0 ↔ a.toNat &&& b.toNat ≠ 0:=by omega
theorem agrees_ok (z e z2 e2:Bool) (x:Ent) (s:Seen) (hx:EntOk x) (hs:SeenOk s):ACall Tryz.prog 8 [aEnt z e x,aSeen z2 e2 s] [] (fun r h=>r = .bool (agR x s) ∧ h = []):=by
 have m1:=hx.rg
 have m2:=hs.rg
 have m3:=hx.ag
 have m4:=hs.ag
 have c1:=shown_ok z e z2 e2 x.fm s hx.fm hs
 have cM:=mirror_ok z e x.fm (by have:=hx.fm.c;omega) (by have:=hx.fm.n;omega) hx.fm.mv
 have c2:=shown_ok (decide ((mirF x.fm).mv.length = 0)) (decide ((mirF x.fm).mv.length = 0)) z2 e2 (mirF x.fm) s (mir_ok hx.fm) hs
 have hmeet:meetB x s = decide (max x.lo s.al ≤ min x.hi s.ah):=by
  unfold meetB
  rw [← Bool.decide_and]
  apply decide_eq_decide.2
  omega
 unfold agR
 rw [hmeet]
 have hreg:regB x s = decide (x.rg.toNat &&& s.rg.toNat ≠ 0):=rfl
 rw [hreg]
 obtain ⟨a,ha⟩:∃ a:Nat,x.rg = a:=⟨x.rg.toNat,by omega⟩
 obtain ⟨b,hb⟩:∃ b:Nat,s.rg = b:=⟨s.rg.toNat,by omega⟩
 rw [ha,hb,Int.toNat_natCast,Int.toNat_natCast]
 (refine fcall_of mixed Tryz.func8 rfl (by decide) (hs:={ ord:=[(1,[(0,[]),(1,[]),(2,[]),(3,[]),(4,[]),(5,[]),(6,[]),(7,[]),(8,[]),(9,[]),(10,[]),(11,[]),(12,[]),(13,[]),(14,[]),(15,[]),(16,[]),(17,[]),(18,[]),(19,[]),(20,[]),(21,[]),(22,[]),(23,[]),(24,[]),(25,[]),(26,[]),(27,[]),(28,[]),(29,[]),(30,[]),(32,[]),(31,[32]),(33,[]),(34,[]),(35,[]),(36,[])])] }) ?k (ac:=?ac) ?c (rs:=?rs) ?r ?l ?H;(case k=>kernel_rfl);(case c=>(conv=>(lhs;cbv)));(case r=>(conv=>(lhs;cbv)));(case l=>exact Nat.le_of_ble_eq_true rfl))
 by_cases h1:a &&& b = 0
 ·rw [show decide (a &&& b ≠ 0) = false from decide_eq_false (fun h=>h h1)]
  (repeat' ((try conv=>whnf);first|(with_reducible first|refine wT ?_|refine wF ?_|(refine wI (fun hq=>?_) (fun hq=>?_) <;> try simp only [zA,zE,zD,zJ,zB,zI,wK,wL] at hq)|refine wA ?_|refine wB ?_|refine wC ?_|refine wD ?_|refine wE ?_)|((with_reducible refine wN ?_ ?_);focus exact needA)|(with_reducible refine wG ?_)|(refine FBit.andI rfl (a:=a) (b:=b) ha hb (by omega) (by omega) ?_)|(with_reducible refine wP ?_)))
  all_goals (try conv=>whnf)
  all_goals first|(exfalso;omega)|((refine ⟨⟨_,[],[],Cut.nil _,Ln.sameB _ rfl,?_,rfl⟩⟩);rfl)
 ·rw [show decide (a &&& b ≠ 0) = true from decide_eq_true h1]
  generalize showsR x.fm s = b1 at *
  generalize showsR (mirF x.fm) s = b2 at *
  by_cases h2:max x.lo s.al ≤ min x.hi s.ah
  ·rw [decide_eq_true h2]
   (repeat' ((try conv=>whnf);first|(with_reducible first|refine wT ?_|refine wF ?_|(refine wI (fun hq=>?_) (fun hq=>?_) <;> try simp only [zA,zE,zD,zJ,zB,zI,wK,wL] at hq)|refine wA ?_|refine wB ?_|refine wC ?_|refine wD ?_|refine wE ?_)|((with_reducible refine wN ?_ ?_);focus exact needA)|(with_reducible refine wG ?_)|(refine FBit.andI rfl (a:=a) (b:=b) ha hb (by omega) (by omega) ?_)|(refine FCall.pure (c1) ⟨Ln.sameB _ rfl,Ln.sameB _ rfl,True.intro⟩ rfl ?_)|(refine FCall.pure (cM) ⟨Ln.sameB _ rfl,True.intro⟩ rfl ?_)|(refine FCall.pure (c2) ⟨Ln.sameB _ rfl,Ln.sameB _ rfl,True.intro⟩ rfl ?_)|(with_reducible refine wP ?_)))
   all_goals (try conv=>whnf)
   all_goals first|(exfalso;omega)|((refine ⟨⟨_,[],[],Cut.nil _,Ln.sameB _ rfl,?_,rfl⟩⟩);simp_all;done)|((refine ⟨⟨_,[],[],Cut.nil _,Ln.sameB _ rfl,?_,rfl⟩⟩);rfl)
  ·rw [decide_eq_false h2]
   (repeat' ((try conv=>whnf);first|(with_reducible first|refine wT ?_|refine wF ?_|(refine wI (fun hq=>?_) (fun hq=>?_) <;> try simp only [zA,zE,zD,zJ,zB,zI,wK,wL] at hq)|refine wA ?_|refine wB ?_|refine wC ?_|refine wD ?_|refine wE ?_)|((with_reducible refine wN ?_ ?_);focus exact needA)|(with_reducible refine wG ?_)|(refine FBit.andI rfl (a:=a) (b:=b) ha hb (by omega) (by omega) ?_)|(refine FCall.pure (c1) ⟨Ln.sameB _ rfl,Ln.sameB _ rfl,True.intro⟩ rfl ?_)|(refine FCall.pure (cM) ⟨Ln.sameB _ rfl,True.intro⟩ rfl ?_)|(refine FCall.pure (c2) ⟨Ln.sameB _ rfl,Ln.sameB _ rfl,True.intro⟩ rfl ?_)|(with_reducible refine wP ?_)))
   all_goals (try conv=>whnf)
   all_goals first|(exfalso;omega)|((refine ⟨⟨_,[],[],Cut.nil _,Ln.sameB _ rfl,?_,rfl⟩⟩);rfl)
end Go.Proofs.YtodpjdmdmmnlpaaGreat

namespace Go.Proofs.YtodpjdmdmmnlpaaGreat
open Go.RowKit

def sn0 : Seen:=⟨0,0,0,0,0,0,0,0,0,0,0,[]⟩
abbrev aSeens (g:EnF) (l:List Seen):AV:=.sl g.z g.e l.length 12 (fun k=>cSeen (g.fz k) (g.fe k) (l.getD k sn0))
abbrev cSight (g:EnF) (en:Int) (ss:List Seen) (a b:Int):Nat → AV:=ofL [AI en,aSeens g ss,AI a,AI b]
abbrev aSight (g:EnF) (en:Int) (ss:List Seen) (a b:Int):AV:=.agg 4 (cSight g en ss a b)
abbrev SfN (ss:List Seen) (k:Nat):Seen:=ss.getD k sn0
abbrev bS (g:EnF) (en:Int) (ss:List Seen) (a b:Int):AB:=.box 4 (cSight g en ss a b)
abbrev bF : AB:=.box 2 (cFilms false true fi10)
abbrev msL (l:List Ent) (a b:Int) (ss:List Seen) (n:Nat):List Gl:=msgsT l a b (SfN ss) n
theorem find_len (l:List Ent) (s:Seen) (hl:BookOk l):(findT l s).length ≤ l.length:=by
 have hn:(findT l s).Nodup:=(find_lt l s).imp fun h e=>by omega
 have:=List.Nodup.length_le_of_subset hn (l₂:=l.map (·.sg)) (fun n h=>by
  obtain ⟨x,hx,e,_⟩:=(find_mem hl n).1 h
  exact List.mem_map.2 ⟨x,hx,e⟩)
 rwa [List.length_map] at this
set_option maxHeartbeats 16000000
set_option maxRecDepth 100000
theorem topSeen_ok (f:EnF) (l:List Ent) (hlen:l.length ≤ 9223372036854775807) (g:EnF) (en:Int) (ss:List Seen) (a b:Int) (hsl:ss.length ≤ 9223372036854775807) (hmv:∀ k,k < ss.length → (SfN ss k).mv.length ≤ 9223372036854775807):ACall Tryz.prog 3 [aEnts f l,aSight g en ss a b] [] (fun r h=>r = .bool true ∧ h = []):=by
 have c1:=far1_ok f l hlen
 have cT:ACall Tryz.prog 6 [] [] (fun r h=>r = .bool true ∧ h = []):=read_ok
 (refine fcall_of mixed Tryz.func3 rfl (by decide) (hs:={ pub:=[27] }) ?k (ac:=?ac) ?c (rs:=?rs) ?r ?l ?H;(case k=>kernel_rfl);(case c=>(conv=>(lhs;cbv)));(case r=>(conv=>(lhs;cbv)));(case l=>exact Nat.le_of_ble_eq_true rfl))
 by_cases hF:farB l = true
 case pos =>
  rw [hF] at c1
  (repeat' ((try conv=>whnf);first|(with_reducible first|refine wT ?_|refine wF ?_|(refine wI (fun hq=>?_) (fun hq=>?_) <;> try simp only [zA,zE,zD,zJ,zB,zI,wK,wL] at hq)|refine wA ?_|refine wB ?_|refine wC ?_|refine wD ?_|refine wE ?_)|((with_reducible refine wN ?_ ?_);focus exact needA)|(with_reducible refine wG ?_)|(refine FCall.pure (c1) ⟨Ln.sameB _ rfl,True.intro⟩ rfl ?_)|(refine FCall.pure cT True.intro rfl ?_)|(with_reducible refine wP ?_)))
  all_goals (try conv=>whnf)
  all_goals ((refine ⟨⟨_,[],[],Cut.nil _,Ln.sameB _ rfl,?_,rfl⟩⟩);rfl)
 have hF':farB l = false:=by simpa using hF
 rw [hF'] at c1
 have hN:longB l = false:=by
  unfold farB at hF'
  simp only [Bool.or_eq_false_iff] at hF'
  exact hF'.1
 have c2:=check1_ok f l (nearB_of hN)
 by_cases hC:checkK l = 0
 case neg =>
  (repeat' ((try conv=>whnf);first|(with_reducible first|refine wT ?_|refine wF ?_|(refine wI (fun hq=>?_) (fun hq=>?_) <;> try simp only [zA,zE,zD,zJ,zB,zI,wK,wL] at hq)|refine wA ?_|refine wB ?_|refine wC ?_|refine wD ?_|refine wE ?_)|((with_reducible refine wN ?_ ?_);focus exact needA)|(with_reducible refine wG ?_)|(refine FCall.pure (c1) ⟨Ln.sameB _ rfl,True.intro⟩ rfl ?_)|(refine FCall.pure (c2) ⟨Ln.sameB _ rfl,True.intro⟩ rfl ?_)|(refine FCall.pure cT True.intro rfl ?_)|(with_reducible refine wP ?_)))
  all_goals (try conv=>whnf)
  all_goals first
   | (exfalso;omega)
   | ((refine ⟨⟨_,[],[],Cut.nil _,Ln.sameB _ rfl,?_,rfl⟩⟩);rfl)
 rw [hC] at c2
 have hB:=book_d hC
 have n40:=hB.n
 (repeat' ((try conv=>whnf);first|(with_reducible first|refine wT ?_|refine wF ?_|(refine wI (fun hq=>?_) (fun hq=>?_) <;> try simp only [zA,zE,zD,zJ,zB,zI,wK,wL] at hq)|refine wA ?_|refine wB ?_|refine wC ?_|refine wD ?_|refine wE ?_)|((with_reducible refine wN ?_ ?_);focus exact needA)|(with_reducible refine wG ?_)|(refine FCall.pure (c1) ⟨Ln.sameB _ rfl,True.intro⟩ rfl ?_)|(refine FCall.pure (c2) ⟨Ln.sameB _ rfl,True.intro⟩ rfl ?_)|(refine FCall.pure cT True.intro rfl ?_)|(with_reducible refine wP ?_)))
 all_goals (try conv=>whnf)
 all_goals try ((refine ⟨⟨_,[],[],Cut.nil _,Ln.sameB _ rfl,?_,rfl⟩⟩);rfl)
 have hen:0 ≤ en ∧ en < l.length:=by omega
 have hab:0 ≤ a ∧ a < b ∧ b ≤ 10:=by omega
 have hn1:1 ≤ ss.length ∧ ss.length ≤ 6:=by omega
 have hi:en.toNat < l.length:=by omega
 refine FLoop.of (ACalls.mono _) (X:=Nat) (fun k=>[(0,aEnts f l),(3,.ptr 0 0),(5,AI k)]) (fun _=>[bS g en ss a b]) (fun k=>k ≤ l.length ∧ ∀ j,j < k → (l.getD j en0).sg < 10) (fun k=>l.length - k) 0 ⟨⟨Nat.zero_le _,fun j hj=>absurd hj (Nat.not_lt_zero j)⟩,[0],Cut.A,allA⟩ ?_
 rintro k ⟨hk,hsm⟩
 by_cases hlt:k < l.length
 case pos =>
  (repeat' ((try conv=>whnf);first|(with_reducible first|refine wT ?_|refine wF ?_|(refine wI (fun hq=>?_) (fun hq=>?_) <;> try simp only [zA,zE,zD,zJ,zB,zI,wK,wL] at hq)|refine wA ?_|refine wB ?_|refine wC ?_|refine wD ?_|refine wE ?_)|((with_reducible refine wN ?_ ?_);focus exact needA)|(with_reducible refine wG ?_)|(refine FCall.pure cT True.intro rfl ?_)|(with_reducible refine wP ?_)))
  all_goals (try conv=>whnf)
  all_goals first
   | ((refine ⟨⟨_,[],[],Cut.nil _,Ln.sameB _ rfl,?_,rfl⟩⟩);rfl)
   | (exact ⟨⟨(k + 1),⟨hlt,fun j hj=>by
     by_cases e:j = k
     ·subst e;omega
     ·exact hsm j (by omega)⟩,by show _ < _;omega,[0],Cut.A,allA⟩⟩)
 obtain rfl:k = l.length:=by omega
 (repeat' ((try conv=>whnf);first|(with_reducible first|refine wT ?_|refine wF ?_|(refine wI (fun hq=>?_) (fun hq=>?_) <;> try simp only [zA,zE,zD,zJ,zB,zI,wK,wL] at hq)|refine wA ?_|refine wB ?_|refine wC ?_|refine wD ?_|refine wE ?_)|((with_reducible refine wN ?_ ?_);focus exact needA)|(with_reducible refine wG ?_)|(with_reducible refine wP ?_)))
 all_goals (try conv=>whnf)
 refine FLoop.of (ACalls.mono _) (X:=Nat) (fun i=>[(0,aEnts f l),(3,.ptr 0 0),(6,.ptr 1 0),(7,match i with|0=>nilS|m + 1=>.own 2 (m + 1)),(8,AI i)]) (fun i=>match i with
  | 0=>[bS g en ss a b,bF]
  | m + 1=>[bS g en ss a b,bF,rowG (m + 1) (msL l a b ss (m + 1))]) (fun i=>i ≤ ss.length ∧ ∀ j,j < i → SeenOk (SfN ss j) ∧ agR (l.getD en.toNat en0) (SfN ss j) = true) (fun i=>ss.length - i) 0 ⟨⟨Nat.zero_le _,fun j hj=>absurd hj (Nat.not_lt_zero j)⟩,[0,1],wO rfl rfl rfl (wV rfl LnB.A (wV rfl (LnB.boxN ⟨⟨True.intro,Ln.le _ _ True.intro (LeV.ints rfl (n1 rfl))⟩,Ln.A⟩) wX)),allA⟩ ?_
 rintro i ⟨hi2,hall⟩
 by_cases hli:i < ss.length
 ·rcases i with _|m
  ·have hj:0 < ss.length:=by omega
   have hmvj:=hmv 0 hj
   have e20:(SfN ss 0).mv.length = (ss.getD 0 sn0).mv.length:=rfl
   by_cases h20:(SfN ss 0).mv.length ≤ 20
   case neg =>
    (repeat' ((try conv=>whnf);first|(with_reducible first|refine wT ?_|refine wF ?_|(refine wI (fun hq=>?_) (fun hq=>?_) <;> try simp only [zA,zE,zD,zJ,zB,zI,wK,wL] at hq)|refine wA ?_|refine wB ?_|refine wC ?_|refine wD ?_|refine wE ?_)|((with_reducible refine wN ?_ ?_);focus exact needA)|(with_reducible refine wG ?_)|(refine FCall.pure cT True.intro rfl ?_)|(with_reducible refine wP ?_)))
    all_goals (try conv=>whnf)
    all_goals first
     | ((refine ⟨⟨_,[],[],Cut.nil _,Ln.sameB _ rfl,?_,rfl⟩⟩);rfl)
     | (exfalso;omega)
   have cS:=isSeen_ok (g.fz 0) (g.fe 0) (SfN ss 0) (by omega)
   by_cases hs:seenB (SfN ss 0) = true
   case neg =>
    rw [show seenB (SfN ss 0) = false by simpa using hs] at cS
    (repeat' ((try conv=>whnf);first|(with_reducible first|refine wT ?_|refine wF ?_|(refine wI (fun hq=>?_) (fun hq=>?_) <;> try simp only [zA,zE,zD,zJ,zB,zI,wK,wL] at hq)|refine wA ?_|refine wB ?_|refine wC ?_|refine wD ?_|refine wE ?_)|((with_reducible refine wN ?_ ?_);focus exact needA)|(with_reducible refine wG ?_)|(refine FCall.pure cT True.intro rfl ?_)|(refine FCall.pure (cS) ⟨Ln.sameB _ rfl,True.intro⟩ rfl ?_)|(with_reducible refine wP ?_)))
    all_goals (try conv=>whnf)
    all_goals first
     | ((refine ⟨⟨_,[],[],Cut.nil _,Ln.sameB _ rfl,?_,rfl⟩⟩);rfl)
     | (exfalso;omega)
   rw [hs] at cS
   have hS:=seen_d hs
   have cA:=agrees_ok (f.fz en.toNat) (f.fe en.toNat) (g.fz 0) (g.fe 0) (l.getD en.toNat en0) (SfN ss 0) (hB.en _ hi) hS
   by_cases ha:agR (l.getD en.toNat en0) (SfN ss 0) = true
   case neg =>
    rw [show agR (l.getD en.toNat en0) (SfN ss 0) = false by simpa using ha] at cA
    (repeat' ((try conv=>whnf);first|(with_reducible first|refine wT ?_|refine wF ?_|(refine wI (fun hq=>?_) (fun hq=>?_) <;> try simp only [zA,zE,zD,zJ,zB,zI,wK,wL] at hq)|refine wA ?_|refine wB ?_|refine wC ?_|refine wD ?_|refine wE ?_)|((with_reducible refine wN ?_ ?_);focus exact needA)|(with_reducible refine wG ?_)|(refine FCall.pure cT True.intro rfl ?_)|(refine FCall.pure (cS) ⟨Ln.sameB _ rfl,True.intro⟩ rfl ?_)|(refine FCall.pure (cA) ⟨Ln.sameB _ rfl,Ln.sameB _ rfl,True.intro⟩ rfl ?_)|(refine FIdx.int (by omega) ?_)|(with_reducible refine wP ?_)))
    all_goals (try conv=>whnf)
    all_goals first
     | ((refine ⟨⟨_,[],[],Cut.nil _,Ln.sameB _ rfl,?_,rfl⟩⟩);rfl)
     | (exfalso;omega)
   rw [ha] at cA
   have cF:=pFind_ok f l hB (g.fz 0) (g.fe 0) (SfN ss 0) hS
   have hfl:=find_len l (SfN ss 0) hB
   have hfi:=find_in hB hsm (s:=SfN ss 0)
   (repeat' ((try conv=>whnf);first|(with_reducible first|refine wT ?_|refine wF ?_|(refine wI (fun hq=>?_) (fun hq=>?_) <;> try simp only [zA,zE,zD,zJ,zB,zI,wK,wL] at hq)|refine wA ?_|refine wB ?_|refine wC ?_|refine wD ?_|refine wE ?_)|((with_reducible refine wN ?_ ?_);focus exact needA)|(with_reducible refine wG ?_)|(refine FCall.pure cT True.intro rfl ?_)|(refine FCall.pure (cS) ⟨Ln.sameB _ rfl,True.intro⟩ rfl ?_)|(refine FCall.pure (cA) ⟨Ln.sameB _ rfl,Ln.sameB _ rfl,True.intro⟩ rfl ?_)|(refine FIdx.int (by omega) ?_)|(refine FCall.pure (cF) ⟨Ln.sameB _ rfl,Ln.sameB _ rfl,True.intro⟩ rfl ?_)|(with_reducible refine wP ?_)))
   all_goals (try conv=>whnf)
   all_goals try (exfalso;omega)
   refine FLoop.of (ACalls.mono _) (X:=Nat) (fun k=>[(0,aEnts f l),(3,.ptr 0 0),(6,.ptr 1 0),(7,nilS),(8,AI ((0:Nat):Int)),(10,aFind l (SfN ss 0)),(12,AI (setU (findT l (SfN ss 0)) k:Nat)),(13,AI k)]) (fun _=>[bS g en ss a b,bF]) (fun k=>k ≤ (findT l (SfN ss 0)).length) (fun k=>(findT l (SfN ss 0)).length - k) 0 ⟨Nat.zero_le _,[0,1],Cut.A,allA⟩ ?_
   intro k hk
   by_cases hlt:k < (findT l (SfN ss 0)).length
   ·have hv:=hfi _ (show (findT l (SfN ss 0)).getD k 0 ∈ findT l (SfN ss 0) by rw [List.getD,List.getElem?_eq_getElem hlt];exact List.getElem_mem hlt)
    have hsu:=setU_lt hfi k (by omega)
    have hpw:2 ^ ((findT l (SfN ss 0)).getD k 0).toNat < 1024:=Nat.pow_lt_pow_right (n:=10) (by decide) (by omega)
    (repeat' ((try conv=>whnf);first|(with_reducible first|refine wT ?_|refine wF ?_|(refine wI (fun hq=>?_) (fun hq=>?_) <;> try simp only [zA,zE,zD,zJ,zB,zI,wK,wL] at hq)|refine wA ?_|refine wB ?_|refine wC ?_|refine wD ?_|refine wE ?_)|((with_reducible refine wN ?_ ?_);focus exact needA)|(with_reducible refine wG ?_)|(refine Fits.inU (by omega) ?_)|(refine FBit.shl1I rfl (by omega) ?_)|(refine FBit.orN rfl (by omega) (by omega) ?_)|(with_reducible refine wP ?_)))
    all_goals (try conv=>whnf)
    all_goals try (exfalso;omega)
    (exact ⟨⟨(k + 1),hlt,by show _ < _;omega,[0,1],Cut.A,allA⟩⟩)
   ·obtain rfl:k = (findT l (SfN ss 0)).length:=by omega
    (repeat' ((try conv=>whnf);first|(with_reducible first|refine wT ?_|refine wF ?_|(refine wI (fun hq=>?_) (fun hq=>?_) <;> try simp only [zA,zE,zD,zJ,zB,zI,wK,wL] at hq)|refine wA ?_|refine wB ?_|refine wC ?_|refine wD ?_|refine wE ?_)|((with_reducible refine wN ?_ ?_);focus exact needA)|(with_reducible refine wG ?_)|(with_reducible refine wP ?_)))
    all_goals (try conv=>whnf)
    exact ⟨⟨(0 + 1),⟨hj,fun j hj2=>by
     by_cases e:j = 0
     ·subst e;exact ⟨hS,ha⟩
     ·exact hall j (by omega)⟩,by show ss.length - (0 + 1) < ss.length - 0;omega,[0,1,2],wO rfl rfl rfl (wV rfl LnB.A (wV rfl LnB.A (wV rfl (LnB.app (fun k hk=>absurd hk (Nat.not_lt_zero k)) (fun o ho=>by show cGl ((msL l a b ss (0 + 1)).getD 0 gl0) o = _;rw [msgs_get (by omega)];exact elem6 (x:=cGl _) rfl rfl rfl rfl rfl rfl o ho)) wX))),allA⟩⟩
  ·have hj:(m + 1) < ss.length:=by omega
   have hmvj:=hmv (m + 1) hj
   have e20:(SfN ss (m + 1)).mv.length = (ss.getD (m + 1) sn0).mv.length:=rfl
   by_cases h20:(SfN ss (m + 1)).mv.length ≤ 20
   case neg =>
    (repeat' ((try conv=>whnf);first|(with_reducible first|refine wT ?_|refine wF ?_|(refine wI (fun hq=>?_) (fun hq=>?_) <;> try simp only [zA,zE,zD,zJ,zB,zI,wK,wL] at hq)|refine wA ?_|refine wB ?_|refine wC ?_|refine wD ?_|refine wE ?_)|((with_reducible refine wN ?_ ?_);focus exact needA)|(with_reducible refine wG ?_)|(refine FCall.pure cT True.intro rfl ?_)|(with_reducible refine wP ?_)))
    all_goals (try conv=>whnf)
    all_goals first
     | ((refine ⟨⟨_,[],[],Cut.nil _,Ln.sameB _ rfl,?_,rfl⟩⟩);rfl)
     | (exfalso;omega)
   have cS:=isSeen_ok (g.fz (m + 1)) (g.fe (m + 1)) (SfN ss (m + 1)) (by omega)
   by_cases hs:seenB (SfN ss (m + 1)) = true
   case neg =>
    rw [show seenB (SfN ss (m + 1)) = false by simpa using hs] at cS
    (repeat' ((try conv=>whnf);first|(with_reducible first|refine wT ?_|refine wF ?_|(refine wI (fun hq=>?_) (fun hq=>?_) <;> try simp only [zA,zE,zD,zJ,zB,zI,wK,wL] at hq)|refine wA ?_|refine wB ?_|refine wC ?_|refine wD ?_|refine wE ?_)|((with_reducible refine wN ?_ ?_);focus exact needA)|(with_reducible refine wG ?_)|(refine FCall.pure cT True.intro rfl ?_)|(refine FCall.pure (cS) ⟨Ln.sameB _ rfl,True.intro⟩ rfl ?_)|(with_reducible refine wP ?_)))
    all_goals (try conv=>whnf)
    all_goals first
     | ((refine ⟨⟨_,[],[],Cut.nil _,Ln.sameB _ rfl,?_,rfl⟩⟩);rfl)
     | (exfalso;omega)
   rw [hs] at cS
   have hS:=seen_d hs
   have cA:=agrees_ok (f.fz en.toNat) (f.fe en.toNat) (g.fz (m + 1)) (g.fe (m + 1)) (l.getD en.toNat en0) (SfN ss (m + 1)) (hB.en _ hi) hS
   by_cases ha:agR (l.getD en.toNat en0) (SfN ss (m + 1)) = true
   case neg =>
    rw [show agR (l.getD en.toNat en0) (SfN ss (m + 1)) = false by simpa using ha] at cA
    (repeat' ((try conv=>whnf);first|(with_reducible first|refine wT ?_|refine wF ?_|(refine wI (fun hq=>?_) (fun hq=>?_) <;> try simp only [zA,zE,zD,zJ,zB,zI,wK,wL] at hq)|refine wA ?_|refine wB ?_|refine wC ?_|refine wD ?_|refine wE ?_)|((with_reducible refine wN ?_ ?_);focus exact needA)|(with_reducible refine wG ?_)|(refine FCall.pure cT True.intro rfl ?_)|(refine FCall.pure (cS) ⟨Ln.sameB _ rfl,True.intro⟩ rfl ?_)|(refine FCall.pure (cA) ⟨Ln.sameB _ rfl,Ln.sameB _ rfl,True.intro⟩ rfl ?_)|(refine FIdx.int (by omega) ?_)|(with_reducible refine wP ?_)))
    all_goals (try conv=>whnf)
    all_goals first
     | ((refine ⟨⟨_,[],[],Cut.nil _,Ln.sameB _ rfl,?_,rfl⟩⟩);rfl)
     | (exfalso;omega)
   rw [ha] at cA
   have cF:=pFind_ok f l hB (g.fz (m + 1)) (g.fe (m + 1)) (SfN ss (m + 1)) hS
   have hfl:=find_len l (SfN ss (m + 1)) hB
   have hfi:=find_in hB hsm (s:=SfN ss (m + 1))
   (repeat' ((try conv=>whnf);first|(with_reducible first|refine wT ?_|refine wF ?_|(refine wI (fun hq=>?_) (fun hq=>?_) <;> try simp only [zA,zE,zD,zJ,zB,zI,wK,wL] at hq)|refine wA ?_|refine wB ?_|refine wC ?_|refine wD ?_|refine wE ?_)|((with_reducible refine wN ?_ ?_);focus exact needA)|(with_reducible refine wG ?_)|(refine FCall.pure cT True.intro rfl ?_)|(refine FCall.pure (cS) ⟨Ln.sameB _ rfl,True.intro⟩ rfl ?_)|(refine FCall.pure (cA) ⟨Ln.sameB _ rfl,Ln.sameB _ rfl,True.intro⟩ rfl ?_)|(refine FIdx.int (by omega) ?_)|(refine FCall.pure (cF) ⟨Ln.sameB _ rfl,Ln.sameB _ rfl,True.intro⟩ rfl ?_)|(with_reducible refine wP ?_)))
   all_goals (try conv=>whnf)
   all_goals try (exfalso;omega)
   refine FLoop.of (ACalls.mono _) (X:=Nat) (fun k=>[(0,aEnts f l),(3,.ptr 0 0),(6,.ptr 1 0),(7,.own 2 (m + 1)),(8,AI (((m + 1):Nat):Int)),(10,aFind l (SfN ss (m + 1))),(12,AI (setU (findT l (SfN ss (m + 1))) k:Nat)),(13,AI k)]) (fun _=>[bS g en ss a b,bF,rowG (m + 1) (msL l a b ss (m + 1))]) (fun k=>k ≤ (findT l (SfN ss (m + 1))).length) (fun k=>(findT l (SfN ss (m + 1))).length - k) 0 ⟨Nat.zero_le _,[0,1,2],Cut.A,allA⟩ ?_
   intro k hk
   by_cases hlt:k < (findT l (SfN ss (m + 1))).length
   ·have hv:=hfi _ (show (findT l (SfN ss (m + 1))).getD k 0 ∈ findT l (SfN ss (m + 1)) by rw [List.getD,List.getElem?_eq_getElem hlt];exact List.getElem_mem hlt)
    have hsu:=setU_lt hfi k (by omega)
    have hpw:2 ^ ((findT l (SfN ss (m + 1))).getD k 0).toNat < 1024:=Nat.pow_lt_pow_right (n:=10) (by decide) (by omega)
    (repeat' ((try conv=>whnf);first|(with_reducible first|refine wT ?_|refine wF ?_|(refine wI (fun hq=>?_) (fun hq=>?_) <;> try simp only [zA,zE,zD,zJ,zB,zI,wK,wL] at hq)|refine wA ?_|refine wB ?_|refine wC ?_|refine wD ?_|refine wE ?_)|((with_reducible refine wN ?_ ?_);focus exact needA)|(with_reducible refine wG ?_)|(refine Fits.inU (by omega) ?_)|(refine FBit.shl1I rfl (by omega) ?_)|(refine FBit.orN rfl (by omega) (by omega) ?_)|(with_reducible refine wP ?_)))
    all_goals (try conv=>whnf)
    all_goals try (exfalso;omega)
    (exact ⟨⟨(k + 1),hlt,by show _ < _;omega,[0,1,2],Cut.A,allA⟩⟩)
   ·obtain rfl:k = (findT l (SfN ss (m + 1))).length:=by omega
    (repeat' ((try conv=>whnf);first|(with_reducible first|refine wT ?_|refine wF ?_|(refine wI (fun hq=>?_) (fun hq=>?_) <;> try simp only [zA,zE,zD,zJ,zB,zI,wK,wL] at hq)|refine wA ?_|refine wB ?_|refine wC ?_|refine wD ?_|refine wE ?_)|((with_reducible refine wN ?_ ?_);focus exact needA)|(with_reducible refine wG ?_)|(with_reducible refine wP ?_)))
    all_goals (try conv=>whnf)
    exact ⟨⟨(m + 1 + 1),⟨hj,fun j hj2=>by
     by_cases e:j = (m + 1)
     ·subst e;exact ⟨hS,ha⟩
     ·exact hall j (by omega)⟩,by show ss.length - (m + 1 + 1) < ss.length - (m + 1);omega,[0,1,3],wO rfl rfl rfl (wV rfl LnB.A (wV rfl LnB.A (wV rfl (LnB.app (fun k hk o ho=>by show cGl ((msL l a b ss (m + 1 + 1)).getD k gl0) o = cGl ((msL l a b ss (m + 1)).getD k gl0) o;rw [msgs_get (by omega),msgs_get hk]) (fun o ho=>by show cGl ((msL l a b ss (m + 1 + 1)).getD (m + 1) gl0) o = _;rw [msgs_get (by omega)];exact elem6 (x:=cGl _) rfl rfl rfl rfl rfl rfl o ho)) wX))),allA⟩⟩
 ·obtain ⟨m,rfl⟩:∃ m,i = m + 1:=⟨i - 1,by omega⟩
  have hm:m + 1 = ss.length:=by omega
  have hML:(msL l a b ss (m + 1)).length = m + 1:=msgs_len
  have law:SeenLaw l en.toNat a b (SfN ss) (m + 1):=⟨hB,hi,hsm,by omega,hab,fun j hj=>hall j hj⟩
  obtain ⟨x,hx,hpop,hrd⟩:=law.read
  have hmay:=law.may
  have hv:0 ≤ (l.getD en.toNat en0).sg ∧ (l.getD en.toNat en0).sg < 10:=law.v
  have cK:=rCheck_ok false true false false fi10 (msL l a b ss (m + 1)) law.ok
  have cR:=gread_ok false true false false fi10 (msL l a b ss (m + 1)) law.ok law.heldNe 0 (by decide) 10 rfl
  rw [show fi10.n.toNat = 10 from rfl,hrd] at cR
  have cU:=sure_ok false true false false fi10 (msL l a b ss (m + 1)) law.ok law.heldNe 0 a (by decide) ⟨hab.1,by show a < 10;omega⟩
  rw [show fi10.n.toNat = 10 from rfl] at cU
  have e1:([(⟨a,b,(x:Int)⟩:Rd)].getD 0 rd0).fr = a:=rfl
  have e2:([(⟨a,b,(x:Int)⟩:Rd)].getD 0 rd0).to = b:=rfl
  have cZ:=rSize_ok x hx
  rw [hpop] at cZ
  change ACall _ _ _ _ (fun r h=>r = AI 1 ∧ h = []) at cZ
  (repeat' ((try conv=>whnf);first|(with_reducible first|refine wT ?_|refine wF ?_|(refine wI (fun hq=>?_) (fun hq=>?_) <;> try simp only [zA,zE,zD,zJ,zB,zI,wK,wL] at hq)|refine wA ?_|refine wB ?_|refine wC ?_|refine wD ?_|refine wE ?_)|((with_reducible refine wN ?_ ?_);focus exact needA)|(with_reducible refine wG ?_)|(with_reducible refine wP ?_)))
  all_goals (try conv=>whnf)
  refine FWk.of [(0,aEnts f l),(3,.ptr 0 0),(6,.ptr 1 0),(7,aGls false false (msL l a b ss (m + 1)))] [bS g en ss a b,bF] [0,1] Cut.A ⟨Ln.A,Ln.A,Ln.A,Ln.pubE (goneB rfl) rfl (Nat.le_refl _) (by omega) (fun k hk o ho=>rfl),True.intro⟩ ?_
  (repeat' ((try conv=>whnf);first|(with_reducible first|refine FCond.t rfl ?_|refine FCond.f rfl ?_)|((with_reducible refine FCond.uT (fun hq=>?_));rw [hq];(with_reducible refine FCond.t rfl ?_);clear hq)|((with_reducible refine FCond.uF (fun hq=>?_));rw [hq];(with_reducible refine FCond.f rfl ?_);clear hq)|((with_reducible refine wJ (fun hq=>?_) (fun hq=>?_)) <;> (rw [hq];(with_reducible first|refine FCond.t rfl ?_|refine FCond.f rfl ?_);(try simp only [zA,zE,zD,zJ,zB,zI,wK,wL] at hq)))|(with_reducible first|refine wA ?_|refine wB ?_|refine wC ?_|refine wD ?_|refine wE ?_)|((with_reducible refine wN ?_ ?_);focus exact needA)|(with_reducible refine wG ?_)|(refine FCall.pure cT True.intro rfl ?_)|(refine FCall.pure (cK) ⟨Ln.sameB _ rfl,Ln.sameB _ rfl,True.intro⟩ rfl ?_)|(refine FCall.pure (cR) ⟨Ln.sameB _ rfl,Ln.sameB _ rfl,Ln.sameB _ rfl,True.intro⟩ rfl ?_)|(refine FCall.pure (cU) ⟨Ln.sameB _ rfl,Ln.sameB _ rfl,Ln.sameB _ rfl,Ln.sameB _ rfl,True.intro⟩ rfl ?_)|(refine FCall.pure (cZ) ⟨Ln.sameB _ rfl,True.intro⟩ rfl ?_)|(refine FIdx.lit rfl Nat.zero_lt_one ?_)|(refine FIdx.int (by omega) ?_)|(refine Fits.inU (by omega) ?_)|(refine FBit.shrNI rfl (by omega) ?_)|(refine FBit.hasT rfl hmay ?_)|(with_reducible refine wP ?_)))
  all_goals (try conv=>whnf)
  all_goals first
   | (exfalso;omega)
   | ((refine ⟨⟨_,[],[],Cut.nil _,Ln.sameB _ rfl,?_,rfl⟩⟩);rfl)
end Go.Proofs.YtodpjdmdmmnlpaaGreat

namespace Go.Proofs.YtodpjdmdmmnlpaaGreat
open Go.RowKit Go.ChangeShapes Go.WideShapes Go.Deep

section
variable {H:Type} {enc:TypeId × Value → H} {w:World} {base:Nat} {held:Bool}
theorem z1 : Tryz.prog.cellsOf 3 = 1:=by kernel_rfl
theorem z2 : Tryz.prog.cellsOf 30 = 1:=by kernel_rfl
theorem z3 : Tryz.prog.cellsOf 34 = 2:=by kernel_rfl
theorem z4 : Tryz.prog.cellsOf 32 = 6:=by kernel_rfl
theorem z5 : Tryz.prog.cellsOf 36 = 11:=by kernel_rfl
theorem z6 : Tryz.prog.cellsOf 41 = 12:=by kernel_rfl
theorem z7 : Tryz.prog.cellsOf 23 = 1:=by kernel_rfl
theorem z8 : Tryz.prog.cellsOf 25 = 4:=by kernel_rfl
theorem rt_int {n:Nat} {cs:List Value} {y:DataW H × List MemPlace} (h:DataW.trod enc Tryz.prog w base (fun _=>true) held n 3 cs = some y):∃ i:Int,I64 i ∧ CellsAre w cs 1 (fun _=>AI i):=rdr_int Tryz.underlying3 h
theorem rt_ints {n:Nat} {cs:List Value} {y:DataW H × List MemPlace} (h:DataW.trod enc Tryz.prog w base (fun _=>true) held n 30 cs = some y):∃ (z:Bool) (l:List Int),(l.length ≤ 9223372036854775807 ∧ ∀ x ∈ l,I64 x) ∧ CellsAre w cs 1 (fun _=>aInts z false l) :=
 rdr_slice (fun (x:Int) _=>AI x) I64 0 Tryz.underlying30 z1 (by omega) rt_int h
theorem rt_span {n:Nat} {cs:List Value} {y:DataW H × List MemPlace} (h:DataW.trod enc Tryz.prog w base (fun _=>true) held n 34 cs = some y):∃ x:Int × Int,True ∧ CellsAre w cs 2 (ofL [AI x.1,AI x.2]):=by
 obtain ⟨hl,⟨_,_,h0⟩,⟨_,_,h1⟩,_⟩:=rdr_fields Tryz.underlying34 h
 simp only [z1] at h0 h1
 obtain ⟨a,_,c0⟩:=rt_int h0
 obtain ⟨b,_,c1⟩:=rt_int h1
 refine ⟨(a,b),trivial,by rw [hl];exact z3,fun o ho=>?_⟩
 rcases (show o = 0 ∨ o = 1 by omega) with rfl|rfl
 ·exact c0.sub (o:=0) (by omega)
 ·exact c1.sub (o:=0) (by omega)
theorem rt_form {n:Nat} {cs:List Value} {y:DataW H × List MemPlace} (h:DataW.trod enc Tryz.prog w base (fun _=>true) held n 32 cs = some y):∃ x:Bool × Form,True ∧ CellsAre w cs 6 (cForm x.1 false x.2):=by
 obtain ⟨hl,⟨_,_,h0⟩,⟨_,_,h1⟩,⟨_,_,h2⟩,⟨_,_,h3⟩,⟨_,_,h4⟩,⟨_,_,h5⟩,_⟩:=rdr_fields Tryz.underlying32 h
 simp only [z1,z2] at h0 h1 h2 h3 h4 h5
 obtain ⟨a,_,c0⟩:=rt_int h0
 obtain ⟨b,_,c1⟩:=rt_int h1
 obtain ⟨c,_,c2⟩:=rt_int h2
 obtain ⟨d,_,c3⟩:=rt_int h3
 obtain ⟨e,_,c4⟩:=rt_int h4
 obtain ⟨z,l,_,c5⟩:=rt_ints h5
 refine ⟨(z,⟨a,b,c,d,e,l⟩),trivial,by rw [hl];exact z4,fun o ho=>?_⟩
 rcases (show o = 0 ∨ o = 1 ∨ o = 2 ∨ o = 3 ∨ o = 4 ∨ o = 5 by omega) with rfl|rfl|rfl|rfl|rfl|rfl
 ·exact c0.sub (o:=0) (by omega)
 ·exact c1.sub (o:=0) (by omega)
 ·exact c2.sub (o:=0) (by omega)
 ·exact c3.sub (o:=0) (by omega)
 ·exact c4.sub (o:=0) (by omega)
 ·exact c5.sub (o:=0) (by omega)
theorem rt_ent {n:Nat} {cs:List Value} {y:DataW H × List MemPlace} (h:DataW.trod enc Tryz.prog w base (fun _=>true) held n 36 cs = some y):∃ x:Bool × Ent,True ∧ CellsAre w cs 11 (cEnt x.1 false x.2):=by
 obtain ⟨hl,⟨_,_,h0⟩,⟨_,_,h1⟩,⟨_,_,h2⟩,⟨_,_,h3⟩,⟨_,_,h4⟩,_⟩:=rdr_fields Tryz.underlying36 h
 simp only [z1,z3,z4] at h0 h1 h2 h3 h4
 obtain ⟨a,_,c0⟩:=rt_int h0
 obtain ⟨b,_,c1⟩:=rt_int h1
 obtain ⟨c,_,c2⟩:=rt_int h2
 obtain ⟨⟨z,f⟩,_,c3⟩:=rt_form h3
 obtain ⟨⟨p,q⟩,_,c4⟩:=rt_span h4
 refine ⟨(z,⟨a,b,c,f,p,q⟩),trivial,by rw [hl];exact z5,fun o ho=>?_⟩
 rcases (show o = 0 ∨ o = 1 ∨ o = 2 ∨ o = 3 ∨ o = 4 ∨ o = 5 ∨ o = 6 ∨ o = 7 ∨ o = 8 ∨ o = 9 ∨ o = 10 by omega) with rfl|rfl|rfl|rfl|rfl|rfl|rfl|rfl|rfl|rfl|rfl
 ·exact c0.sub (o:=0) (by omega)
 ·exact c1.sub (o:=0) (by omega)
 ·exact c2.sub (o:=0) (by omega)
 ·exact c3.sub (o:=0) (by omega)
 ·exact c3.sub (o:=1) (by omega)
 ·exact c3.sub (o:=2) (by omega)
 ·exact c3.sub (o:=3) (by omega)
 ·exact c3.sub (o:=4) (by omega)
 ·exact c3.sub (o:=5) (by omega)
 ·exact c4.sub (o:=0) (by omega)
 ·exact c4.sub (o:=1) (by omega)
theorem rt_ents {n:Nat} {cs:List Value} {y:DataW H × List MemPlace} (h:DataW.trod enc Tryz.prog w base (fun _=>true) held n 22 cs = some y):∃ (f:EnF) (l:List Ent),l.length ≤ 9223372036854775807 ∧ CellsAre w cs 1 (fun _=>aEnts f l):=by
 obtain ⟨z,l,hl,c⟩:=rdr_slice (fun (x:Bool × Ent)=>cEnt x.1 false x.2) (fun _=>True) (true,en0) Tryz.underlying22 z5 (by omega) rt_ent h
 have hb:∀ k,(l.map Prod.snd).getD k en0 = (l.getD k (true,en0)).2:=fun k=>by
  simp only [List.getD,List.getElem?_map]
  cases l[k]? <;> rfl
 refine ⟨⟨z,false,fun k=>(l.getD k (true,en0)).1,fun _=>false⟩,l.map Prod.snd,by rw [List.length_map];exact hl.1,?_⟩
 simp only [aEnts,List.length_map,hb]
 exact c
theorem rt_seen {n:Nat} {cs:List Value} {y:DataW H × List MemPlace} (h:DataW.trod enc Tryz.prog w base (fun _=>true) held n 41 cs = some y):∃ x:Bool × Seen,x.2.mv.length ≤ 9223372036854775807 ∧ CellsAre w cs 12 (cSeen x.1 false x.2):=by
 obtain ⟨hl,⟨_,_,h0⟩,⟨_,_,h1⟩,⟨_,_,h2⟩,⟨_,_,h3⟩,⟨_,_,h4⟩,⟨_,_,h5⟩,⟨_,_,h6⟩,⟨_,_,h7⟩,⟨_,_,h8⟩,_⟩:=rdr_fields Tryz.underlying41 h
 simp only [z1,z2,z3] at h0 h1 h2 h3 h4 h5 h6 h7 h8
 obtain ⟨a,_,c0⟩:=rt_int h0
 obtain ⟨b,_,c1⟩:=rt_int h1
 obtain ⟨c,_,c2⟩:=rt_int h2
 obtain ⟨d,_,c3⟩:=rt_int h3
 obtain ⟨e,_,c4⟩:=rt_int h4
 obtain ⟨⟨p1,q1⟩,_,c5⟩:=rt_span h5
 obtain ⟨⟨p2,q2⟩,_,c6⟩:=rt_span h6
 obtain ⟨⟨p3,q3⟩,_,c7⟩:=rt_span h7
 obtain ⟨z,l,hlen,c8⟩:=rt_ints h8
 refine ⟨(z,⟨a,b,c,d,e,p1,q1,p2,q2,p3,q3,l⟩),hlen.1,by rw [hl];exact z6,fun o ho=>?_⟩
 rcases (show o = 0 ∨ o = 1 ∨ o = 2 ∨ o = 3 ∨ o = 4 ∨ o = 5 ∨ o = 6 ∨ o = 7 ∨ o = 8 ∨ o = 9 ∨ o = 10 ∨ o = 11 by omega) with rfl|rfl|rfl|rfl|rfl|rfl|rfl|rfl|rfl|rfl|rfl|rfl
 ·exact c0.sub (o:=0) (by omega)
 ·exact c1.sub (o:=0) (by omega)
 ·exact c2.sub (o:=0) (by omega)
 ·exact c3.sub (o:=0) (by omega)
 ·exact c4.sub (o:=0) (by omega)
 ·exact c5.sub (o:=0) (by omega)
 ·exact c5.sub (o:=1) (by omega)
 ·exact c6.sub (o:=0) (by omega)
 ·exact c6.sub (o:=1) (by omega)
 ·exact c7.sub (o:=0) (by omega)
 ·exact c7.sub (o:=1) (by omega)
 ·exact c8.sub (o:=0) (by omega)
theorem rt_seens {n:Nat} {cs:List Value} {y:DataW H × List MemPlace} (h:DataW.trod enc Tryz.prog w base (fun _=>true) held n 23 cs = some y):∃ (f:EnF) (l:List Seen),(l.length ≤ 9223372036854775807 ∧ ∀ k,k < l.length → (SfN l k).mv.length ≤ 9223372036854775807) ∧ CellsAre w cs 1 (fun _=>aSeens f l):=by
 obtain ⟨z,l,hl,c⟩:=rdr_slice (fun (x:Bool × Seen)=>cSeen x.1 false x.2) (fun x=>x.2.mv.length ≤ 9223372036854775807) (true,sn0) Tryz.underlying23 z6 (by omega) rt_seen h
 have hb:∀ k,(l.map Prod.snd).getD k sn0 = (l.getD k (true,sn0)).2:=fun k=>by
  simp only [List.getD,List.getElem?_map]
  cases l[k]? <;> rfl
 refine ⟨⟨z,false,fun k=>(l.getD k (true,sn0)).1,fun _=>false⟩,l.map Prod.snd,⟨by rw [List.length_map];exact hl.1,fun k hk=>?_⟩,?_⟩
 ·rw [List.length_map] at hk
  show ((l.map Prod.snd).getD k sn0).mv.length ≤ _
  rw [hb,List.getD,List.getElem?_eq_getElem hk]
  exact hl.2 _ (List.getElem_mem hk)
 ·simp only [aSeens,List.length_map,hb]
  exact c
structure SightF where
 g:EnF
 e:Int
 s:List Seen
 a:Int
 b:Int
theorem rt_sight {n:Nat} {cs:List Value} {y:DataW H × List MemPlace} (h:DataW.trod enc Tryz.prog w base (fun _=>true) held n 25 cs = some y):∃ x:SightF,(x.s.length ≤ 9223372036854775807 ∧ ∀ k,k < x.s.length → (SfN x.s k).mv.length ≤ 9223372036854775807) ∧ CellsAre w cs 4 (cSight x.g x.e x.s x.a x.b):=by
 obtain ⟨hl,⟨_,_,h0⟩,⟨_,_,h1⟩,⟨_,_,h2⟩,⟨_,_,h3⟩,_⟩:=rdr_fields Tryz.underlying25 h
 simp only [z1,z7] at h0 h1 h2 h3
 obtain ⟨a,_,c0⟩:=rt_int h0
 obtain ⟨g,l,hlen,c1⟩:=rt_seens h1
 obtain ⟨b,_,c2⟩:=rt_int h2
 obtain ⟨c,_,c3⟩:=rt_int h3
 refine ⟨⟨g,a,l,b,c⟩,hlen,by rw [hl];exact z8,fun o ho=>?_⟩
 rcases (show o = 0 ∨ o = 1 ∨ o = 2 ∨ o = 3 by omega) with rfl|rfl|rfl|rfl
 ·exact c0.sub (o:=0) (by omega)
 ·exact c1.sub (o:=0) (by omega)
 ·exact c2.sub (o:=0) (by omega)
 ·exact c3.sub (o:=0) (by omega)
end
end Go.Proofs.YtodpjdmdmmnlpaaGreat
