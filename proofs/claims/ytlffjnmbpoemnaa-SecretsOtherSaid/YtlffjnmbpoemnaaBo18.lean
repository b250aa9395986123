/- Secrets: moved (of any place), span, Range, IsSafe, Safe, CheckOther of the reference. / Secrets: Other and Same are those of the reference (SecretsOther). / Plain facts on memory: slices that read as lists, worlds that extend other worlds / How the form's readings of data give cells: slices, ints / What a law's row asks behind the walk: the call returned true and the world only has more / From handed data to abstract values; from a reading of a law to what its row asks / Secrets: how sheets, places and wider masks read. -/
import Derived.Test.YtlffjnmbpoemnaaBo17
import Derived.Test.YtlffjnmbpoemnaaBo8
import Derived.Test.YtlffjnmbpoemnaaBo15
import Derived.Test.YtlffjnmbpoemnaaBo16
import Derived.WalkKit
import Derived.WalkSpells
import Derived.WalkLawsBesides
import Derived.Deep.QuietTactic
import Derived.BigQuiet
import Derived.Lib.Hide
import Derived.Deep.Slices
import Derived.Lib.SmallJoins
import Derived.OpenShut
import Derived.WideKeyArgs
import Derived.Deep.OwnRows
import Derived.ProofKit
import Derived.JoinedOf
import Derived.Test.YtlffjnmbpoemnaaBo6
set_option linter.unusedSimpArgs false
set_option linter.unusedVariables false
namespace Go.Proofs.Ytlffjnmbpoemnaa
open Go.RowKit

set_option maxHeartbeats 16000000
set_option maxRecDepth 100000
theorem movedN1 (f:ShF) (s:Sheet) (hs:SheetOk s) (z e:Bool) (m:List Int) (hm:MaskOk s m) (r0 c0:Nat) (hr0:r0 < s.R) (hc0:c0 < s.C) (ho:outS m r0 c0 = false) (up:Bool) (hR:s.R = 1):ACall Try.prog 77 [aSh f s,aInts z e m,AI r0,AI c0,.bool up] [] (fun v h=>MovedOut s m r0 c0 up v h):=by
 have c4:=hs.c4
 have hml:=hm.len
 have hR':s.amounts.length = 1:=hR
 have cp:=copyOwn_ok f.za f.ea f.rz f.re s.amounts s.C (by omega) ⟨hs.c1,hs.c4⟩ (fun k hk=>hs.row k hk)
 rw [hR'] at cp
 have cH:=has_int (m.getD r0 0) c0 (hm.bd r0 hr0).1 (by omega)
 rw [Int.toNat_natCast,show (m.getD r0 0).toNat.testBit c0 = false from ho] at cH
 (refine fcall_of mixed Try.func77 rfl (by decide) (hs:={}) ?k (ac:=?ac) ?c (rs:=?rs) ?r ?l ?H;(case k=>kernel_rfl);(case c=>(conv=>(lhs;cbv)));(case r=>(conv=>(lhs;cbv)));(case l=>exact Nat.le_of_ble_eq_true rfl))
 (repeat' ((try conv=>whnf);first|(with_reducible first|refine wT ?_|refine wF ?_|(refine wI (fun hq=>?_) (fun hq=>?_) <;> try simp only [zA,zE,zD,zJ,zB,zI,wK,wL] at hq)|refine wA ?_|refine wB ?_|refine wC ?_|refine wD ?_|refine wE ?_)|((with_reducible refine wN ?_ ?_);focus exact needA)|(with_reducible refine wG ?_)|((refine FCall.give [] [] (cp) rfl rfl True.intro ⟨Ln.A,True.intro⟩ ?_);rintro _ _ ⟨rfl,rfl⟩;(refine ⟨by first|exact Nat.le_of_ble_eq_true rfl|omega,.inl rfl,?_⟩))|(refine FCall.pure (cH) ⟨Ln.sameB _ rfl,Ln.sameB _ rfl,True.intro⟩ rfl ?_)|(with_reducible refine wP ?_)))
 all_goals (try conv=>whnf)
 exact ⟨⟨aMat s.R s.C s.A,[],[],Cut.nil _,by rw [hR];exact Ln.mat (x:=s.A) (goneB rfl) rfl (Nat.le_refl _) (below1 (Ln.pubE (goneB rfl) rfl (Nat.le_refl _) rfl (fun _ _ _ _=>rfl))),s.A,Ag.self hs m,fun _ w hw=>by rw [hw.un r0 c0 hr0 hc0 ho];exact Int.le_refl _,fun _ w hw=>by rw [hw.un r0 c0 hr0 hc0 ho];exact Int.le_refl _,rfl,rfl⟩⟩
theorem movedN2 (f:ShF) (s:Sheet) (hs:SheetOk s) (z e:Bool) (m:List Int) (hm:MaskOk s m) (r0 c0:Nat) (hr0:r0 < s.R) (hc0:c0 < s.C) (ho:outS m r0 c0 = false) (up:Bool) (hR:s.R = 2):ACall Try.prog 77 [aSh f s,aInts z e m,AI r0,AI c0,.bool up] [] (fun v h=>MovedOut s m r0 c0 up v h):=by
 have c4:=hs.c4
 have hml:=hm.len
 have hR':s.amounts.length = 2:=hR
 have cp:=copyOwn_ok f.za f.ea f.rz f.re s.amounts s.C (by omega) ⟨hs.c1,hs.c4⟩ (fun k hk=>hs.row k hk)
 rw [hR'] at cp
 have cH:=has_int (m.getD r0 0) c0 (hm.bd r0 hr0).1 (by omega)
 rw [Int.toNat_natCast,show (m.getD r0 0).toNat.testBit c0 = false from ho] at cH
 (refine fcall_of mixed Try.func77 rfl (by decide) (hs:={}) ?k (ac:=?ac) ?c (rs:=?rs) ?r ?l ?H;(case k=>kernel_rfl);(case c=>(conv=>(lhs;cbv)));(case r=>(conv=>(lhs;cbv)));(case l=>exact Nat.le_of_ble_eq_true rfl))
 (repeat' ((try conv=>whnf);first|(with_reducible first|refine wT ?_|refine wF ?_|(refine wI (fun hq=>?_) (fun hq=>?_) <;> try simp only [zA,zE,zD,zJ,zB,zI,wK,wL] at hq)|refine wA ?_|refine wB ?_|refine wC ?_|refine wD ?_|refine wE ?_)|((with_reducible refine wN ?_ ?_);focus exact needA)|(with_reducible refine wG ?_)|((refine FCall.give [] [] (cp) rfl rfl True.intro ⟨Ln.A,True.intro⟩ ?_);rintro _ _ ⟨rfl,rfl⟩;(refine ⟨by first|exact Nat.le_of_ble_eq_true rfl|omega,.inl rfl,?_⟩))|(refine FCall.pure (cH) ⟨Ln.sameB _ rfl,Ln.sameB _ rfl,True.intro⟩ rfl ?_)|(with_reducible refine wP ?_)))
 all_goals (try conv=>whnf)
 exact ⟨⟨aMat s.R s.C s.A,[],[],Cut.nil _,by rw [hR];exact Ln.mat (x:=s.A) (goneB rfl) rfl (Nat.le_refl _) (below2 (Ln.pubE (goneB rfl) rfl (Nat.le_refl _) rfl (fun _ _ _ _=>rfl)) (Ln.pubE (goneB rfl) rfl (Nat.le_refl _) rfl (fun _ _ _ _=>rfl))),s.A,Ag.self hs m,fun _ w hw=>by rw [hw.un r0 c0 hr0 hc0 ho];exact Int.le_refl _,fun _ w hw=>by rw [hw.un r0 c0 hr0 hc0 ho];exact Int.le_refl _,rfl,rfl⟩⟩
theorem movedN3 (f:ShF) (s:Sheet) (hs:SheetOk s) (z e:Bool) (m:List Int) (hm:MaskOk s m) (r0 c0:Nat) (hr0:r0 < s.R) (hc0:c0 < s.C) (ho:outS m r0 c0 = false) (up:Bool) (hR:s.R = 3):ACall Try.prog 77 [aSh f s,aInts z e m,AI r0,AI c0,.bool up] [] (fun v h=>MovedOut s m r0 c0 up v h):=by
 have c4:=hs.c4
 have hml:=hm.len
 have hR':s.amounts.length = 3:=hR
 have cp:=copyOwn_ok f.za f.ea f.rz f.re s.amounts s.C (by omega) ⟨hs.c1,hs.c4⟩ (fun k hk=>hs.row k hk)
 rw [hR'] at cp
 have cH:=has_int (m.getD r0 0) c0 (hm.bd r0 hr0).1 (by omega)
 rw [Int.toNat_natCast,show (m.getD r0 0).toNat.testBit c0 = false from ho] at cH
 (refine fcall_of mixed Try.func77 rfl (by decide) (hs:={}) ?k (ac:=?ac) ?c (rs:=?rs) ?r ?l ?H;(case k=>kernel_rfl);(case c=>(conv=>(lhs;cbv)));(case r=>(conv=>(lhs;cbv)));(case l=>exact Nat.le_of_ble_eq_true rfl))
 (repeat' ((try conv=>whnf);first|(with_reducible first|refine wT ?_|refine wF ?_|(refine wI (fun hq=>?_) (fun hq=>?_) <;> try simp only [zA,zE,zD,zJ,zB,zI,wK,wL] at hq)|refine wA ?_|refine wB ?_|refine wC ?_|refine wD ?_|refine wE ?_)|((with_reducible refine wN ?_ ?_);focus exact needA)|(with_reducible refine wG ?_)|((refine FCall.give [] [] (cp) rfl rfl True.intro ⟨Ln.A,True.intro⟩ ?_);rintro _ _ ⟨rfl,rfl⟩;(refine ⟨by first|exact Nat.le_of_ble_eq_true rfl|omega,.inl rfl,?_⟩))|(refine FCall.pure (cH) ⟨Ln.sameB _ rfl,Ln.sameB _ rfl,True.intro⟩ rfl ?_)|(with_reducible refine wP ?_)))
 all_goals (try conv=>whnf)
 exact ⟨⟨aMat s.R s.C s.A,[],[],Cut.nil _,by rw [hR];exact Ln.mat (x:=s.A) (goneB rfl) rfl (Nat.le_refl _) (below3 (Ln.pubE (goneB rfl) rfl (Nat.le_refl _) rfl (fun _ _ _ _=>rfl)) (Ln.pubE (goneB rfl) rfl (Nat.le_refl _) rfl (fun _ _ _ _=>rfl)) (Ln.pubE (goneB rfl) rfl (Nat.le_refl _) rfl (fun _ _ _ _=>rfl))),s.A,Ag.self hs m,fun _ w hw=>by rw [hw.un r0 c0 hr0 hc0 ho];exact Int.le_refl _,fun _ w hw=>by rw [hw.un r0 c0 hr0 hc0 ho];exact Int.le_refl _,rfl,rfl⟩⟩
theorem moved_any (f:ShF) (s:Sheet) (hs:SheetOk s) (h3:s.R ≤ 3) (z e:Bool) (m:List Int) (hm:MaskOk s m) (r0 c0:Nat) (hr0:r0 < s.R) (hc0:c0 < s.C) (up:Bool):ACall Try.prog 77 [aSh f s,aInts z e m,AI r0,AI c0,.bool up] [] (fun v h=>MovedOut s m r0 c0 up v h):=by
 have r1:=hs.r1
 have hR:s.R = 1 ∨ s.R = 2 ∨ s.R = 3:=by omega
 cases ho:outS m r0 c0
 ·rcases hR with h|h|h
  ·exact movedN1 f s hs z e m hm r0 c0 hr0 hc0 ho up h
  ·exact movedN2 f s hs z e m hm r0 c0 hr0 hc0 ho up h
  ·exact movedN3 f s hs z e m hm r0 c0 hr0 hc0 ho up h
 ·cases up
  ·rcases hR with h|h|h
   ·exact moved1D f s hs z e m hm r0 c0 hr0 hc0 ho h
   ·exact moved2D f s hs z e m hm r0 c0 hr0 hc0 ho h
   ·exact moved3D f s hs z e m hm r0 c0 hr0 hc0 ho h
  ·rcases hR with h|h|h
   ·exact moved1U f s hs z e m hm r0 c0 hr0 hc0 ho h
   ·exact moved2U f s hs z e m hm r0 c0 hr0 hc0 ho h
   ·exact moved3U f s hs z e m hm r0 c0 hr0 hc0 ho h
theorem rspan_ok (f:ShF) (s:Sheet) (hs:SheetOk s) (h3:s.R ≤ 3) (z e:Bool) (m:List Int) (hm:MaskOk s m) (r0 c0:Nat) (hr0:r0 < s.R) (hc0:c0 < s.C):ACall Try.prog 62 [aSh f s,aInts z e m,AI r0,AI c0] [] (fun v h=>v = spanA (loV s m r0 c0) (hiV s m r0 c0) ∧ h = []):=by
 have c4:=hs.c4
 (refine fcall_of mixed Try.func62 rfl (by decide) (hs:={ ord:=[(1,[(0,[]),(1,[]),(2,[]),(3,[]),(5,[]),(8,[]),(11,[]),(12,[]),(13,[]),(14,[]),(16,[]),(19,[]),(4,[11]),(6,[]),(7,[]),(9,[]),(10,[]),(15,[7,10]),(17,[]),(18,[]),(20,[]),(21,[]),(22,[]),(23,[])])] }) ?k (ac:=?ac) ?c (rs:=?rs) ?r ?l ?H;(case k=>kernel_rfl);(case c=>(conv=>(lhs;cbv)));(case r=>(conv=>(lhs;cbv)));(case l=>exact Nat.le_of_ble_eq_true rfl))
 (repeat' ((try conv=>whnf);first|(with_reducible first|refine wT ?_|refine wF ?_|(refine wI (fun hq=>?_) (fun hq=>?_) <;> try simp only [zA,zE,zD,zJ,zB,zI,wK,wL] at hq)|refine wA ?_|refine wB ?_|refine wC ?_|refine wD ?_|refine wE ?_)|((with_reducible refine wN ?_ ?_);focus exact needA)|(with_reducible refine wG ?_)|(with_reducible refine wP ?_)))
 all_goals (try conv=>whnf)
 refine FCall.give [] [] (moved_any f s hs h3 z e m hm r0 c0 hr0 hc0 false) rfl rfl True.intro ⟨Ln.A,Ln.A,Ln.A,Ln.A,Ln.A,True.intro⟩ ?_
 rintro _ _ ⟨y,hy,_,hlo,rfl,rfl⟩
 refine ⟨Nat.zero_le _,.inl rfl,?_⟩
 (repeat' ((try conv=>whnf);first|(with_reducible first|refine wT ?_|refine wF ?_|(refine wI (fun hq=>?_) (fun hq=>?_) <;> try simp only [zA,zE,zD,zJ,zB,zI,wK,wL] at hq)|refine wA ?_|refine wB ?_|refine wC ?_|refine wD ?_|refine wE ?_)|((with_reducible refine wN ?_ ?_);focus exact needA)|(with_reducible refine wG ?_)|(with_reducible refine wP ?_)))
 all_goals (try conv=>whnf)
 refine FCall.give [] [] (moved_any f s hs h3 z e m hm r0 c0 hr0 hc0 true) rfl rfl True.intro ⟨Ln.A,Ln.A,Ln.A,Ln.A,Ln.A,True.intro⟩ ?_
 rintro _ _ ⟨x,hx,hhi,_,rfl,rfl⟩
 refine ⟨Nat.zero_le _,.inl rfl,?_⟩
 rw [IsLo.eq ⟨⟨y,hy,rfl⟩,hlo rfl⟩,IsHi.eq ⟨⟨x,hx,rfl⟩,hhi rfl⟩]
 (repeat' ((try conv=>whnf);first|(with_reducible first|refine wT ?_|refine wF ?_|(refine wI (fun hq=>?_) (fun hq=>?_) <;> try simp only [zA,zE,zD,zJ,zB,zI,wK,wL] at hq)|refine wA ?_|refine wB ?_|refine wC ?_|refine wD ?_|refine wE ?_)|((with_reducible refine wN ?_ ?_);focus exact needA)|(with_reducible refine wG ?_)|(with_reducible refine wP ?_)))
 all_goals (try conv=>whnf)
 (refine ⟨⟨_,[],[],Cut.nil _,Ln.sameB _ rfl,?_,rfl⟩⟩)
 rfl
theorem rOther_ok (f:ShF) (s:Sheet) (hn:Near s) (h3:s.ok = true → s.R ≤ 3) (z e:Bool) (m:List Int) (hm:m.length ≤ 1000) (r c a:Int):ACall Try.prog 37 [aSh f s,aInts z e m,AI r,AI c,AI a] [] (fun v h=>v = AI (checkO s m r c a) ∧ h = []):=by
 have cP:=refCheckP_ok f s hn z e m hm r c
 (refine fcall_of mixed Try.func37 rfl (by decide) (hs:={}) ?k (ac:=?ac) ?c (rs:=?rs) ?r ?l ?H;(case k=>kernel_rfl);(case c=>(conv=>(lhs;cbv)));(case r=>(conv=>(lhs;cbv)));(case l=>exact Nat.le_of_ble_eq_true rfl))
 by_cases h0:checkP s m r c = 0
 ·have hp:=checkP_0 h0
  obtain ⟨r',rfl⟩:=Int.eq_ofNat_of_zero_le hp.r.1
  obtain ⟨c',rfl⟩:=Int.eq_ofNat_of_zero_le hp.c.1
  have cS:=rspan_ok f s hp.sh (h3 hp.ok) z e m hp.m r' c' (by have:=hp.r;omega) (by have:=hp.c;omega)
  have cW:=within_ok a (loV s m r' c') (hiV s m r' c')
  rw [show checkO s m r' c' a = if inB a (loV s m r' c') (hiV s m r' c') then 0 else 3 from by unfold checkO;rw [if_pos h0];rfl]
  rw [h0] at cP
  cases hw:inB a (loV s m r' c') (hiV s m r' c')
  ·rw [hw] at cW
   (repeat' ((try conv=>whnf);first|(with_reducible first|refine wT ?_|refine wF ?_|(refine wI (fun hq=>?_) (fun hq=>?_) <;> try simp only [zA,zE,zD,zJ,zB,zI,wK,wL] at hq)|refine wA ?_|refine wB ?_|refine wC ?_|refine wD ?_|refine wE ?_)|((with_reducible refine wN ?_ ?_);focus exact needA)|(with_reducible refine wG ?_)|(refine FCall.pure (cP) ⟨Ln.sameB _ rfl,Ln.sameB _ rfl,Ln.sameB _ rfl,Ln.sameB _ rfl,True.intro⟩ rfl ?_)|(refine FCall.pure (cS) ⟨Ln.sameB _ rfl,Ln.sameB _ rfl,Ln.sameB _ rfl,Ln.sameB _ rfl,True.intro⟩ rfl ?_)|(refine FCall.pure (cW) ⟨Ln.sameB _ rfl,Ln.sameB _ rfl,Ln.sameB _ rfl,True.intro⟩ rfl ?_)|(with_reducible refine wP ?_)))
   all_goals (try conv=>whnf)
   all_goals ((refine ⟨⟨_,[],[],Cut.nil _,Ln.sameB _ rfl,?_,rfl⟩⟩);rfl)
  ·rw [hw] at cW
   (repeat' ((try conv=>whnf);first|(with_reducible first|refine wT ?_|refine wF ?_|(refine wI (fun hq=>?_) (fun hq=>?_) <;> try simp only [zA,zE,zD,zJ,zB,zI,wK,wL] at hq)|refine wA ?_|refine wB ?_|refine wC ?_|refine wD ?_|refine wE ?_)|((with_reducible refine wN ?_ ?_);focus exact needA)|(with_reducible refine wG ?_)|(refine FCall.pure (cP) ⟨Ln.sameB _ rfl,Ln.sameB _ rfl,Ln.sameB _ rfl,Ln.sameB _ rfl,True.intro⟩ rfl ?_)|(refine FCall.pure (cS) ⟨Ln.sameB _ rfl,Ln.sameB _ rfl,Ln.sameB _ rfl,Ln.sameB _ rfl,True.intro⟩ rfl ?_)|(refine FCall.pure (cW) ⟨Ln.sameB _ rfl,Ln.sameB _ rfl,Ln.sameB _ rfl,True.intro⟩ rfl ?_)|(with_reducible refine wP ?_)))
   all_goals (try conv=>whnf)
   all_goals ((refine ⟨⟨_,[],[],Cut.nil _,Ln.sameB _ rfl,?_,rfl⟩⟩);rfl)
 ·rw [show checkO s m r c a = checkP s m r c from by unfold checkO;rw [if_neg h0]]
  (repeat' ((try conv=>whnf);first|(with_reducible first|refine wT ?_|refine wF ?_|(refine wI (fun hq=>?_) (fun hq=>?_) <;> try simp only [zA,zE,zD,zJ,zB,zI,wK,wL] at hq)|refine wA ?_|refine wB ?_|refine wC ?_|refine wD ?_|refine wE ?_)|((with_reducible refine wN ?_ ?_);focus exact needA)|(with_reducible refine wG ?_)|(refine FCall.pure (cP) ⟨Ln.sameB _ rfl,Ln.sameB _ rfl,Ln.sameB _ rfl,Ln.sameB _ rfl,True.intro⟩ rfl ?_)|(with_reducible refine wP ?_)))
  all_goals (try conv=>whnf)
  all_goals ((refine ⟨⟨_,[],[],Cut.nil _,Ln.sameB _ rfl,?_,rfl⟩⟩);rfl)
end Go.Proofs.Ytlffjnmbpoemnaa

namespace Go.Proofs.Ytlffjnmbpoemnaa
open Go.RowKit

theorem checkO_0 {s:Sheet} {m:List Int} {r c a:Int} (h:checkO s m r c a = 0):checkP s m r c = 0:=by
 unfold checkO at h
 by_cases hp:checkP s m r c = 0
 ·exact hp
 ·rw [if_neg hp] at h;exact absurd h hp
set_option maxHeartbeats 16000000
set_option maxRecDepth 100000
theorem other_any (f g:ShF) (s t:Sheet) (z e:Bool) (m:List Int) (r c a:Int) (ha:in64 a):ACall Try.prog 10 [aSh f s,aSh g t,.agg 4 (ofL [aInts z e m,AI r,AI c,AI a])] [] (fun v h=>v = .bool true ∧ h = []):=by
 have cF:=far_ok f s
 have cG:=far_ok g t
 (refine fcall_of mixed Try.func10 rfl (by decide) (hs:={ ord:=[(9,[(0,[]),(1,[]),(3,[]),(2,[0]),(4,[]),(5,[]),(6,[]),(7,[]),(8,[]),(9,[])])],alt:=[(3,⟨[0,2,3,4],(.alt 1 [] (.alt 5 [] (.alt 6 [] (.alt 7 [8] .leaf .leaf) .leaf) (.alt 6 [] (.alt 5 [] (.alt 7 [8] .leaf .leaf) .leaf) .leaf)) (.alt 6 [] (.alt 1 [] (.alt 5 [] (.alt 7 [8] .leaf .leaf) .leaf) .leaf) .leaf)),[(1,[4]),(6,[0,4])]⟩)],pub:=[4,9,11] }) ?k (ac:=?ac) ?c (rs:=?rs) ?r ?l ?H;(case k=>kernel_rfl);(case c=>(conv=>(lhs;cbv)));(case r=>(conv=>(lhs;cbv)));(case l=>exact Nat.le_of_ble_eq_true rfl))
 cases hf:farS s
 case true =>
  rw [hf] at cF
  (repeat' ((try conv=>whnf);first|(with_reducible first|refine FCond.t rfl ?_|refine FCond.f rfl ?_)|((with_reducible refine FCond.uT (fun hq=>?_));rw [hq];(with_reducible refine FCond.t rfl ?_);clear hq)|((with_reducible refine FCond.uF (fun hq=>?_));rw [hq];(with_reducible refine FCond.f rfl ?_);clear hq)|((with_reducible refine wJ (fun hq=>?_) (fun hq=>?_)) <;> (rw [hq];(with_reducible first|refine FCond.t rfl ?_|refine FCond.f rfl ?_);(try simp only [zA,zE,zD,zJ,zB,zI,wK,wL] at hq)))|(with_reducible first|refine wA ?_|refine wB ?_|refine wC ?_|refine wD ?_|refine wE ?_)|((with_reducible refine wN ?_ ?_);focus exact needA)|(with_reducible refine wG ?_)|(refine FCall.pure (cF) ⟨Ln.sameB _ rfl,True.intro⟩ rfl ?_)|(refine FCall.pure works_ok True.intro rfl ?_)|(with_reducible refine wP ?_)))
  all_goals (try conv=>whnf)
  all_goals ((refine ⟨⟨_,[],[],Cut.nil _,Ln.sameB _ rfl,?_,rfl⟩⟩);rfl)
 rw [hf] at cF
 cases hg:farS t
 case true =>
  rw [hg] at cG
  (repeat' ((try conv=>whnf);first|(with_reducible first|refine FCond.t rfl ?_|refine FCond.f rfl ?_)|((with_reducible refine FCond.uT (fun hq=>?_));rw [hq];(with_reducible refine FCond.t rfl ?_);clear hq)|((with_reducible refine FCond.uF (fun hq=>?_));rw [hq];(with_reducible refine FCond.f rfl ?_);clear hq)|((with_reducible refine wJ (fun hq=>?_) (fun hq=>?_)) <;> (rw [hq];(with_reducible first|refine FCond.t rfl ?_|refine FCond.f rfl ?_);(try simp only [zA,zE,zD,zJ,zB,zI,wK,wL] at hq)))|(with_reducible first|refine wA ?_|refine wB ?_|refine wC ?_|refine wD ?_|refine wE ?_)|((with_reducible refine wN ?_ ?_);focus exact needA)|(with_reducible refine wG ?_)|(refine FCall.pure (cF) ⟨Ln.sameB _ rfl,True.intro⟩ rfl ?_)|(refine FCall.pure (cG) ⟨Ln.sameB _ rfl,True.intro⟩ rfl ?_)|(refine FCall.pure works_ok True.intro rfl ?_)|(with_reducible refine wP ?_)))
  all_goals (try conv=>whnf)
  all_goals ((refine ⟨⟨_,[],[],Cut.nil _,Ln.sameB _ rfl,?_,rfl⟩⟩);rfl)
 rw [hg] at cG
 rcases Nat.lt_or_ge 20 m.length with hl20|hl20
 ·(repeat' ((try conv=>whnf);first|(with_reducible first|refine FCond.t rfl ?_|refine FCond.f rfl ?_)|((with_reducible refine FCond.uT (fun hq=>?_));rw [hq];(with_reducible refine FCond.t rfl ?_);clear hq)|((with_reducible refine FCond.uF (fun hq=>?_));rw [hq];(with_reducible refine FCond.f rfl ?_);clear hq)|((with_reducible refine wJ (fun hq=>?_) (fun hq=>?_)) <;> (rw [hq];(with_reducible first|refine FCond.t rfl ?_|refine FCond.f rfl ?_);(try simp only [zA,zE,zD,zJ,zB,zI,wK,wL] at hq)))|(with_reducible first|refine wA ?_|refine wB ?_|refine wC ?_|refine wD ?_|refine wE ?_)|((with_reducible refine wN ?_ ?_);focus exact needA)|(with_reducible refine wG ?_)|(refine FCall.pure (cF) ⟨Ln.sameB _ rfl,True.intro⟩ rfl ?_)|(refine FCall.pure (cG) ⟨Ln.sameB _ rfl,True.intro⟩ rfl ?_)|(refine FCall.pure works_ok True.intro rfl ?_)|(with_reducible refine wP ?_)))
  all_goals (try conv=>whnf)
  all_goals ((refine ⟨⟨_,[],[],Cut.nil _,Ln.sameB _ rfl,?_,rfl⟩⟩);rfl)
 obtain ⟨hn,h3⟩:=far_d hf
 obtain ⟨hnt,h3t⟩:=far_d hg
 have hR3:s.ok = true → s.R ≤ 3:=fun h=>(h3 h).1
 have cC:=copy_ok f s hn
 obtain ⟨fo,hfo⟩:∃ fo,fo = flS s:=⟨_,rfl⟩
 rw [← hfo] at cC
 apply cutG
 ·intro rest
  (repeat' ((try conv=>whnf);first|(with_reducible first|refine FCond.t rfl ?_|refine FCond.f rfl ?_)|((with_reducible refine FCond.uT (fun hq=>?_));rw [hq];(with_reducible refine FCond.t rfl ?_);clear hq)|((with_reducible refine FCond.uF (fun hq=>?_));rw [hq];(with_reducible refine FCond.f rfl ?_);clear hq)|((with_reducible refine wJ (fun hq=>?_) (fun hq=>?_)) <;> (rw [hq];(with_reducible first|refine FCond.t rfl ?_|refine FCond.f rfl ?_);(try simp only [zA,zE,zD,zJ,zB,zI,wK,wL] at hq)))|(with_reducible first|refine wA ?_|refine wB ?_|refine wC ?_|refine wD ?_|refine wE ?_)|((with_reducible refine wN ?_ ?_);focus exact needA)|(with_reducible refine wG ?_)|(refine FCall.pure (cF) ⟨Ln.sameB _ rfl,True.intro⟩ rfl ?_)|(refine FCall.pure (cG) ⟨Ln.sameB _ rfl,True.intro⟩ rfl ?_)|(refine FCall.pure (cC) ⟨Ln.sameB _ rfl,True.intro⟩ rfl ?_)|(refine FAlt.mk ?_ ?_)|(with_reducible refine wP ?_)))
  all_goals (try conv=>whnf)
  all_goals (rcases hL:m.length with _|n)
  all_goals
   (repeat' ((try conv=>whnf);first|(with_reducible first|refine FCond.t rfl ?_|refine FCond.f rfl ?_)|((with_reducible refine FCond.uT (fun hq=>?_));rw [hq];(with_reducible refine FCond.t rfl ?_);clear hq)|((with_reducible refine FCond.uF (fun hq=>?_));rw [hq];(with_reducible refine FCond.f rfl ?_);clear hq)|((with_reducible refine wJ (fun hq=>?_) (fun hq=>?_)) <;> (rw [hq];(with_reducible first|refine FCond.t rfl ?_|refine FCond.f rfl ?_);(try simp only [zA,zE,zD,zJ,zB,zI,wK,wL] at hq)))|(with_reducible first|refine wA ?_|refine wB ?_|refine wC ?_|refine wD ?_|refine wE ?_)|((with_reducible refine wN ?_ ?_);focus exact needA)|(with_reducible refine wG ?_)|(refine FCall.pure (cC) ⟨Ln.sameB _ rfl,True.intro⟩ rfl ?_)|(refine FAlt.mk ?_ ?_)|((with_reducible refine wN ?_ ?_);focus ((conv=>whnf);exact ⟨(by show AV.sl z e m.length 1 _ = AV.sl z e _ 1 _;rw [hL])⟩))|(with_reducible refine wP ?_)))
   all_goals (try conv=>whnf)
   all_goals
    first
     | exact FWk.of [(3,.ptr 0 0),(4,.ptr 1 0),(5,.ptr 2 0),(7,.ptr 3 0),(8,cpRow m)] [.box 3 (cSh f s),.box 3 (cSh g t),.box 4 (ofL [aInts z e m,AI r,AI c,AI a]),.box 3 (cSh fo s)] [0,1,2,3] (wO rfl rfl rfl (wV rfl (LnB.boxN ⟨⟨⟨True.intro,Ln.sameB _ rfl⟩,Ln.sameB _ rfl⟩,Ln.sameB _ rfl⟩) (wV rfl (LnB.boxN ⟨⟨⟨True.intro,Ln.sameB _ rfl⟩,Ln.sameB _ rfl⟩,Ln.sameB _ rfl⟩) (wV rfl (LnB.boxN ⟨⟨⟨⟨True.intro,(by first|exact Ln.sameB _ rfl|exact Ln.slM hL|fail)⟩,Ln.sameB _ rfl⟩,Ln.sameB _ rfl⟩,Ln.sameB _ rfl⟩) (wV rfl (LnB.boxN ⟨⟨⟨True.intro,Ln.sameB _ rfl⟩,Ln.sameB _ rfl⟩,Ln.sameB _ rfl⟩) wX))))) ⟨Ln.ptr _ _ _ rfl,Ln.ptr _ _ _ rfl,Ln.ptr _ _ _ rfl,Ln.ptr _ _ _ rfl,Ln.cpm0 hL,True.intro⟩ rest.h
     | exact FWk.of [(3,.ptr 0 0),(4,.ptr 1 0),(5,.ptr 2 0),(7,.ptr 3 0),(8,cpRow m)] [.box 3 (cSh f s),.box 3 (cSh g t),.box 4 (ofL [aInts z e m,AI r,AI c,AI a]),.box 3 (cSh fo s)] [0,1,2,4] (wO rfl rfl rfl (wV rfl (LnB.boxN ⟨⟨⟨True.intro,Ln.sameB _ rfl⟩,Ln.sameB _ rfl⟩,Ln.sameB _ rfl⟩) (wV rfl (LnB.boxN ⟨⟨⟨True.intro,Ln.sameB _ rfl⟩,Ln.sameB _ rfl⟩,Ln.sameB _ rfl⟩) (wV rfl (LnB.boxN ⟨⟨⟨⟨True.intro,(by first|exact Ln.sameB _ rfl|exact Ln.slM hL|fail)⟩,Ln.sameB _ rfl⟩,Ln.sameB _ rfl⟩,Ln.sameB _ rfl⟩) (wV rfl (LnB.boxN ⟨⟨⟨True.intro,Ln.sameB _ rfl⟩,Ln.sameB _ rfl⟩,Ln.sameB _ rfl⟩) wX))))) ⟨Ln.ptr _ _ _ rfl,Ln.ptr _ _ _ rfl,Ln.ptr _ _ _ rfl,Ln.ptr _ _ _ rfl,Ln.cpm1 hL (goneB rfl) rfl (Nat.le_refl _),True.intro⟩ rest.h
     | exact FWk.of [(3,.ptr 0 0),(4,.ptr 1 0),(5,.ptr 2 0),(7,.ptr 3 0),(8,cpRow m)] [.box 3 (cSh f s),.box 3 (cSh g t),.box 4 (ofL [aInts z e m,AI r,AI c,AI a]),.box 3 (cSh fo s)] [0,1,2,3] (wO rfl rfl rfl (wV rfl (LnB.boxN ⟨⟨⟨True.intro,Ln.sameB _ rfl⟩,Ln.sameB _ rfl⟩,Ln.sameB _ rfl⟩) (wV rfl (LnB.boxN ⟨⟨⟨True.intro,Ln.sameB _ rfl⟩,Ln.sameB _ rfl⟩,Ln.sameB _ rfl⟩) (wV rfl (LnB.boxN ⟨⟨⟨⟨True.intro,(by first|exact Ln.sameB _ rfl|exact Ln.slM hL|fail)⟩,Ln.sameB _ rfl⟩,Ln.sameB _ rfl⟩,Ln.sameB _ rfl⟩) (wV rfl (LnB.boxN ⟨⟨⟨True.intro,Ln.sameB _ rfl⟩,Ln.sameB _ rfl⟩,Ln.sameB _ rfl⟩) wX))))) ⟨Ln.ptr _ _ _ rfl,Ln.ptr _ _ _ rfl,Ln.ptr _ _ _ rfl,Ln.ptr _ _ _ rfl,Ln.cpm1 hL (goneB rfl) rfl (Nat.le_refl _),True.intro⟩ rest.h
     | fail
 have rO:=rOther_ok f s hn hR3 z e m (by omega) r c a
 apply cutG
 ·intro rest
  (repeat' ((try conv=>whnf);first|(with_reducible first|refine wT ?_|refine wF ?_|(refine wI (fun hq=>?_) (fun hq=>?_) <;> try simp only [zA,zE,zD,zJ,zB,zI,wK,wL] at hq)|refine wA ?_|refine wB ?_|refine wC ?_|refine wD ?_|refine wE ?_)|((with_reducible refine wN ?_ ?_);focus exact needA)|(with_reducible refine wG ?_)|(with_reducible refine wP ?_)))
  all_goals (try conv=>whnf)
  refine FCall.give [] [] (other_ok fo s hn hR3 false (decide (m.length = 0)) m (by omega) r c a ha) rfl rfl True.intro ⟨Ln.A,Ln.A,Ln.A,Ln.A,Ln.A,True.intro⟩ ?_
  rintro _ _ ⟨rfl,⟨h1,rfl⟩|⟨h1,y,hy,hya,rfl⟩⟩
  ·obtain ⟨er,her⟩:∃ er,checkO s m r c a = er:=⟨_,rfl⟩
   rw [her] at h1 rO ⊢
   refine ⟨Nat.zero_le _,.inl rfl,?_⟩
   (repeat' ((try conv=>whnf);first|(with_reducible first|refine FCond.t rfl ?_|refine FCond.f rfl ?_)|((with_reducible refine FCond.uT (fun hq=>?_));rw [hq];(with_reducible refine FCond.t rfl ?_);clear hq)|((with_reducible refine FCond.uF (fun hq=>?_));rw [hq];(with_reducible refine FCond.f rfl ?_);clear hq)|((with_reducible refine wJ (fun hq=>?_) (fun hq=>?_)) <;> (rw [hq];(with_reducible first|refine FCond.t rfl ?_|refine FCond.f rfl ?_);(try simp only [zA,zE,zD,zJ,zB,zI,wK,wL] at hq)))|(with_reducible first|refine wA ?_|refine wB ?_|refine wC ?_|refine wD ?_|refine wE ?_)|((with_reducible refine wN ?_ ?_);focus exact needA)|(with_reducible refine wG ?_)|(refine FCall.pure (rO) ⟨Ln.sameB _ rfl,Ln.sameB _ rfl,Ln.sameB _ rfl,Ln.sameB _ rfl,Ln.sameB _ rfl,True.intro⟩ rfl ?_)|(with_reducible refine wP ?_)))
   all_goals (try conv=>whnf)
   exact FWk.of [(3,.ptr 0 0),(4,.ptr 1 0),(5,.ptr 2 0),(7,.ptr 3 0),(8,cpRow m)] [.box 3 (cSh f s),.box 3 (cSh g t),.box 4 (ofL [aInts z e m,AI r,AI c,AI a]),.box 3 (cSh fo s)] [0,1,2,3] Cut.A allA rest.h
  ·rw [h1] at rO
   have hp:=checkO_0 h1
   have hpp:=checkP_0 hp
   obtain ⟨r',rfl⟩:=Int.eq_ofNat_of_zero_le hpp.r.1
   obtain ⟨c',rfl⟩:=Int.eq_ofNat_of_zero_le hpp.c.1
   have hr':r' < s.R:=by have:=hpp.r;omega
   have hc':c' < s.C:=by have:=hpp.c;omega
   have cB:=agrees_ok f s hpp.sh z e m hpp.m false false (fun _=>false) (fun _=>false) (mkL s.R s.C y)
   rw [ag_agree hpp.sh hy] at cB
   have hya:y r' c' = a:=hya
   refine ⟨Nat.zero_le _,.inl rfl,?_⟩
   (repeat' ((try conv=>whnf);first|(with_reducible first|refine FCond.t rfl ?_|refine FCond.f rfl ?_)|((with_reducible refine FCond.uT (fun hq=>?_));rw [hq];(with_reducible refine FCond.t rfl ?_);clear hq)|((with_reducible refine FCond.uF (fun hq=>?_));rw [hq];(with_reducible refine FCond.f rfl ?_);clear hq)|((with_reducible refine wJ (fun hq=>?_) (fun hq=>?_)) <;> (rw [hq];(with_reducible first|refine FCond.t rfl ?_|refine FCond.f rfl ?_);(try simp only [zA,zE,zD,zJ,zB,zI,wK,wL] at hq)))|(with_reducible first|refine wA ?_|refine wB ?_|refine wC ?_|refine wD ?_|refine wE ?_)|((with_reducible refine wN ?_ ?_);focus exact needA)|(with_reducible refine wG ?_)|(refine FCall.pure (rO) ⟨Ln.sameB _ rfl,Ln.sameB _ rfl,Ln.sameB _ rfl,Ln.sameB _ rfl,Ln.sameB _ rfl,True.intro⟩ rfl ?_)|(refine FCall.pure cB ⟨Ln.sameB _ rfl,Ln.sameB _ rfl,Ln.matL _ _ _,True.intro⟩ rfl ?_)|(with_reducible refine wP ?_)))
   all_goals (try conv=>whnf)
   exact FWk.of [(3,.ptr 0 0),(4,.ptr 1 0),(5,.ptr 2 0),(7,.ptr 3 0),(8,cpRow m)] [.box 3 (cSh f s),.box 3 (cSh g t),.box 4 (ofL [aInts z e m,AI r',AI c',AI a]),.box 3 (cSh fo s)] [0,1,2,3] Cut.A allA rest.h
 have cD:=copy_ok g t hnt
 obtain ⟨fp,hfp⟩:∃ fp,fp = flS t:=⟨_,rfl⟩
 rw [← hfp] at cD
 have q1:=pSame_ok fo fp s t hn hnt false (decide (m.length = 0)) m (by omega)
 have q2:=rSame_ok f g s t hn hnt z e m (by omega)
 unfold sameV at q1 q2
 obtain ⟨bs,hbs⟩:∃ bs,(decide (checkT s t m = 0) && agreeB s m t.amounts) = bs:=⟨_,rfl⟩
 rw [hbs] at q1 q2
 (repeat' ((try conv=>whnf);first|(with_reducible first|refine FCond.t rfl ?_|refine FCond.f rfl ?_)|((with_reducible refine FCond.uT (fun hq=>?_));rw [hq];(with_reducible refine FCond.t rfl ?_);clear hq)|((with_reducible refine FCond.uF (fun hq=>?_));rw [hq];(with_reducible refine FCond.f rfl ?_);clear hq)|((with_reducible refine wJ (fun hq=>?_) (fun hq=>?_)) <;> (rw [hq];(with_reducible first|refine FCond.t rfl ?_|refine FCond.f rfl ?_);(try simp only [zA,zE,zD,zJ,zB,zI,wK,wL] at hq)))|(with_reducible first|refine wA ?_|refine wB ?_|refine wC ?_|refine wD ?_|refine wE ?_)|((with_reducible refine wN ?_ ?_);focus exact needA)|(with_reducible refine wG ?_)|(refine FCall.pure (cD) ⟨Ln.sameB _ rfl,True.intro⟩ rfl ?_)|(refine FCall.pure (q1) ⟨Ln.sameB _ rfl,Ln.sameB _ rfl,Ln.sameB _ rfl,True.intro⟩ rfl ?_)|(refine FCall.pure (q2) ⟨Ln.sameB _ rfl,Ln.sameB _ rfl,Ln.sameB _ rfl,True.intro⟩ rfl ?_)|(with_reducible refine wP ?_)))
 all_goals (try conv=>whnf)
 refine FWk.of [(11,.bool bs),(12,AI (checkT s t m)),(13,.bool bs),(14,AI (checkT s t m))] [] [] (Cut.nil _) allA ?_
 cases bs
 all_goals
  (repeat' ((try conv=>whnf);first|(with_reducible first|refine FCond.t rfl ?_|refine FCond.f rfl ?_)|((with_reducible refine FCond.uT (fun hq=>?_));rw [hq];(with_reducible refine FCond.t rfl ?_);clear hq)|((with_reducible refine FCond.uF (fun hq=>?_));rw [hq];(with_reducible refine FCond.f rfl ?_);clear hq)|((with_reducible refine wJ (fun hq=>?_) (fun hq=>?_)) <;> (rw [hq];(with_reducible first|refine FCond.t rfl ?_|refine FCond.f rfl ?_);(try simp only [zA,zE,zD,zJ,zB,zI,wK,wL] at hq)))|(with_reducible first|refine wA ?_|refine wB ?_|refine wC ?_|refine wD ?_|refine wE ?_)|((with_reducible refine wN ?_ ?_);focus exact needA)|(with_reducible refine wG ?_)|(refine FCall.pure works_ok True.intro rfl ?_)|(with_reducible refine wP ?_)))
  all_goals (try conv=>whnf)
  all_goals first|((refine ⟨⟨_,[],[],Cut.nil _,Ln.sameB _ rfl,?_,rfl⟩⟩);rfl)|exact absurd hq (by simp)|fail
end Go.Proofs.Ytlffjnmbpoemnaa

namespace Go.Proofs.Ytlffjnmbpoemnaa
open Go.RowKit

theorem add_of_add (a:Addr) (i j:Nat):(a.add i).add j = a.add (i + j):=by
 unfold Addr.add
 by_cases hi:i = 0 <;> by_cases hj:j = 0 <;> simp [hi,hj,Nat.add_assoc]

/-- w' has all that w has, unchanged. -/
abbrev Ext (w w':World):Prop:=Below w.heap.size w w'

theorem Ext.refl (w:World):Ext w w:=Below.refl _ w
theorem Ext.trans {a b c:World} (h:Ext a b) (k:Ext b c):Ext a c:=Below.trans h (k.mono h.size)
theorem Ext.of_alloc (w:World) (o:Obj):Ext w (w.alloc o):=(Below.refl _ w).alloc (Nat.le_refl _) o
theorem Ext.alloc {a w:World} (h:Ext a w) (o:Obj):Ext a (w.alloc o):=Below.alloc h h.size o
theorem Ext.drew {a w:World} (h:Ext a w):Ext a w.drew:=Below.drew h
theorem Ext.cellOf {w w':World} (h:Ext w w') {p:Addr} (hp:p.block < w.heap.size):w'.cell? p = w.cell? p:=Below.cell h hp

/-- The n elements (size cells each) of a slice at A are the cells xs. -/
def Sl (w:World) (size:Nat) (A:Option Addr) (n:Nat) (xs:List Value):Prop :=
 xs.length = n * size ∧ (0 < n → ∃ b off,A = some ⟨b,off,none⟩ ∧ b < w.heap.size ∧ ∀ (j:Nat) (u:Value),xs[j]? = some u → w.cell? ⟨b,off + j,none⟩ = some u)

theorem Sl.ext {w w':World} {size n:Nat} {A:Option Addr} {xs:List Value} (h:Sl w size A n xs) (e:Ext w w'):Sl w' size A n xs :=
 ⟨h.1,fun hn=>by
  obtain ⟨b,off,hA,hb,hc⟩:=h.2 hn
  exact ⟨b,off,hA,Nat.lt_of_lt_of_le hb e.size,fun j u hu=>(e.cellOf (p:=⟨b,off + j,none⟩) hb).trans (hc j u hu)⟩⟩
theorem Sl.nil (w:World) (size:Nat) (A:Option Addr):Sl w size A 0 []:=⟨by simp,fun h=>absurd h (by omega)⟩
theorem own_lt {w:World} {g:Nat} {o:Obj} (hh:w.heap[g]? = some o):g < w.heap.size:=by
 rcases Nat.lt_or_ge g w.heap.size with hlt|hge
 ·exact hlt
 ·rw [Array.getElem?_eq_none hge] at hh;cases hh
theorem Sl.of_own {w:World} {base size n c:Nat} {e:TypeId} {A:Option Addr} {xs:List Value} (h:w.ownsRow base e size (.slice A n c) n xs):Sl w size A n xs:=by
 refine ⟨h.1,fun hn=>?_⟩
 rcases h.2 with ⟨hv,hx⟩|⟨g,cap,cur,hv,hb,hh,_⟩
 ·injection hv with hA hn'
  omega
 ·injection hv with hA
  subst hA
  refine ⟨g,0,rfl,own_lt hh,fun j u hu=>?_⟩
  have h1:=h.cells (g:=g) rfl j u hu
  unfold Addr.add at h1
  split at h1
  ·rename_i h0;subst h0;exact h1
  ·simpa using h1
theorem Sl.at {w:World} {size n:Nat} {A:Option Addr} {xs:List Value} (h:Sl w size A n xs) {k:Nat} (hk:k < n) :
  ∃ b off,A = some ⟨b,off,none⟩ ∧ b < w.heap.size ∧ ∀ i,i < size → ∃ u,xs[k * size + i]? = some u ∧ w.cell? ⟨b,off + (k * size + i),none⟩ = some u:=by
 obtain ⟨b,off,hA,hb,hc⟩:=h.2 (by omega)
 refine ⟨b,off,hA,hb,fun i hi=>?_⟩
 have hlt:k * size + i < xs.length:=by
  rw [h.1]
  have:(k + 1) * size ≤ n * size:=Nat.mul_le_mul_right _ hk
  rw [Nat.add_mul] at this
  omega
 exact ⟨xs[k * size + i],List.getElem?_eq_getElem hlt,hc _ _ (List.getElem?_eq_getElem hlt)⟩

/-- A slice of ints. -/
def Ints (w:World) (A:Option Addr) (l:List Int):Prop :=
 ∀ k,k < l.length → ∃ b off,A = some ⟨b,off,none⟩ ∧ b < w.heap.size ∧ w.cell? ⟨b,off + k,none⟩ = some (.int .i64 (l.getD k 0))
theorem Ints.ext {w w':World} {A:Option Addr} {l:List Int} (h:Ints w A l) (e:Ext w w'):Ints w' A l:=fun k hk=>by
 obtain ⟨b,off,hA,hb,hc⟩:=h k hk
 exact ⟨b,off,hA,Nat.lt_of_lt_of_le hb e.size,(e.cellOf (p:=⟨b,off + k,none⟩) hb).trans hc⟩
theorem Ints.of_own {w:World} {base n c:Nat} {e:TypeId} {A:Option Addr} {l:List Int} (h:w.ownsRow base e 1 (.slice A n c) n (l.map (.int .i64))):n = l.length ∧ Ints w A l:=by
 have hl:n = l.length:=by have:=h.1;simp at this;omega
 refine ⟨hl,fun k hk=>?_⟩
 obtain ⟨b,off,hA,hb,hc⟩:=(Sl.of_own h).at (k:=k) (by omega)
 obtain ⟨u,hu,hcu⟩:=hc 0 (by omega)
 refine ⟨b,off,hA,hb,?_⟩
 simp at hu hcu
 obtain ⟨a,ha,rfl⟩:=hu
 rw [hcu]
 simp [List.getD,ha]

theorem Ints.get {w:World} {A:Option Addr} {l:List Int} (h:Ints w A l) {k:Nat} (hk:k < l.length) :
  ∃ b off x,A = some ⟨b,off,none⟩ ∧ b < w.heap.size ∧ w.cell? ⟨b,off + k,none⟩ = some (.int .i64 x) ∧ Hid (l.getD k 0 = x):=by
 obtain ⟨b,off,h1,h2,h3⟩:=h k hk
 exact ⟨b,off,_,h1,h2,h3,rfl⟩

theorem Ext.box {w wr:World} {cs:Array Value} {T:TypeId} (h:Ext (w.alloc (.cells cs T)) wr) (i:Nat):wr.cell? ⟨w.heap.size,i,none⟩ = cs[i]?:=by
 rw [h.cellOf (by simp),World.cell?_alloc_at _ _ _ _ rfl]
theorem Ext.lt {w wr:World} {o:Obj} (h:Ext (w.alloc o) wr):w.heap.size < wr.heap.size:=by have:=h.size;simp at this;omega
theorem Ext.le {w wr:World} (h:Ext w wr):w.heap.size ≤ wr.heap.size:=h.size

theorem Ext.grown {w w':World} (h:Ext w w') (row:Option Nat):w.grownBy w' row:=⟨h.os,h.tape,h.output,h.size,fun i hi _=>h.block i hi⟩
/-- Block g is just the cells cs of element type t, none frozen. -/
def Blk (w:World) (g:Nat) (t:TypeId) (cs:Array Value):Prop:=w.heap[g]? = some (.cells cs t (0,0))
theorem Blk.lt {w:World} {g:Nat} {t:TypeId} {cs:Array Value} (h:Blk w g t cs):g < w.heap.size:=own_lt h
theorem Blk.cell {w:World} {g:Nat} {t:TypeId} {cs:Array Value} (h:Blk w g t cs) (i:Nat):w.cell? ⟨g,i,none⟩ = cs[i]?:=by
 unfold Blk at h;simp [World.cell?,h]
theorem Blk.new (w:World) (t:TypeId) (cs:Array Value):Blk (w.alloc (.cells cs t)) w.heap.size t cs:=heap_alloc_new w _
theorem Blk.ext {w w':World} {g:Nat} {t:TypeId} {cs:Array Value} (h:Blk w g t cs) (e:Ext w w'):Blk w' g t cs:=(e.block g h.lt).trans h
theorem Blk.alloc {w:World} {g:Nat} {t:TypeId} {cs:Array Value} (h:Blk w g t cs) (o:Obj):Blk (w.alloc o) g t cs:=h.ext (Ext.of_alloc _ _)
theorem Blk.set {w:World} {g:Nat} {t:TypeId} {cs:Array Value} (h:Blk w g t cs) (i:Nat) (u:Value):Blk (w.setCell ⟨g,i,none⟩ u) g t (cs.setIfInBounds i u):=by
 unfold Blk at h ⊢
 simp [World.setCell,Array.getElem?_modify,h]
theorem Blk.grown {w w':World} {g:Nat} {t:TypeId} {cs:Array Value} {row:Option Nat} (h:Blk w g t cs) (hb:w.grownBy w' row) (hg:some g ≠ row):Blk w' g t cs:=(hb.block g h.lt hg).trans h
theorem Blk.ne {w:World} {g g':Nat} {t t':TypeId} {cs cs':Array Value} (h:Blk w g t cs) (h':Blk w g' t' cs') (hne:t ≠ t'):g ≠ g':=by
 rintro rfl
 unfold Blk at h h'
 rw [h] at h'
 injection h' with h'
 injection h' with _ ht
 exact hne ht
end Go.Proofs.Ytlffjnmbpoemnaa

namespace Go.Proofs.Ytlffjnmbpoemnaa
open Go.RowKit Go.ChangeShapes Go.WideShapes Go.Deep

section
variable {H:Type} {enc:TypeId × Value → H} {P:Program} {w:World} {base:Nat} {held:Bool}

/-- A slice's elements, cell by cell. -/
theorem rd_slice {t e:TypeId} {sz n:Nat} {v:Value} {y:DataW H × List MemPlace} (ht:P.underlying t = some (.slice e)) (hc:P.cellsOf e = sz) (hsz:0 < sz) (h:DataW.trod enc P w base (fun _=>true) held n t [v] = some y) :
  ∃ A len cap,v = .slice A len cap ∧ len ≤ 9223372036854775807 ∧ (A = none → len = 0) ∧ ∀ i,i < len → ∃ b off m cs z,A = some ⟨b,off,none⟩ ∧ b < w.heap.size ∧ cs.length = sz ∧ (∀ j,j < sz → w.cell? ⟨b,off + i * sz + j,none⟩ = cs[j]?) ∧
   DataW.trod enc P w base (fun _=>true) held m e cs = some z:=by
 rcases open_slice ht h with ⟨h0,_⟩|⟨a,len,cap,m,n',D,Pl,h0,hb,hl,hm,hmm,_,hx⟩
 ·injection h0 with h0
  exact ⟨none,0,0,h0,by omega,fun _=>rfl,fun i hi=>by omega⟩
 ·injection h0 with h0
  have hmx:maxLen = 9223372036854775807:=rfl
  refine ⟨some a,len,cap,h0,by omega,(fun h=>by cases h),fun i hi=>?_⟩
  simp only [if_true] at hmm
  obtain ⟨cs,h1,h2⟩:=hx i (by omega)
  obtain ⟨_,hlen,hcell⟩:=World.cells?_some h1
  rw [hc] at hlen hcell
  have hc0:=hcell 0 hsz
  rw [List.getElem?_eq_getElem (by omega)] at hc0
  obtain ⟨b,off,spot⟩:=a
  have hadd:∀ (x y:Nat),((⟨b,off,spot⟩:Addr).add x).add y = (⟨b,off,spot⟩:Addr).add (x + y):=fun x y=>add_of_add _ _ _
  have hsp:spot = none:=by
   obtain ⟨cs0,g1,_⟩:=hx 0 (by omega)
   obtain ⟨_,glen,gcell⟩:=World.cells?_some g1
   rw [hc] at glen gcell
   have g0:=gcell 0 hsz
   rw [List.getElem?_eq_getElem (by omega)] at g0
   have:=World.cell?_spot g0
   simpa [hadd,Addr.add] using this
  subst hsp
  have hform:∀ x,(⟨b,off,none⟩:Addr).add x = ⟨b,off + x,none⟩:=fun x=>by
   unfold Addr.add
   by_cases hx0:x = 0 <;> simp [hx0]
  refine ⟨b,off,n',cs,_,rfl,?_,hlen,fun j hj=>?_,h2⟩
  ·have:=World.block_lt_of_cell? w _ hc0
   rw [hadd,hform] at this
   exact this
  ·have:=hcell j hj
   rw [hadd,hform] at this
   rw [← this,Nat.add_assoc]

theorem rd_int {t:TypeId} {n:Nat} {cs:List Value} {y:DataW H × List MemPlace} (ht:P.underlying t = some (.int .i64)) (h:DataW.trod enc P w base (fun _=>true) held n t cs = some y):∃ i:Int,cs = [.int .i64 i] ∧ -9223372036854775808 ≤ i ∧ i ≤ 9223372036854775807:=by
 obtain ⟨i,h1,_,h3⟩:=DataW.trod_int ht h
 refine ⟨i,h1,?_⟩
 simpa [Lit.wf,IntKind.min,IntKind.max,IntKind.signed,IntKind.bits] using h3

def I64 (x:Int):Prop:=-9223372036854775808 ≤ x ∧ x ≤ 9223372036854775807

/-- A world that only has more. -/
theorem since_of_ext {W W':World} (h:Ext W W'):W.Since W.heap.size W':=⟨h.os,h.tape,h.output,h.size,fun k hk=>h.block k hk⟩
/-- An argument reads as before in a world that only has more. -/
theorem stays {t:TypeId} (hl:laidOutB P = true) (hr:P.readableRec t = true) (hrow:t < P.types.size) {W W':World} {sp':Nat → Bool} {v:Value} {d:DataW H} {ps:List MemPlace}
  (h:DataW.Trod enc P W 0 (fun _=>true) true t v d ps) (hE:Ext W W') (hlt:∀ p ∈ ps,p.block < W.heap.size) (hs:∀ p ∈ ps,sp' p.block = true):DataW.Trod enc P W' 0 sp' true t v d ps :=
 WideElems.Trod_stays hl hr hrow h (fun p hp=>(since_of_ext hE).sameAt (hlt p hp)) hs
end
end Go.Proofs.Ytlffjnmbpoemnaa

namespace Go.Proofs.Ytlffjnmbpoemnaa
open Go.RowKit Go.ChangeShapes Go.WideShapes Go.Deep Go.ChangeAt

section
variable {H:Type} {enc:TypeId × Value → H} {P:Program}
theorem staysAll (hl:laidOutB P = true) {W W':World} (hE:Ext W W') {sp':Nat → Bool}:∀ {ts:List TypeId} {vs:List Value} {ds:List (DataW H)} {ps:List MemPlace},(∀ t ∈ ts,P.readableRec t = true ∧ t < P.types.size) →
  DataW.TrodAll enc P W 0 (fun _=>true) true ts vs ds ps → (∀ p ∈ ps,p.block < W.heap.size) → (∀ p ∈ ps,sp' p.block = true) → DataW.TrodAll enc P W' 0 sp' true ts vs ds ps:=by
 intro ts
 induction ts with
 | nil =>
  intro vs ds ps _ h _ _
  obtain ⟨rfl,rfl,rfl⟩:=trodAll_nil h
  exact trodAll_mk0
 | cons t ts ih =>
  intro vs ds ps ht h hlt hs
  obtain ⟨v,vs',d,ds',p,q,rfl,rfl,rfl,h0,hr⟩:=trodAll_cons h
  exact trodAll_cons_mk (stays hl (ht t List.mem_cons_self).1 (ht t List.mem_cons_self).2 h0 hE (fun x hx=>hlt x (List.mem_append_left _ hx)) (fun x hx=>hs x (List.mem_append_left _ hx)))
   (ih (fun t' h'=>ht t' (List.mem_cons_of_mem _ h')) hr (fun x hx=>hlt x (List.mem_append_right _ hx)) (fun x hx=>hs x (List.mem_append_right _ hx)))

theorem trodLen {w:World} {base:Nat} {spare:Nat → Bool} {held:Bool}:∀ {ts:List TypeId} {vs:List Value} {ds:List (DataW H)} {ps:List MemPlace},DataW.TrodAll enc P w base spare held ts vs ds ps → ds.length = ts.length:=by
 intro ts
 induction ts with
 | nil =>
  intro vs ds ps h
  obtain ⟨rfl,rfl,rfl⟩:=trodAll_nil h
  rfl
 | cons t ts ih =>
  intro vs ds ps h
  obtain ⟨v,vs',d,ds',p,q,rfl,rfl,rfl,h0,hr⟩:=trodAll_cons h
  simp [ih hr]

theorem law_post {f:Func} {s:ChangeSpec} {W W':World} {args:Array Value} {ds gs:List (DataW H)} {before:List MemPlace} {tb:TypeId} (hl:laidOutB P = true) (hts:∀ t ∈ f.params.toList,P.readableRec t = true ∧ t < P.types.size)
  (hv:s.vars = []) (hb:P.underlying tb = some .bool) (hrt:f.resultTypes = #[tb]) (hspec:∀ l:List (DataW H),l.length = f.params.toList.length → s.fn H (l ++ []) = { results:=[.lit (.bool true)],args:=l,vars:=[] })
  (hW:DataW.Whole enc P f.params.toList s.vars false W args.toList ds gs before) (hE:Ext W W'):s.post enc P f false true false false W args (.bool true) W':=by
 have hW':=hW
 obtain ⟨p,q,hA,hV,rfl,_,_⟩:=hW
 rw [hv] at hV
 obtain ⟨rfl,rfl⟩:=trodVars_none hV
 have hlt:∀ x ∈ p,x.block < W.heap.size:=fun x hx=>hW'.lt x (by simp [hx])
 have hlen:=trodLen hA
 have hs:=hspec ds hlen
 refine ⟨ds,[],_,[],p,[],hW',?_,?_,?_,(since_of_ext hE).frame _,fun h=>by cases h⟩
 ·rw [hs,hrt]
  exact trodAll_cons_mk (shut_bool hb _) trodAll_mk0
 ·rw [hs]
  exact staysAll hl hE hts hA hlt (fun x hx=>by simpa using hlt x hx)
 ·rw [hs,hv]
  rfl
end
end Go.Proofs.Ytlffjnmbpoemnaa

namespace Go.Proofs.Ytlffjnmbpoemnaa
open Go.RowKit Go.ChangeShapes Go.WideShapes Go.Deep

def nobody : Nat → Prop:=fun _=>False
/-- Cells that are as a table says. -/
def CellsAre (w:World) (cs:List Value) (sz:Nat) (c:Nat → AV):Prop:=cs.length = sz ∧ ∀ o,o < sz → ∃ u,cs[o]? = some u ∧ u.oneCell' = true ∧ rep nobody w (c o) g0 u
theorem law_calls {P:Program} {f:FuncId} {xs:List AV} (H:ACall P f xs [] (fun r h=>r = .bool true ∧ h = [])) {w:World} {vs:Array Value} (hs:vs.size = xs.length) (hr:∀ (i:Nat) (x:AV),xs[i]? = some x → rep nobody w x g0 (vs.getD i undef)) :
  Calls P f vs w fun e w'=>e = .returned (.bool true) ∧ Ext w w':=by
 have noM:∀ b,MM nobody g0 [] b → False:=fun b hb=>by
  rcases hb with hb|⟨d,cap,⟨x,hx,_⟩,_⟩
  ·exact hb
  ·simp at hx
 refine (H.2 nobody g0 w vs (HOK.nil w (fun _ h=>h.elim)) hs fun i x hx=>rep_mono (Chg.refl _ w) (fun b _ hb=>(noM b hb).elim) _ (GM.le_refl _) (hr i x hx)).mono ?_
 rintro e w' ⟨v,r,h',g',rfl,T,hv,rfl,_⟩
 have:v = .bool true:=hv
 subst this
 exact ⟨rfl,T.chg.os,T.chg.tape,T.chg.output,T.chg.size,fun b hb=>T.chg.block b hb (fun hm=>noM b (.inr hm))⟩
theorem CellsAre.agg {w:World} {cs:List Value} {sz:Nat} {c:Nat → AV} (h:CellsAre w cs sz c):rep nobody w (.agg sz c) g0 (.agg cs.toArray) :=
 ⟨_,rfl,by simp [h.1],fun i hi=>by obtain ⟨u,h1,h2,h3⟩:=h.2 i hi;exact ⟨u,by simpa using h1,h2,h3⟩⟩
theorem CellsAre.val {w:World} {v:Value} {cs:List Value} {c:Nat → AV} (h:CellsAre w cs 1 c) (hv:cs = [v]):rep nobody w (c 0) g0 v:=by
 subst hv
 obtain ⟨u,h1,_,h3⟩:=h.2 0 (by omega)
 simp at h1
 rw [h1];exact h3
theorem CellsAre.sub {w:World} {cs:List Value} {off k:Nat} {c:Nat → AV} (h:CellsAre w ((cs.drop off).take k) k c) {o:Nat} (ho:o < k):∃ u,cs[off + o]? = some u ∧ u.oneCell' = true ∧ rep nobody w (c o) g0 u:=by
 obtain ⟨u,h1,h2⟩:=h.2 o ho
 rw [List.getElem?_take] at h1
 simp only [ho,if_true,List.getElem?_drop] at h1
 exact ⟨u,h1,h2⟩
theorem CellsAre.one {w : World} {v : Value} {x : AV} (h1 : v.oneCell' = true) (h : rep nobody w x g0 v) : CellsAre w [v] 1 (fun _ => x) :=
  ⟨rfl, fun o ho => by obtain rfl : o = 0 := (by omega)
                       exact ⟨v, rfl, h1, h⟩⟩
section
variable {H:Type} {enc:TypeId × Value → H} {P:Program} {w:World} {base:Nat} {held:Bool}
theorem rdr_int {t:TypeId} {n:Nat} {cs:List Value} {y:DataW H × List MemPlace} (ht:P.underlying t = some (.int .i64)) (h:DataW.trod enc P w base (fun _=>true) held n t cs = some y):∃ i:Int,I64 i ∧ CellsAre w cs 1 (fun _=>.int .i64 i):=by
 obtain ⟨i,rfl,hi⟩:=rd_int ht h
 exact ⟨i,hi,.one rfl rfl⟩
theorem rdr_slice {α:Type} {t e:TypeId} {sz:Nat} (c:α → Nat → AV) (Q:α → Prop) (d:α) (ht:P.underlying t = some (.slice e)) (hc:P.cellsOf e = sz) (hsz:0 < sz) (rd:∀ {n:Nat} {cs:List Value} {y:DataW H × List MemPlace},DataW.trod enc P w base (fun _=>true) held n e cs = some y → ∃ x,Q x ∧ CellsAre w cs sz (c x))
  {n:Nat} {cs:List Value} {y:DataW H × List MemPlace} (h:DataW.trod enc P w base (fun _=>true) held n t cs = some y) :
  ∃ (z:Bool) (l:List α),(l.length ≤ 9223372036854775807 ∧ ∀ x ∈ l,Q x) ∧ CellsAre w cs 1 (fun _=>.sl z false l.length sz (fun k=>c (l.getD k d))):=by
 have hmx:maxLen = 9223372036854775807:=rfl
 have h':=h
 rcases open_slice ht h with ⟨rfl,_⟩|⟨a,len,cap,m,n',D,Pl,rfl,hb,hl,hm,hmm,_,hx⟩
 ·refine ⟨true,[],⟨by simp,fun x hx=>by cases hx⟩,.one rfl ⟨none,0,rfl,by simp,by simp,fun h=>(by cases h),by simp,fun k hk=>absurd hk (Nat.not_lt_zero k)⟩⟩
 ·obtain ⟨A,len',cap',h0,hl',hn,hxx⟩:=rd_slice ht hc hsz h'
  injection h0 with e1 e2 e3
  subst e1;subst e2;subst e3
  have key:∀ i,i < len → ∃ x:α,Q x ∧ ∃ b off,(some a:Option Addr) = some ⟨b,off,none⟩ ∧ b < w.heap.size ∧ ∀ o,o < sz → ∃ u,w.cell? ⟨b,off + i * sz + o,none⟩ = some u ∧ u.oneCell' = true ∧ rep nobody w (c x o) g0 u:=fun i hi=>by
   obtain ⟨b,off,m,cs,z,hA,hb,hlen,hcell,ht'⟩:=hxx i hi
   obtain ⟨x,hq,hcs⟩:=rd ht'
   refine ⟨x,hq,b,off,hA,hb,fun o ho=>?_⟩
   obtain ⟨u,h1,h2⟩:=hcs.2 o ho
   exact ⟨u,(hcell o ho).trans h1,h2⟩
  obtain ⟨f,hf⟩:∃ f:Nat → α,∀ i,i < len → Q (f i) ∧ ∃ b off,(some a:Option Addr) = some ⟨b,off,none⟩ ∧ b < w.heap.size ∧ ∀ o,o < sz → ∃ u,w.cell? ⟨b,off + i * sz + o,none⟩ = some u ∧ u.oneCell' = true ∧ rep nobody w (c (f i) o) g0 u:=by
   refine ⟨fun i=>open Classical in if hi:i < len then (key i hi).choose else d,fun i hi=>?_⟩
   simp only [hi,dif_pos]
   exact (key i hi).choose_spec
  have hlen:((List.range len).map f).length = len:=by simp
  refine ⟨false,(List.range len).map f,⟨by rw [hlen];omega,fun x hx=>?_⟩,?_⟩
  ·obtain ⟨k,hk,rfl⟩:=List.mem_map.1 hx
   exact (hf k (by simpa using hk)).1
  ·refine .one rfl ⟨some a,cap,by rw [hlen],by simp,by simp,fun h=>(by cases h),by rw [hlen];exact hl,fun k hk o ho=>?_⟩
   rw [hlen] at hk
   obtain ⟨_,b,off,h1,h2,h3⟩:=hf k hk
   obtain ⟨u,h4,h5,h6⟩:=h3 o ho
   have hg:((List.range len).map f).getD k d = f k:=by simp [List.getD,hk]
   exact ⟨b,off,u,h1,h2,fun h=>h,h4,h5,by show rep nobody w (c (((List.range len).map f).getD k d) o) g0 u;rw [hg];exact h6⟩
theorem rdr_field {t:TypeId} {fs:Array Field} {n:Nat} {cs:List Value} {y:DataW H × List MemPlace} (ht:P.underlying t = some (.struct fs)) (h:DataW.trod enc P w base (fun _=>true) held n t cs = some y):cs.length = P.cellsOf t ∧ ∀ (k:Nat) (f:Field),fs[k]? = some f → ∃ m x,DataW.trod enc P w base (fun _=>true) held m f.type ((cs.drop f.offset).take (P.cellsOf f.type)) = some x:=by
 obtain ⟨xs,m,_,rfl,hl,hlen,hf⟩:=DataW.trod_struct ht h
 refine ⟨hl,fun k f hk=>?_⟩
 have hk':k < fs.size:=by
  rcases Nat.lt_or_ge k fs.size with h|h
  ·exact h
  ·rw [Array.getElem?_eq_none h] at hk;cases hk
 have:=hf k f hk
 rw [List.getElem?_eq_getElem (by omega)] at this
 exact ⟨m,_,this⟩
/-- Each field reads. -/
def FRd (enc:TypeId × Value → H) (P:Program) (w:World) (base:Nat) (held:Bool) (cs:List Value):List Field → Prop
 | []=>True
 | f :: fs=>(∃ m x,DataW.trod enc P w base (fun _=>true) held m f.type ((cs.drop f.offset).take (P.cellsOf f.type)) = some x) ∧ FRd enc P w base held cs fs
theorem FRd.of {cs:List Value}:∀ {l:List Field},(∀ f ∈ l,∃ m x,DataW.trod enc P w base (fun _=>true) held m f.type ((cs.drop f.offset).take (P.cellsOf f.type)) = some x) → FRd enc P w base held cs l
 | [],_=>trivial
 | _ :: _,h=>⟨h _ List.mem_cons_self,FRd.of fun f hf=>h f (List.mem_cons_of_mem _ hf)⟩
theorem rdr_fields {t:TypeId} {fs:Array Field} {n:Nat} {cs:List Value} {y:DataW H × List MemPlace} (ht:P.underlying t = some (.struct fs)) (h:DataW.trod enc P w base (fun _=>true) held n t cs = some y):cs.length = P.cellsOf t ∧ FRd enc P w base held cs fs.toList:=by
 obtain ⟨h1,h2⟩:=rdr_field ht h
 refine ⟨h1,FRd.of fun f hf=>?_⟩
 obtain ⟨k,hk,rfl⟩:=List.getElem_of_mem hf
 exact h2 k _ (by simp)
end
end Go.Proofs.Ytlffjnmbpoemnaa

namespace Go.Proofs.Ytlffjnmbpoemnaa
open Go.RowKit Go.ChangeShapes Go.WideShapes Go.Deep

section
variable {H:Type} {enc:TypeId × Value → H} {w:World} {base:Nat} {held:Bool}
theorem csz : Try.prog.cellsOf 3 = 1 ∧ Try.prog.cellsOf 23 = 1 ∧ Try.prog.cellsOf 22 = 1 ∧ Try.prog.cellsOf 25 = 3 ∧ Try.prog.cellsOf 27 = 3 ∧ Try.prog.cellsOf 45 = 4 ∧ Try.prog.cellsOf 51 = 4 ∧ Try.prog.cellsOf 64 = 4:=by
 refine ⟨?_,?_,?_,?_,?_,?_,?_,?_⟩ <;> kernel_rfl
theorem rt_int {n:Nat} {cs:List Value} {y:DataW H × List MemPlace} (h:DataW.trod enc Try.prog w base (fun _=>true) held n 3 cs = some y):∃ i:Int,I64 i ∧ CellsAre w cs 1 (fun _=>AI i):=rdr_int Try.underlying3 h
theorem rt_ints {n:Nat} {cs:List Value} {y:DataW H × List MemPlace} (h:DataW.trod enc Try.prog w base (fun _=>true) held n 23 cs = some y):∃ (z:Bool) (l:List Int),(l.length ≤ 9223372036854775807 ∧ ∀ x ∈ l,I64 x) ∧ CellsAre w cs 1 (fun _=>aInts z false l) :=
 rdr_slice (fun (x:Int) _=>AI x) I64 0 Try.underlying23 csz.1 (by omega) rt_int h
theorem rt_row {n:Nat} {cs:List Value} {y:DataW H × List MemPlace} (h:DataW.trod enc Try.prog w base (fun _=>true) held n 23 cs = some y):∃ x:Bool × List Int,x.2.length ≤ 9223372036854775807 ∧ CellsAre w cs 1 (fun _=>aInts x.1 false x.2):=by
 obtain ⟨z,l,hl,c⟩:=rt_ints h
 exact ⟨(z,l),hl.1,c⟩
theorem rt_rows {n:Nat} {cs:List Value} {y:DataW H × List MemPlace} (h:DataW.trod enc Try.prog w base (fun _=>true) held n 22 cs = some y):∃ (z:Bool) (rz:Nat → Bool) (l:List (List Int)),l.length ≤ 9223372036854775807 ∧ CellsAre w cs 1 (fun _=>aRows z false rz (fun _=>false) l):=by
 obtain ⟨z,l,hl,c⟩:=rdr_slice (fun (x:Bool × List Int) _=>aInts x.1 false x.2) (fun x=>x.2.length ≤ 9223372036854775807) (true,[]) Try.underlying22 csz.2.1 (by omega) rt_row h
 have hb:∀ k,(l.map Prod.snd).getD k [] = (l.getD k (true,[])).2:=fun k=>by
  simp only [List.getD,List.getElem?_map]
  cases l[k]? <;> rfl
 refine ⟨z,fun k=>(l.getD k (true,[])).1,l.map Prod.snd,by simpa using hl.1,?_⟩
 simp only [aRows,List.length_map,hb]
 exact c
theorem rt_sheet {n:Nat} {cs:List Value} {y:DataW H × List MemPlace} (h:DataW.trod enc Try.prog w base (fun _=>true) held n 25 cs = some y):∃ (f:ShF) (s:Sheet),True ∧ CellsAre w cs 3 (cSh f s):=by
 obtain ⟨hl,⟨_,_,h0⟩,⟨_,_,h1⟩,⟨_,_,h2⟩,_⟩:=rdr_fields Try.underlying25 h
 simp only [csz.1,csz.2.1,csz.2.2.1] at h0 h1 h2
 obtain ⟨z0,rz,a,_,c0⟩:=rt_rows h0
 obtain ⟨z1,b,_,c1⟩:=rt_ints h1
 obtain ⟨c,_,c2⟩:=rt_int h2
 refine ⟨⟨z0,false,rz,fun _=>false,z1,false⟩,⟨a,b,c⟩,trivial,by rw [hl];exact csz.2.2.2.1,fun o ho=>?_⟩
 rcases (show o = 0 ∨ o = 1 ∨ o = 2 by omega) with rfl|rfl|rfl
 ·exact c0.sub (o:=0) (by omega)
 ·exact c1.sub (o:=0) (by omega)
 ·exact c2.sub (o:=0) (by omega)
structure Plc where
 r:Int
 c:Int
 a:Int
theorem rt_place {n:Nat} {cs:List Value} {y:DataW H × List MemPlace} (h:DataW.trod enc Try.prog w base (fun _=>true) held n 27 cs = some y):∃ x:Plc,(I64 x.r ∧ I64 x.c ∧ I64 x.a) ∧ CellsAre w cs 3 (ofL [AI x.r,AI x.c,AI x.a]):=by
 obtain ⟨hl,⟨_,_,h0⟩,⟨_,_,h1⟩,⟨_,_,h2⟩,_⟩:=rdr_fields Try.underlying27 h
 simp only [csz.1] at h0 h1 h2
 obtain ⟨a,ha,c0⟩:=rt_int h0
 obtain ⟨b,hb,c1⟩:=rt_int h1
 obtain ⟨c,hc,c2⟩:=rt_int h2
 refine ⟨⟨a,b,c⟩,⟨ha,hb,hc⟩,by rw [hl];exact csz.2.2.2.2.1,fun o ho=>?_⟩
 rcases (show o = 0 ∨ o = 1 ∨ o = 2 by omega) with rfl|rfl|rfl
 ·exact c0.sub (o:=0) (by omega)
 ·exact c1.sub (o:=0) (by omega)
 ·exact c2.sub (o:=0) (by omega)
structure Wid where
 z:Bool
 m:List Int
 p:Plc
theorem rt_hidden {n:Nat} {cs:List Value} {y:DataW H × List MemPlace} (h:DataW.trod enc Try.prog w base (fun _=>true) held n 64 cs = some y):∃ x:Wid,(x.m.length ≤ 9223372036854775807 ∧ I64 x.p.r ∧ I64 x.p.c ∧ I64 x.p.a) ∧ CellsAre w cs 4 (ofL [aInts x.z false x.m,AI x.p.r,AI x.p.c,AI x.p.a]):=by
 obtain ⟨hl,⟨_,_,h0⟩,⟨_,_,h1⟩,_⟩:=rdr_fields Try.underlying64 h
 simp only [csz.2.1,csz.2.2.2.2.1] at h0 h1
 obtain ⟨z,a,ha,c0⟩:=rt_ints h0
 obtain ⟨p,hp,c1⟩:=rt_place h1
 refine ⟨⟨z,a,p⟩,⟨ha.1,hp⟩,by rw [hl];exact csz.2.2.2.2.2.2.2,fun o ho=>?_⟩
 rcases (show o = 0 ∨ o = 1 ∨ o = 2 ∨ o = 3 by omega) with rfl|rfl|rfl|rfl
 ·exact c0.sub (o:=0) (by omega)
 ·exact c1.sub (o:=0) (by omega)
 ·exact c1.sub (o:=1) (by omega)
 ·exact c1.sub (o:=2) (by omega)
structure Kno where
 z:Bool
 rz:Nat → Bool
 l:List (List Int)
 p:Plc
end
end Go.Proofs.Ytlffjnmbpoemnaa
