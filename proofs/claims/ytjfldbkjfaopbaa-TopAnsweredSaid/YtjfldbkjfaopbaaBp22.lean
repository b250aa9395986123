/- Cover: Plan of the program (printed by gen_coo.py). / Cover: the laws' helpers: sameInts, Far, valid. / Cover: the example, works. / Plain facts on memory: slices that read as lists, worlds that extend other worlds / How the form's readings of data give cells: slices, ints / What a law's row asks behind the walk: the call returned true and the world only has more -/
import Derived.Test.YtjfldbkjfaopbaaBp21
import Derived.Test.YtjfldbkjfaopbaaBp17
import Derived.Test.YtjfldbkjfaopbaaBp20
import Derived.WalkKit
import Derived.WalkSpells
import Derived.WalkLawsBesides
import Derived.Deep.QuietTactic
import Derived.BigQuiet
import Derived.Lib.Hide
import Derived.Deep.Slices
import Derived.Lib.SmallJoins
import Derived.OpenShut
import Derived.WideKeyArgs
import Derived.Deep.OwnRows
import Derived.ProofKit
import Derived.JoinedOf
set_option linter.unusedSimpArgs false
set_option linter.unusedVariables false
namespace Go.Proofs.Ytjfldbkjfaopbaa
open Go.RowKit
theorem from_all (f:PoF) (p:Pool) (h:PoolOk p):∀ r,FromOk f p r
 | 0=>from_zero f p h
 | r + 1=>from_step f p h r (from_all f p h r)
def leftTo (p:Pool) (i k:Nat):Int:=if k < i then p.most else 0
def leftL (p:Pool):List Int:=(List.range 8).map fun k=>leftTo p p.folk.length k
theorem leftL_get {p:Pool} {k:Nat} (h:k < 8):(leftL p).getD k 0 = leftTo p p.folk.length k:=by
 unfold leftL
 simp [List.getD,h]
theorem leftL_8 {p:Pool} (h:PoolOk p):T8 (leftL p):=by
 refine ⟨by simp [leftL],fun k hk=>?_⟩
 rw [leftL_get hk]
 have:=h.most
 unfold leftTo
 split <;> omega
def planE (p:Pool):List Int × Int × Int:=if p.ok then (if (fromT p p.needs.length (leftL p)).2 < 0 then ([],0,3) else ((fromT p p.needs.length (leftL p)).1,(fromT p p.needs.length (leftL p)).2,0)) else ([],0,100)
theorem left_keep {p:Pool} {i j:Nat} (h:j ≠ i):leftTo p i j = leftTo p (i + 1) j:=by
 unfold leftTo
 by_cases h1:j < i
 ·rw [if_pos h1,if_pos (by omega)]
 ·rw [if_neg h1,if_neg (by omega)]
theorem left_new {p:Pool} {i:Nat}:p.most = leftTo p (i + 1) i:=(if_pos (by omega)).symm
theorem grow_row {p:Pool} {n k o:Nat} (hk:k < n + 1 + 1) (ho:o < 1):outU (coversT p k) = appc (n + 1) (fun s _=>outU (coversT p s)) (bslC (fun _=>ofL [.sl true true 0 0 fun _ _=>.bot]) [(0,outU (coversT p (n + 1)))]) k o:=by
 obtain rfl:o = 0:=by omega
 by_cases h:k < n + 1
 ·rw [appc,if_pos h]
 ·obtain rfl:k = n + 1:=by omega
  rw [appc,if_neg h,Nat.sub_self];rfl
def gBlk (f:PoF) (p:Pool):Nat → List AB
 | 0=>[.mp 9 [],.box 3 (ofL [iOpen f p,.sl true true 0 0 fun _ _=>.bot,.mpv 0]),.box 9 (cKey 0 (leftTo p p.folk.length))]
 | k + 1=>[.mp 9 [],.box 3 (ofL [iOpen f p,.own 3 (k + 1),.mpv 0]),.box 9 (cKey 0 (leftTo p p.folk.length)),.row (k + 1) 1 (fun s _=>outU (coversT p s))]
set_option maxHeartbeats 8000000
set_option maxRecDepth 100000
theorem plan_y (f:PoF) (p:Pool) (hn:NearP p) (hk:p.ok = true):ACall Try.prog 17 [aPool f p] [] (fun r h=>r = .tup 3 (ofL [outI (planE p).1,AI (planE p).2.1,AI (planE p).2.2]) ∧ h = []):=by
 have cO:=open_y f p hn (check_0.2 hk)
 have h:=pool_d hk
 have s6:=h.s6
 have n8:=h.n8
 have hm:=h.most
 have cF:=from_all f p h p.needs.length 0 (by omega) (leftL p) [] (leftL_8 h) (good_nil p)
 have hE:planE p = if (fromT p p.needs.length (leftL p)).2 < 0 then ([],0,3) else ((fromT p p.needs.length (leftL p)).1,(fromT p p.needs.length (leftL p)).2,0):=by unfold planE;rw [if_pos hk]
 generalize hfr:fromT p p.needs.length (leftL p) = fr at hE cF
 rw [hE]
 clear hE
 (refine fcall_of mixed Try.func17 rfl (by decide) (hs:={ pub:=[16],ord:=[(14,[(0,[]),(1,[]),(2,[]),(3,[]),(4,[]),(5,[]),(6,[]),(7,[4]),(8,[4]),(9,[]),(10,[]),(11,[]),(12,[])])] }) ?k (ac:=?ac) ?c (rs:=?rs) ?r ?l ?H;(case k=>kernel_rfl);(case c=>(conv=>(lhs;cbv)));(case r=>(conv=>(lhs;cbv)));(case l=>exact Nat.le_of_ble_eq_true rfl))
 (repeat' ((try conv=>whnf);first|(with_reducible first|refine wT ?_|refine wF ?_|(refine wI (fun hq=>?_) (fun hq=>?_) <;> try simp only [zA,zE,zD,zJ,zB,zI,wK,wL] at hq)|refine wA ?_|refine wB ?_|refine wC ?_|refine wD ?_|refine wE ?_)|((with_reducible refine wN ?_ ?_);focus exact needA)|(with_reducible refine wG ?_)|(refine FCall.pure (cO) ⟨Ln.sameB _ rfl,True.intro⟩ rfl ?_)|(with_reducible refine wP ?_)))
 all_goals (try conv=>whnf)
 refine FLoop.of (ACalls.mono _) (X:=Nat) (fun i=>[(1,.ptr 0 0),(5,iOpen f p),(6,.ptr 2 0),(7,.ptr 3 0),(25,AI p.folk.length),(26,AI i)]) (fun i=>[.box 4 (cPool f p),.mp 9 [],.box 3 (ofL [iOpen f p,.sl true true 0 0 fun _ _=>.bot,.mpv 1]),.box 9 (cKey 0 (leftTo p i))]) (fun i=>i ≤ p.folk.length) (fun i=>p.folk.length - i) 0 ⟨Nat.zero_le _,[0,1,2,3],wO rfl rfl rfl (wV rfl LnB.A (wV rfl LnB.A (wV rfl (LnB.boxN ⟨⟨⟨True.intro,Ln.A⟩,Ln.slz _ _ _ _ _ _ _ (fun _=>rfl)⟩,Ln.mpv _ _ rfl⟩) (wV rfl (LnB.boxN ⟨⟨⟨⟨⟨⟨⟨⟨⟨True.intro,Ln.A⟩,Ln.int (if_neg (Nat.not_lt_zero _)).symm⟩,Ln.int (if_neg (Nat.not_lt_zero _)).symm⟩,Ln.int (if_neg (Nat.not_lt_zero _)).symm⟩,Ln.int (if_neg (Nat.not_lt_zero _)).symm⟩,Ln.int (if_neg (Nat.not_lt_zero _)).symm⟩,Ln.int (if_neg (Nat.not_lt_zero _)).symm⟩,Ln.int (if_neg (Nat.not_lt_zero _)).symm⟩,Ln.int (if_neg (Nat.not_lt_zero _)).symm⟩) wX)))),allA⟩ ?_
 intro i hi
 by_cases hlt:i < p.folk.length
 ·have hkeep:=fun j=>left_keep (p:=p) (i:=i) (j:=j)
  have hnew:=left_new (p:=p) (i:=i)
  obtain h0|h0|h0|h0|h0|h0|h0|h0:i = 0 ∨ i = 1 ∨ i = 2 ∨ i = 3 ∨ i = 4 ∨ i = 5 ∨ i = 6 ∨ i = 7:=by omega
  ·subst h0
   (repeat' ((try conv=>whnf);first|(with_reducible first|refine wT ?_|refine wF ?_|(refine wI (fun hq=>?_) (fun hq=>?_) <;> try simp only [zA,zE,zD,zJ,zB,zI,wK,wL] at hq)|refine wA ?_|refine wB ?_|refine wC ?_|refine wD ?_|refine wE ?_)|((with_reducible refine wN ?_ ?_);focus exact needA)|(with_reducible refine wG ?_)|(with_reducible refine wP ?_)))
   all_goals (try conv=>whnf)
   exact ⟨⟨0 + 1,hlt,by show _ < _;omega,[0,1,2,3],wO rfl rfl rfl (wV rfl LnB.A (wV rfl LnB.A (wV rfl (LnB.boxN ⟨⟨⟨True.intro,Ln.A⟩,Ln.slz _ _ _ _ _ _ _ (fun _=>rfl)⟩,Ln.mpv _ _ rfl⟩) (wV rfl (LnB.boxN ⟨⟨⟨⟨⟨⟨⟨⟨⟨True.intro,Ln.A⟩,Ln.int (hnew)⟩,Ln.int (hkeep 1 (by decide))⟩,Ln.int (hkeep 2 (by decide))⟩,Ln.int (hkeep 3 (by decide))⟩,Ln.int (hkeep 4 (by decide))⟩,Ln.int (hkeep 5 (by decide))⟩,Ln.int (hkeep 6 (by decide))⟩,Ln.int (hkeep 7 (by decide))⟩) wX)))),allA⟩⟩
  ·subst h0
   (repeat' ((try conv=>whnf);first|(with_reducible first|refine wT ?_|refine wF ?_|(refine wI (fun hq=>?_) (fun hq=>?_) <;> try simp only [zA,zE,zD,zJ,zB,zI,wK,wL] at hq)|refine wA ?_|refine wB ?_|refine wC ?_|refine wD ?_|refine wE ?_)|((with_reducible refine wN ?_ ?_);focus exact needA)|(with_reducible refine wG ?_)|(with_reducible refine wP ?_)))
   all_goals (try conv=>whnf)
   exact ⟨⟨1 + 1,hlt,by show _ < _;omega,[0,1,2,3],wO rfl rfl rfl (wV rfl LnB.A (wV rfl LnB.A (wV rfl (LnB.boxN ⟨⟨⟨True.intro,Ln.A⟩,Ln.slz _ _ _ _ _ _ _ (fun _=>rfl)⟩,Ln.mpv _ _ rfl⟩) (wV rfl (LnB.boxN ⟨⟨⟨⟨⟨⟨⟨⟨⟨True.intro,Ln.A⟩,Ln.int (hkeep 0 (by decide))⟩,Ln.int (hnew)⟩,Ln.int (hkeep 2 (by decide))⟩,Ln.int (hkeep 3 (by decide))⟩,Ln.int (hkeep 4 (by decide))⟩,Ln.int (hkeep 5 (by decide))⟩,Ln.int (hkeep 6 (by decide))⟩,Ln.int (hkeep 7 (by decide))⟩) wX)))),allA⟩⟩
  ·subst h0
   (repeat' ((try conv=>whnf);first|(with_reducible first|refine wT ?_|refine wF ?_|(refine wI (fun hq=>?_) (fun hq=>?_) <;> try simp only [zA,zE,zD,zJ,zB,zI,wK,wL] at hq)|refine wA ?_|refine wB ?_|refine wC ?_|refine wD ?_|refine wE ?_)|((with_reducible refine wN ?_ ?_);focus exact needA)|(with_reducible refine wG ?_)|(with_reducible refine wP ?_)))
   all_goals (try conv=>whnf)
   exact ⟨⟨2 + 1,hlt,by show _ < _;omega,[0,1,2,3],wO rfl rfl rfl (wV rfl LnB.A (wV rfl LnB.A (wV rfl (LnB.boxN ⟨⟨⟨True.intro,Ln.A⟩,Ln.slz _ _ _ _ _ _ _ (fun _=>rfl)⟩,Ln.mpv _ _ rfl⟩) (wV rfl (LnB.boxN ⟨⟨⟨⟨⟨⟨⟨⟨⟨True.intro,Ln.A⟩,Ln.int (hkeep 0 (by decide))⟩,Ln.int (hkeep 1 (by decide))⟩,Ln.int (hnew)⟩,Ln.int (hkeep 3 (by decide))⟩,Ln.int (hkeep 4 (by decide))⟩,Ln.int (hkeep 5 (by decide))⟩,Ln.int (hkeep 6 (by decide))⟩,Ln.int (hkeep 7 (by decide))⟩) wX)))),allA⟩⟩
  ·subst h0
   (repeat' ((try conv=>whnf);first|(with_reducible first|refine wT ?_|refine wF ?_|(refine wI (fun hq=>?_) (fun hq=>?_) <;> try simp only [zA,zE,zD,zJ,zB,zI,wK,wL] at hq)|refine wA ?_|refine wB ?_|refine wC ?_|refine wD ?_|refine wE ?_)|((with_reducible refine wN ?_ ?_);focus exact needA)|(with_reducible refine wG ?_)|(with_reducible refine wP ?_)))
   all_goals (try conv=>whnf)
   exact ⟨⟨3 + 1,hlt,by show _ < _;omega,[0,1,2,3],wO rfl rfl rfl (wV rfl LnB.A (wV rfl LnB.A (wV rfl (LnB.boxN ⟨⟨⟨True.intro,Ln.A⟩,Ln.slz _ _ _ _ _ _ _ (fun _=>rfl)⟩,Ln.mpv _ _ rfl⟩) (wV rfl (LnB.boxN ⟨⟨⟨⟨⟨⟨⟨⟨⟨True.intro,Ln.A⟩,Ln.int (hkeep 0 (by decide))⟩,Ln.int (hkeep 1 (by decide))⟩,Ln.int (hkeep 2 (by decide))⟩,Ln.int (hnew)⟩,Ln.int (hkeep 4 (by decide))⟩,Ln.int (hkeep 5 (by decide))⟩,Ln.int (hkeep 6 (by decide))⟩,Ln.int (hkeep 7 (by decide))⟩) wX)))),allA⟩⟩
  ·subst h0
   (repeat' ((try conv=>whnf);first|(with_reducible first|refine wT ?_|refine wF ?_|(refine wI (fun hq=>?_) (fun hq=>?_) <;> try simp only [zA,zE,zD,zJ,zB,zI,wK,wL] at hq)|refine wA ?_|refine wB ?_|refine wC ?_|refine wD ?_|refine wE ?_)|((with_reducible refine wN ?_ ?_);focus exact needA)|(with_reducible refine wG ?_)|(with_reducible refine wP ?_)))
   all_goals (try conv=>whnf)
   exact ⟨⟨4 + 1,hlt,by show _ < _;omega,[0,1,2,3],wO rfl rfl rfl (wV rfl LnB.A (wV rfl LnB.A (wV rfl (LnB.boxN ⟨⟨⟨True.intro,Ln.A⟩,Ln.slz _ _ _ _ _ _ _ (fun _=>rfl)⟩,Ln.mpv _ _ rfl⟩) (wV rfl (LnB.boxN ⟨⟨⟨⟨⟨⟨⟨⟨⟨True.intro,Ln.A⟩,Ln.int (hkeep 0 (by decide))⟩,Ln.int (hkeep 1 (by decide))⟩,Ln.int (hkeep 2 (by decide))⟩,Ln.int (hkeep 3 (by decide))⟩,Ln.int (hnew)⟩,Ln.int (hkeep 5 (by decide))⟩,Ln.int (hkeep 6 (by decide))⟩,Ln.int (hkeep 7 (by decide))⟩) wX)))),allA⟩⟩
  ·subst h0
   (repeat' ((try conv=>whnf);first|(with_reducible first|refine wT ?_|refine wF ?_|(refine wI (fun hq=>?_) (fun hq=>?_) <;> try simp only [zA,zE,zD,zJ,zB,zI,wK,wL] at hq)|refine wA ?_|refine wB ?_|refine wC ?_|refine wD ?_|refine wE ?_)|((with_reducible refine wN ?_ ?_);focus exact needA)|(with_reducible refine wG ?_)|(with_reducible refine wP ?_)))
   all_goals (try conv=>whnf)
   exact ⟨⟨5 + 1,hlt,by show _ < _;omega,[0,1,2,3],wO rfl rfl rfl (wV rfl LnB.A (wV rfl LnB.A (wV rfl (LnB.boxN ⟨⟨⟨True.intro,Ln.A⟩,Ln.slz _ _ _ _ _ _ _ (fun _=>rfl)⟩,Ln.mpv _ _ rfl⟩) (wV rfl (LnB.boxN ⟨⟨⟨⟨⟨⟨⟨⟨⟨True.intro,Ln.A⟩,Ln.int (hkeep 0 (by decide))⟩,Ln.int (hkeep 1 (by decide))⟩,Ln.int (hkeep 2 (by decide))⟩,Ln.int (hkeep 3 (by decide))⟩,Ln.int (hkeep 4 (by decide))⟩,Ln.int (hnew)⟩,Ln.int (hkeep 6 (by decide))⟩,Ln.int (hkeep 7 (by decide))⟩) wX)))),allA⟩⟩
  ·subst h0
   (repeat' ((try conv=>whnf);first|(with_reducible first|refine wT ?_|refine wF ?_|(refine wI (fun hq=>?_) (fun hq=>?_) <;> try simp only [zA,zE,zD,zJ,zB,zI,wK,wL] at hq)|refine wA ?_|refine wB ?_|refine wC ?_|refine wD ?_|refine wE ?_)|((with_reducible refine wN ?_ ?_);focus exact needA)|(with_reducible refine wG ?_)|(with_reducible refine wP ?_)))
   all_goals (try conv=>whnf)
   exact ⟨⟨6 + 1,hlt,by show _ < _;omega,[0,1,2,3],wO rfl rfl rfl (wV rfl LnB.A (wV rfl LnB.A (wV rfl (LnB.boxN ⟨⟨⟨True.intro,Ln.A⟩,Ln.slz _ _ _ _ _ _ _ (fun _=>rfl)⟩,Ln.mpv _ _ rfl⟩) (wV rfl (LnB.boxN ⟨⟨⟨⟨⟨⟨⟨⟨⟨True.intro,Ln.A⟩,Ln.int (hkeep 0 (by decide))⟩,Ln.int (hkeep 1 (by decide))⟩,Ln.int (hkeep 2 (by decide))⟩,Ln.int (hkeep 3 (by decide))⟩,Ln.int (hkeep 4 (by decide))⟩,Ln.int (hkeep 5 (by decide))⟩,Ln.int (hnew)⟩,Ln.int (hkeep 7 (by decide))⟩) wX)))),allA⟩⟩
  ·subst h0
   (repeat' ((try conv=>whnf);first|(with_reducible first|refine wT ?_|refine wF ?_|(refine wI (fun hq=>?_) (fun hq=>?_) <;> try simp only [zA,zE,zD,zJ,zB,zI,wK,wL] at hq)|refine wA ?_|refine wB ?_|refine wC ?_|refine wD ?_|refine wE ?_)|((with_reducible refine wN ?_ ?_);focus exact needA)|(with_reducible refine wG ?_)|(with_reducible refine wP ?_)))
   all_goals (try conv=>whnf)
   exact ⟨⟨7 + 1,hlt,by show _ < _;omega,[0,1,2,3],wO rfl rfl rfl (wV rfl LnB.A (wV rfl LnB.A (wV rfl (LnB.boxN ⟨⟨⟨True.intro,Ln.A⟩,Ln.slz _ _ _ _ _ _ _ (fun _=>rfl)⟩,Ln.mpv _ _ rfl⟩) (wV rfl (LnB.boxN ⟨⟨⟨⟨⟨⟨⟨⟨⟨True.intro,Ln.A⟩,Ln.int (hkeep 0 (by decide))⟩,Ln.int (hkeep 1 (by decide))⟩,Ln.int (hkeep 2 (by decide))⟩,Ln.int (hkeep 3 (by decide))⟩,Ln.int (hkeep 4 (by decide))⟩,Ln.int (hkeep 5 (by decide))⟩,Ln.int (hkeep 6 (by decide))⟩,Ln.int (hnew)⟩) wX)))),allA⟩⟩
 ·obtain rfl:i = p.folk.length:=by omega
  (repeat' ((try conv=>whnf);first|(with_reducible first|refine wT ?_|refine wF ?_|(refine wI (fun hq=>?_) (fun hq=>?_) <;> try simp only [zA,zE,zD,zJ,zB,zI,wK,wL] at hq)|refine wA ?_|refine wB ?_|refine wC ?_|refine wD ?_|refine wE ?_)|((with_reducible refine wN ?_ ?_);focus exact needA)|(with_reducible refine wG ?_)|(with_reducible refine wP ?_)))
  all_goals (try conv=>whnf)
  refine FLoop.of (ACalls.mono _) (X:=Nat) (fun s=>[(5,iOpen f p),(6,.ptr 1 0),(7,.ptr 2 0),(37,AI p.needs.length),(38,AI s)]) (gBlk f p) (fun s=>s ≤ p.needs.length) (fun s=>p.needs.length - s) 0 ⟨Nat.zero_le _,[1,2,3],wO rfl rfl rfl (wV rfl LnB.A (wV rfl (LnB.boxN ⟨⟨⟨True.intro,Ln.A⟩,Ln.slz _ _ _ _ _ _ _ (fun _=>rfl)⟩,Ln.mpv _ _ rfl⟩) (wV rfl LnB.A wX))),allA⟩ ?_
  intro s hs
  by_cases hlt:s < p.needs.length
  ·have cS:=slot_ok f p s hlt h
   cases s
   all_goals
    (repeat' ((try conv=>whnf);first|(with_reducible first|refine wT ?_|refine wF ?_|(refine wI (fun hq=>?_) (fun hq=>?_) <;> try simp only [zA,zE,zD,zJ,zB,zI,wK,wL] at hq)|refine wA ?_|refine wB ?_|refine wC ?_|refine wD ?_|refine wE ?_)|((with_reducible refine wN ?_ ?_);focus exact needA)|(with_reducible refine wG ?_)|(refine FCall.pure (cS) ⟨Ln.sameB _ rfl,Ln.sameB _ rfl,True.intro⟩ rfl ?_)|(with_reducible refine wP ?_)))
    all_goals (try conv=>whnf)
   ·exact ⟨⟨0 + 1,hlt,by show _ < _;omega,[0,1,2,3],wO rfl rfl rfl (wV rfl LnB.A (wV rfl (LnB.boxN ⟨⟨⟨True.intro,Ln.A⟩,Ln.own _ _ _ rfl⟩,Ln.mpv _ _ rfl⟩) (wV rfl LnB.A (wV rfl (LnB.rowE (Nat.le_refl _) (fun k hk o ho=>by obtain rfl:k = 0:=Nat.lt_one_iff.1 hk;obtain rfl:o = 0:=Nat.lt_one_iff.1 ho;rfl)) wX)))),allA⟩⟩
   ·rename_i n
    exact ⟨⟨n + 1 + 1,hlt,by show _ < _;omega,[0,1,2,4],wO rfl rfl rfl (wV rfl LnB.A (wV rfl (LnB.boxN ⟨⟨⟨True.intro,Ln.A⟩,Ln.own _ _ _ rfl⟩,Ln.mpv _ _ rfl⟩) (wV rfl LnB.A (wV rfl (LnB.rowE (Nat.le_refl _) (fun k hk o ho=>grow_row hk ho)) wX)))),allA⟩⟩
  ·obtain rfl:s = p.needs.length:=by omega
   obtain ⟨m,hm⟩:∃ m,p.needs.length = m + 1:=⟨p.needs.length - 1,by have:=h.s1;omega⟩
   have hbl:gBlk f p p.needs.length = [.mp 9 [],.box 3 (ofL [iOpen f p,.own 3 p.needs.length,.mpv 0]),.box 9 (cKey 0 (leftTo p p.folk.length)),.row p.needs.length 1 (fun s _=>outU (coversT p s))]:=by rw [hm];rfl
   rw [hbl]
   (repeat' ((try conv=>whnf);first|(with_reducible first|refine wT ?_|refine wF ?_|(refine wI (fun hq=>?_) (fun hq=>?_) <;> try simp only [zA,zE,zD,zJ,zB,zI,wK,wL] at hq)|refine wA ?_|refine wB ?_|refine wC ?_|refine wD ?_|refine wE ?_)|((with_reducible refine wN ?_ ?_);focus exact needA)|(with_reducible refine wG ?_)|(with_reducible refine wP ?_)))
   all_goals (try conv=>whnf)
   refine FWk.of [(6,.ptr 0 0),(7,.ptr 2 0)] [.box 3 (cPlanner f p),.mp 9 [],.box 9 (cKey 0 (leftTo p p.folk.length))] [1,0,2] (wO rfl rfl rfl (wV rfl (LnB.boxN ⟨⟨⟨True.intro,Ln.A⟩,Ln.pubE (goneB rfl) rfl (Nat.le_refl _) rfl (fun _ _ _ _=>rfl)⟩,Ln.mpv _ _ rfl⟩) (wV rfl LnB.A (wV rfl LnB.A wX)))) allA ?_
   by_cases hc:fr.2 < 0
   ·rw [if_pos hc]
    (repeat' ((try conv=>whnf);first|(with_reducible first|refine wT ?_|refine wF ?_|(refine wI (fun hq=>?_) (fun hq=>?_) <;> try simp only [zA,zE,zD,zJ,zB,zI,wK,wL] at hq)|refine wA ?_|refine wB ?_|refine wC ?_|refine wD ?_|refine wE ?_)|((with_reducible refine wN ?_ ?_);focus exact needA)|(with_reducible refine wG ?_)|((refine FCall.give [0,1] [] cF rfl rfl ⟨⟨_,rfl,trivial,LnB.A⟩,⟨_,rfl,trivial,LnB.A⟩,True.intro⟩ ⟨Ln.A,Ln.aggN ⟨⟨⟨⟨⟨⟨⟨⟨⟨True.intro,Ln.int rfl⟩,Ln.int (leftL_get (by decide)).symm⟩,Ln.int (leftL_get (by decide)).symm⟩,Ln.int (leftL_get (by decide)).symm⟩,Ln.int (leftL_get (by decide)).symm⟩,Ln.int (leftL_get (by decide)).symm⟩,Ln.int (leftL_get (by decide)).symm⟩,Ln.int (leftL_get (by decide)).symm⟩,Ln.int (leftL_get (by decide)).symm⟩,True.intro⟩ ?_);rintro _ _ ⟨L2,hL2,rfl,rfl⟩;(refine ⟨by exact Nat.le_of_ble_eq_true rfl,.inl rfl,?_⟩))|(with_reducible refine wP ?_)))
    all_goals (try conv=>whnf)
    exact ⟨⟨.tup 3 (ofL [outI [],AI 0,AI 3]),[],[],Cut.nil _,Ln.tupN ⟨⟨⟨True.intro,Ln.slz _ _ _ _ _ _ _ (by decide)⟩,Ln.A⟩,Ln.A⟩,rfl,rfl⟩⟩
   ·rw [if_neg hc]
    (repeat' ((try conv=>whnf);first|(with_reducible first|refine wT ?_|refine wF ?_|(refine wI (fun hq=>?_) (fun hq=>?_) <;> try simp only [zA,zE,zD,zJ,zB,zI,wK,wL] at hq)|refine wA ?_|refine wB ?_|refine wC ?_|refine wD ?_|refine wE ?_)|((with_reducible refine wN ?_ ?_);focus exact needA)|(with_reducible refine wG ?_)|((refine FCall.give [0,1] [] cF rfl rfl ⟨⟨_,rfl,trivial,LnB.A⟩,⟨_,rfl,trivial,LnB.A⟩,True.intro⟩ ⟨Ln.A,Ln.aggN ⟨⟨⟨⟨⟨⟨⟨⟨⟨True.intro,Ln.int rfl⟩,Ln.int (leftL_get (by decide)).symm⟩,Ln.int (leftL_get (by decide)).symm⟩,Ln.int (leftL_get (by decide)).symm⟩,Ln.int (leftL_get (by decide)).symm⟩,Ln.int (leftL_get (by decide)).symm⟩,Ln.int (leftL_get (by decide)).symm⟩,Ln.int (leftL_get (by decide)).symm⟩,Ln.int (leftL_get (by decide)).symm⟩,True.intro⟩ ?_);rintro _ _ ⟨L2,hL2,rfl,rfl⟩;(refine ⟨by exact Nat.le_of_ble_eq_true rfl,.inl rfl,?_⟩))|(with_reducible refine wP ?_)))
    all_goals (try conv=>whnf)
    (refine ⟨⟨_,[],[],Cut.nil _,Ln.sameB _ rfl,?_,rfl⟩⟩)
    rfl
theorem plan_n (f:PoF) (p:Pool) (hn:NearP p) (hk:p.ok = false):ACall Try.prog 17 [aPool f p] [] (fun r h=>r = .tup 3 (ofL [outI (planE p).1,AI (planE p).2.1,AI (planE p).2.2]) ∧ h = []):=by
 have hc:checkP p = 100:=check_100 hk
 have cO:=open_n f p hn (by omega)
 have hE:planE p = ([],0,100):=by unfold planE;rw [hk];rfl
 rw [hE]
 rw [hc] at cO
 (refine fcall_of mixed Try.func17 rfl (by decide) (hs:={ pub:=[16],ord:=[(14,[(0,[]),(1,[]),(2,[]),(3,[]),(4,[]),(5,[]),(6,[]),(7,[4]),(8,[4]),(9,[]),(10,[]),(11,[]),(12,[])])] }) ?k (ac:=?ac) ?c (rs:=?rs) ?r ?l ?H;(case k=>kernel_rfl);(case c=>(conv=>(lhs;cbv)));(case r=>(conv=>(lhs;cbv)));(case l=>exact Nat.le_of_ble_eq_true rfl))
 (repeat' ((try conv=>whnf);first|(with_reducible first|refine wT ?_|refine wF ?_|(refine wI (fun hq=>?_) (fun hq=>?_) <;> try simp only [zA,zE,zD,zJ,zB,zI,wK,wL] at hq)|refine wA ?_|refine wB ?_|refine wC ?_|refine wD ?_|refine wE ?_)|((with_reducible refine wN ?_ ?_);focus exact needA)|(with_reducible refine wG ?_)|(refine FCall.pure (cO) ⟨Ln.sameB _ rfl,True.intro⟩ rfl ?_)|(with_reducible refine wP ?_)))
 all_goals (try conv=>whnf)
 exact ⟨⟨.tup 3 (ofL [outI [],AI 0,AI 100]),[],[],Cut.nil _,Ln.tupN ⟨⟨⟨True.intro,Ln.slz _ _ _ _ _ _ _ (by decide)⟩,Ln.A⟩,Ln.A⟩,rfl,rfl⟩⟩
theorem plan_ok (f:PoF) (p:Pool) (hn:NearP p):ACall Try.prog 17 [aPool f p] [] (fun r h=>r = .tup 3 (ofL [outI (planE p).1,AI (planE p).2.1,AI (planE p).2.2]) ∧ h = []):=by
 cases hk:p.ok
 ·exact plan_n f p hn hk
 ·exact plan_y f p hn hk
end Go.Proofs.Ytjfldbkjfaopbaa

namespace Go.Proofs.Ytjfldbkjfaopbaa
open Go.RowKit

theorem same_step {a b:List Int} {i:Nat} (hl:a.length = b.length) (hi:i < a.length) (h:a.take i = b.take i) (e:a.getD i 0 = b.getD i 0):a.take (i + 1) = b.take (i + 1):=by
 have hb:i < b.length:=by omega
 rw [List.take_add_one,List.take_add_one,h]
 simp only [List.getD,List.getElem?_eq_getElem hi,List.getElem?_eq_getElem hb,Option.getD_some] at e
 rw [List.getElem?_eq_getElem hi,List.getElem?_eq_getElem hb,e]
set_option maxHeartbeats 4000000
set_option maxRecDepth 100000
/-- Too large for the laws. -/
def bigR (r:List Int):Bool:=decide (20 < r.length)
def farT (p:Pool):Bool:=decide (20 < p.folk.length) || decide (20 < p.needs.length) || p.needs.any bigR || (p.ok && (decide (5 < p.folk.length) || decide (3 < p.needs.length) || decide (3 < p.nT)))
theorem near_of {p:Pool} (h:farT p = false):NearP p:=by
 simp only [farT,Bool.or_eq_false_iff,decide_eq_false_iff_not,Nat.not_lt] at h
 obtain ⟨⟨⟨a,b⟩,d⟩,e⟩:=h
 refine ⟨by omega,by omega,fun i hi=>?_⟩
 rw [List.any_eq_false] at d
 have hb:=d (p.needs.getD i []) (by simp [List.getD,List.getElem?_eq_getElem hi])
 have hb:¬ 20 < (p.needs.getD i []).length:=fun hh=>hb (decide_eq_true hh)
 show (p.needs.getD i []).length ≤ 1000
 omega
structure Small (p:Pool):Prop where
 n5:p.folk.length ≤ 5
 s3:p.needs.length ≤ 3
 t3:p.nT ≤ 3
theorem small_of {p:Pool} (h:farT p = false) (hk:p.ok = true):Small p:=by
 simp only [farT,hk,Bool.true_and,Bool.or_eq_false_iff,decide_eq_false_iff_not,Nat.not_lt] at h
 obtain ⟨_,⟨a,b⟩,d⟩:=h
 exact ⟨a,b,d⟩
theorem any_step {α:Type} {p:α → Bool} {l:List α} {i:Nat} (d:α) (h:i < l.length) (e:l.any p = (l.drop i).any p) (hp:p (l.getD i d) = false):l.any p = (l.drop (i + 1)).any p:=by
 rw [e,drop_eq d h,List.any_cons,hp,Bool.false_or]
theorem any_yes {α:Type} {p:α → Bool} {l:List α} {i:Nat} (d:α) (h:i < l.length) (e:l.any p = (l.drop i).any p) (hp:p (l.getD i d) = true):l.any p = true:=by
 rw [e,drop_eq d h,List.any_cons,hp,Bool.true_or]
theorem any_end {α:Type} {p:α → Bool} {l:List α} {i:Nat} (h:l.length ≤ i) (e:l.any p = (l.drop i).any p):l.any p = false:=by
 rw [e,List.drop_eq_nil_of_le h];rfl
theorem farT_ok (f:PoF) (p:Pool):ACall Try.prog 4 [aPool f p] [] (fun r h=>r = .bool (farT p) ∧ h = []):=by
 (refine fcall_of mixed Try.func4 rfl (by decide) (hs:={}) ?k (ac:=?ac) ?c (rs:=?rs) ?r ?l ?H;(case k=>kernel_rfl);(case c=>(conv=>(lhs;cbv)));(case r=>(conv=>(lhs;cbv)));(case l=>exact Nat.le_of_ble_eq_true rfl))
 (repeat' ((try conv=>whnf);first|(with_reducible first|refine wT ?_|refine wF ?_|(refine wI (fun hq=>?_) (fun hq=>?_) <;> try simp only [zA,zE,zD,zJ,zB,zI,wK,wL] at hq)|refine wA ?_|refine wB ?_|refine wC ?_|refine wD ?_|refine wE ?_)|((with_reducible refine wN ?_ ?_);focus exact needA)|(with_reducible refine wG ?_)|(with_reducible refine wP ?_)))
 all_goals (try conv=>whnf)
 ·(refine ⟨⟨_,[],[],Cut.nil _,Ln.sameB _ rfl,?_,rfl⟩⟩)
  unfold farT
  rw [decide_eq_true (by omega)];rfl
 ·(refine ⟨⟨_,[],[],Cut.nil _,Ln.sameB _ rfl,?_,rfl⟩⟩)
  unfold farT
  rw [decide_eq_true (p:=20 < p.needs.length) (by omega)];simp
 ·refine FLoop.of (ACalls.mono _) (X:=Nat) (fun i=>[(1,.ptr 0 0),(3,AI i)]) (fun _=>[.box 4 (cPool f p)]) (fun i=>i ≤ p.needs.length ∧ p.needs.any bigR = (p.needs.drop i).any bigR) (fun i=>p.needs.length - i) 0 ⟨⟨Nat.zero_le _,rfl⟩,[0],Cut.A,allA⟩ ?_
  rintro i ⟨hi,hL⟩
  by_cases hlt:i < p.needs.length
  ·(repeat' ((try conv=>whnf);first|(with_reducible first|refine wT ?_|refine wF ?_|(refine wI (fun hq=>?_) (fun hq=>?_) <;> try simp only [zA,zE,zD,zJ,zB,zI,wK,wL] at hq)|refine wA ?_|refine wB ?_|refine wC ?_|refine wD ?_|refine wE ?_)|((with_reducible refine wN ?_ ?_);focus exact needA)|(with_reducible refine wG ?_)|(with_reducible refine wP ?_)))
   all_goals (try conv=>whnf)
   ·(refine ⟨⟨_,[],[],Cut.nil _,Ln.sameB _ rfl,?_,rfl⟩⟩)
    unfold farT
    rw [any_yes [] hlt hL (by unfold bigR;rw [decide_eq_true (by omega)])];simp
   ·(exact ⟨⟨(i + 1),⟨hlt,any_step [] hlt hL (by unfold bigR;rw [decide_eq_false (by omega)])⟩,by show _ < _;omega,[0],Cut.A,allA⟩⟩)
  ·have hE:=any_end (by omega) hL
   have hA:farT p = (p.ok && (decide (5 < p.folk.length) || decide (3 < p.needs.length) || decide (3 < p.nT))):=by
    unfold farT
    rw [decide_eq_false (p:=20 < p.folk.length) (by omega),decide_eq_false (p:=20 < p.needs.length) (by omega),hE];rfl
   have hn:NearP p:=by
    refine ⟨by omega,by omega,fun i hi=>?_⟩
    rw [List.any_eq_false] at hE
    have hb:=hE (p.needs.getD i []) (by simp [List.getD,List.getElem?_eq_getElem hi])
    have hb:¬ 20 < (p.needs.getD i []).length:=fun hh=>hb (decide_eq_true hh)
    show (p.needs.getD i []).length ≤ 1000
    omega
   have cC:=refCheck_ok f p hn
   rw [hA]
   cases hk:p.ok
   ·rw [check_100 hk] at cC
    (repeat' ((try conv=>whnf);first|(with_reducible first|refine wT ?_|refine wF ?_|(refine wI (fun hq=>?_) (fun hq=>?_) <;> try simp only [zA,zE,zD,zJ,zB,zI,wK,wL] at hq)|refine wA ?_|refine wB ?_|refine wC ?_|refine wD ?_|refine wE ?_)|((with_reducible refine wN ?_ ?_);focus exact needA)|(with_reducible refine wG ?_)|(refine FCall.pure (cC) ⟨Ln.sameB _ rfl,True.intro⟩ rfl ?_)|(with_reducible refine wP ?_)))
    all_goals (try conv=>whnf)
    (refine ⟨⟨_,[],[],Cut.nil _,Ln.sameB _ rfl,?_,rfl⟩⟩)
    rfl
   ·have h:=pool_d hk
    have s1:=h.s1
    rw [check_0.2 hk] at cC
    have cT:=tongues_ok f p (by omega)
    (repeat' ((try conv=>whnf);first|(with_reducible first|refine wT ?_|refine wF ?_|(refine wI (fun hq=>?_) (fun hq=>?_) <;> try simp only [zA,zE,zD,zJ,zB,zI,wK,wL] at hq)|refine wA ?_|refine wB ?_|refine wC ?_|refine wD ?_|refine wE ?_)|((with_reducible refine wN ?_ ?_);focus exact needA)|(with_reducible refine wG ?_)|(refine FCall.pure (cC) ⟨Ln.sameB _ rfl,True.intro⟩ rfl ?_)|(refine FCall.pure (cT) ⟨Ln.sameB _ rfl,True.intro⟩ rfl ?_)|(with_reducible refine wP ?_)))
    all_goals (try conv=>whnf)
    all_goals
     (refine ⟨⟨_,[],[],Cut.nil _,Ln.sameB _ rfl,?_,rfl⟩⟩)
     first
      | (rw [decide_eq_true (p:=5 < p.folk.length) (by omega)];rfl)
      | (rw [decide_eq_false (p:=5 < p.folk.length) (by omega),decide_eq_true (p:=3 < p.needs.length) (by omega)];rfl)
      | (rw [decide_eq_false (p:=5 < p.folk.length) (by omega),decide_eq_false (p:=3 < p.needs.length) (by omega)];exact bool_eq (decide_eq_decide.2 (by omega)))
def validT (p:Pool):Bool:=!farT p && p.ok
theorem valid_d {p:Pool} (h:validT p = true):NearP p ∧ p.ok = true ∧ PoolOk p ∧ Small p:=by
 unfold validT at h
 rw [Bool.and_eq_true,Bool.not_eq_true'] at h
 exact ⟨near_of h.1,h.2,pool_d h.2,small_of h.1 h.2⟩
end Go.Proofs.Ytjfldbkjfaopbaa

namespace Go.Proofs.Ytjfldbkjfaopbaa
open Go.RowKit

def exP : Pool:=⟨[⟨1,3,10⟩,⟨3,3,25⟩,⟨2,1,12⟩,⟨2,3,20⟩,⟨1,2,15⟩],[[1,1],[1,0]],1,2⟩
theorem ex_plan : planE exP = ([7,17],72,0):=by decide +kernel
theorem ex_missed : missedE exP [15,17] = ([2,1,0,0,1],0):=by decide +kernel
theorem ex_near : NearP exP:=⟨by decide,by decide,fun s hs=>by
 rcases (show s = 0 ∨ s = 1 by have:s < 2:=hs;omega) with rfl|rfl <;> decide⟩
def exF : PoF:=⟨false,true,false,true,fun _=>false,fun _=>true⟩
theorem LeV.ints {l:List Int} {c:Nat → Nat → AV} {n:Nat} (hn:n = l.length) (h:∀ k,k < n → c k 0 = AI (l.getD k 0)):LeV (.sl false true n 1 c) (aInts false true l):=by
 subst hn
 exact LeV.sl (fun h=>h) (fun k hk o ho=>by obtain rfl:o = 0:=(by omega);exact LeV.of (h k hk).symm)
theorem k2 {p:Nat → Prop} (h0:p 0) (h1:p 1):∀ k,k < 2 → p k:=fun k hk=>by
 rcases (show k = 0 ∨ k = 1 by omega) with rfl|rfl
 ·exact h0
 ·exact h1
theorem k3 {p:Nat → Prop} (h0:p 0) (h1:p 1) (h2:p 2):∀ k,k < 3 → p k:=fun k hk=>by
 rcases (show k = 0 ∨ k = 1 ∨ k = 2 by omega) with rfl|rfl|rfl
 ·exact h0
 ·exact h1
 ·exact h2
theorem k5 {p:Nat → Prop} (h0:p 0) (h1:p 1) (h2:p 2) (h3:p 3) (h4:p 4):∀ k,k < 5 → p k:=fun k hk=>by
 rcases (show k = 0 ∨ k = 1 ∨ k = 2 ∨ k = 3 ∨ k = 4 by omega) with rfl|rfl|rfl|rfl|rfl
 ·exact h0
 ·exact h1
 ·exact h2
 ·exact h3
 ·exact h4
set_option maxHeartbeats 4000000
set_option maxRecDepth 100000
theorem example_ok : ACall Try.prog 18 [] [] (fun r h'=>r = aPool exF exP ∧ h' = []):=by
 (refine fcall_of mixed Try.func18 rfl (by decide) (hs:={}) ?k (ac:=?ac) ?c (rs:=?rs) ?r ?l ?H;(case k=>kernel_rfl);(case c=>(conv=>(lhs;cbv)));(case r=>(conv=>(lhs;cbv)));(case l=>exact Nat.le_of_ble_eq_true rfl))
 (repeat' ((try conv=>whnf);first|(with_reducible first|refine wT ?_|refine wF ?_|(refine wI (fun hq=>?_) (fun hq=>?_) <;> try simp only [zA,zE,zD,zJ,zB,zI,wK,wL] at hq)|refine wA ?_|refine wB ?_|refine wC ?_|refine wD ?_|refine wE ?_)|((with_reducible refine wN ?_ ?_);focus exact needA)|(with_reducible refine wG ?_)|(with_reducible refine wP ?_)))
 (try conv=>whnf)
 refine ⟨⟨aPool exF exP,[],[],Cut.nil _,Ln.aggN ⟨⟨⟨⟨True.intro,Ln.sl _ _ _ _ _ _ _ (fun h=>h) ?fo⟩,Ln.le _ _ True.intro (LeV.sl (fun h=>h) ?ne)⟩,Ln.A⟩,Ln.A⟩,rfl,rfl⟩⟩
 case fo=>exact k5 (k3 rfl rfl rfl) (k3 rfl rfl rfl) (k3 rfl rfl rfl) (k3 rfl rfl rfl) (k3 rfl rfl rfl)
 case ne=>exact k2 (fun o ho=>by obtain rfl:o = 0:=(by omega);exact LeV.ints rfl (k2 rfl rfl)) (fun o ho=>by obtain rfl:o = 0:=(by omega);exact LeV.ints rfl (k2 rfl rfl))
theorem ex_planC : ACall Try.prog 17 [aPool exF exP] [] (fun r h=>r = .tup 3 (ofL [outI [7,17],AI 72,AI 0]) ∧ h = []):=by
 have:=plan_ok exF exP ex_near
 rwa [ex_plan] at this
theorem Ln.lits {σ:Nat → Nat → Prop} {Bp:Nat → Prop} {H:List AB} {c:Nat → Nat → AV} {n:Nat} {l:List Int} (hn:n = l.length) (h:∀ k,k < n → c k 0 = AI (l.getD k 0)):Ln σ Bp H (.sl false true n 1 c) (aInts false true l):=by
 subst hn
 exact Ln.sl _ _ _ _ _ _ _ (fun h=>h) fun k hk o ho=>by
  obtain rfl:o = 0:=by omega
  exact (h k hk).symm
end Go.Proofs.Ytjfldbkjfaopbaa

namespace Go.Proofs.Ytjfldbkjfaopbaa
open Go.RowKit

theorem block_of_add (a:Addr) (n:Nat):(a.add n).block = a.block:=by unfold Addr.add;split <;> rfl
theorem add_of_add (a:Addr) (i j:Nat):(a.add i).add j = a.add (i + j):=by
 unfold Addr.add
 by_cases hi:i = 0 <;> by_cases hj:j = 0 <;> simp [hi,hj,Nat.add_assoc]

/-- w' has all that w has, unchanged. -/
abbrev Ext (w w':World):Prop:=Below w.heap.size w w'

theorem Ext.refl (w:World):Ext w w:=Below.refl _ w
theorem Ext.trans {a b c:World} (h:Ext a b) (k:Ext b c):Ext a c:=Below.trans h (k.mono h.size)
theorem Ext.of_alloc (w:World) (o:Obj):Ext w (w.alloc o):=(Below.refl _ w).alloc (Nat.le_refl _) o
theorem Ext.alloc {a w:World} (h:Ext a w) (o:Obj):Ext a (w.alloc o):=Below.alloc h h.size o
theorem Ext.drew {a w:World} (h:Ext a w):Ext a w.drew:=Below.drew h
theorem Ext.drewN {a w:World} (h:Ext a w) (n:Nat):Ext a (w.drewN n):=⟨h.os,h.tape,h.output,h.size,h.block⟩
theorem Ext.cellOf {w w':World} (h:Ext w w') {p:Addr} (hp:p.block < w.heap.size):w'.cell? p = w.cell? p:=Below.cell h hp

/-- The n elements (size cells each) of a slice at A are the cells xs. -/
def Sl (w:World) (size:Nat) (A:Option Addr) (n:Nat) (xs:List Value):Prop :=
 xs.length = n * size ∧ (0 < n → ∃ b off,A = some ⟨b,off,none⟩ ∧ b < w.heap.size ∧ ∀ (j:Nat) (u:Value),xs[j]? = some u → w.cell? ⟨b,off + j,none⟩ = some u)

theorem Sl.ext {w w':World} {size n:Nat} {A:Option Addr} {xs:List Value} (h:Sl w size A n xs) (e:Ext w w'):Sl w' size A n xs :=
 ⟨h.1,fun hn=>by
  obtain ⟨b,off,hA,hb,hc⟩:=h.2 hn
  exact ⟨b,off,hA,Nat.lt_of_lt_of_le hb e.size,fun j u hu=>(e.cellOf (p:=⟨b,off + j,none⟩) hb).trans (hc j u hu)⟩⟩
theorem Sl.nil (w:World) (size:Nat) (A:Option Addr):Sl w size A 0 []:=⟨by simp,fun h=>absurd h (by omega)⟩
theorem own_lt {w:World} {g:Nat} {o:Obj} (hh:w.heap[g]? = some o):g < w.heap.size:=by
 rcases Nat.lt_or_ge g w.heap.size with hlt|hge
 ·exact hlt
 ·rw [Array.getElem?_eq_none hge] at hh;cases hh
theorem Sl.of_own {w:World} {base size n c:Nat} {e:TypeId} {A:Option Addr} {xs:List Value} (h:w.ownsRow base e size (.slice A n c) n xs):Sl w size A n xs:=by
 refine ⟨h.1,fun hn=>?_⟩
 rcases h.2 with ⟨hv,hx⟩|⟨g,cap,cur,hv,hb,hh,_⟩
 ·injection hv with hA hn'
  omega
 ·injection hv with hA
  subst hA
  refine ⟨g,0,rfl,own_lt hh,fun j u hu=>?_⟩
  have h1:=h.cells (g:=g) rfl j u hu
  unfold Addr.add at h1
  split at h1
  ·rename_i h0;subst h0;exact h1
  ·simpa using h1
theorem Sl.at {w:World} {size n:Nat} {A:Option Addr} {xs:List Value} (h:Sl w size A n xs) {k:Nat} (hk:k < n) :
  ∃ b off,A = some ⟨b,off,none⟩ ∧ b < w.heap.size ∧ ∀ i,i < size → ∃ u,xs[k * size + i]? = some u ∧ w.cell? ⟨b,off + (k * size + i),none⟩ = some u:=by
 obtain ⟨b,off,hA,hb,hc⟩:=h.2 (by omega)
 refine ⟨b,off,hA,hb,fun i hi=>?_⟩
 have hlt:k * size + i < xs.length:=by
  rw [h.1]
  have:(k + 1) * size ≤ n * size:=Nat.mul_le_mul_right _ hk
  rw [Nat.add_mul] at this
  omega
 exact ⟨xs[k * size + i],List.getElem?_eq_getElem hlt,hc _ _ (List.getElem?_eq_getElem hlt)⟩

/-- A slice of ints. -/
def Ints (w:World) (A:Option Addr) (l:List Int):Prop :=
 ∀ k,k < l.length → ∃ b off,A = some ⟨b,off,none⟩ ∧ b < w.heap.size ∧ w.cell? ⟨b,off + k,none⟩ = some (.int .i64 (l.getD k 0))
theorem Ints.ext {w w':World} {A:Option Addr} {l:List Int} (h:Ints w A l) (e:Ext w w'):Ints w' A l:=fun k hk=>by
 obtain ⟨b,off,hA,hb,hc⟩:=h k hk
 exact ⟨b,off,hA,Nat.lt_of_lt_of_le hb e.size,(e.cellOf (p:=⟨b,off + k,none⟩) hb).trans hc⟩
theorem Ints.of_own {w:World} {base n c:Nat} {e:TypeId} {A:Option Addr} {l:List Int} (h:w.ownsRow base e 1 (.slice A n c) n (l.map (.int .i64))):n = l.length ∧ Ints w A l:=by
 have hl:n = l.length:=by have:=h.1;simp at this;omega
 refine ⟨hl,fun k hk=>?_⟩
 obtain ⟨b,off,hA,hb,hc⟩:=(Sl.of_own h).at (k:=k) (by omega)
 obtain ⟨u,hu,hcu⟩:=hc 0 (by omega)
 refine ⟨b,off,hA,hb,?_⟩
 simp at hu hcu
 obtain ⟨a,ha,rfl⟩:=hu
 rw [hcu]
 simp [List.getD,ha]

theorem Ints.get {w:World} {A:Option Addr} {l:List Int} (h:Ints w A l) {k:Nat} (hk:k < l.length) :
  ∃ b off x,A = some ⟨b,off,none⟩ ∧ b < w.heap.size ∧ w.cell? ⟨b,off + k,none⟩ = some (.int .i64 x) ∧ Hid (l.getD k 0 = x):=by
 obtain ⟨b,off,h1,h2,h3⟩:=h k hk
 exact ⟨b,off,_,h1,h2,h3,rfl⟩

theorem Ext.unalloc {w wr:World} {o:Obj} (h:Ext (w.alloc o) wr):Ext w wr:=(Ext.of_alloc w o).trans h
theorem Ext.box {w wr:World} {cs:Array Value} {T:TypeId} (h:Ext (w.alloc (.cells cs T)) wr) (i:Nat):wr.cell? ⟨w.heap.size,i,none⟩ = cs[i]?:=by
 rw [h.cellOf (by simp),World.cell?_alloc_at _ _ _ _ rfl]
theorem Ext.boxFree {w wr:World} {cs:Array Value} {T:TypeId} (h:Ext (w.alloc (.cells cs T)) wr) (i:Nat):wr.frozen? ⟨w.heap.size,i,none⟩ = false:=by
 rw [Below.frozen h (by simp),World.frozen?_alloc_at _ _ _ _ rfl]
theorem Ext.lt {w wr:World} {o:Obj} (h:Ext (w.alloc o) wr):w.heap.size < wr.heap.size:=by have:=h.size;simp at this;omega
theorem Ext.le {w wr:World} (h:Ext w wr):w.heap.size ≤ wr.heap.size:=h.size

theorem Ext.grown {w w':World} (h:Ext w w') (row:Option Nat):w.grownBy w' row:=⟨h.os,h.tape,h.output,h.size,fun i hi _=>h.block i hi⟩
theorem Ext.of_grown {w w':World} (h:w.grownBy w' none):Ext w w':=⟨h.os,h.tape,h.output,h.size,fun i hi=>h.block i hi (by simp)⟩

/-- Block g is just the cells cs of element type t, none frozen. -/
def Blk (w:World) (g:Nat) (t:TypeId) (cs:Array Value):Prop:=w.heap[g]? = some (.cells cs t (0,0))
theorem Blk.lt {w:World} {g:Nat} {t:TypeId} {cs:Array Value} (h:Blk w g t cs):g < w.heap.size:=own_lt h
theorem Blk.cell {w:World} {g:Nat} {t:TypeId} {cs:Array Value} (h:Blk w g t cs) (i:Nat):w.cell? ⟨g,i,none⟩ = cs[i]?:=by
 unfold Blk at h;simp [World.cell?,h]
theorem Blk.free {w:World} {g:Nat} {t:TypeId} {cs:Array Value} (h:Blk w g t cs) (i:Nat):w.frozen? ⟨g,i,none⟩ = false:=by
 unfold Blk at h;simp [World.frozen?,h]
theorem Blk.new (w:World) (t:TypeId) (cs:Array Value):Blk (w.alloc (.cells cs t)) w.heap.size t cs:=heap_alloc_new w _
theorem Blk.ext {w w':World} {g:Nat} {t:TypeId} {cs:Array Value} (h:Blk w g t cs) (e:Ext w w'):Blk w' g t cs:=(e.block g h.lt).trans h
theorem Blk.alloc {w:World} {g:Nat} {t:TypeId} {cs:Array Value} (h:Blk w g t cs) (o:Obj):Blk (w.alloc o) g t cs:=h.ext (Ext.of_alloc _ _)
theorem Blk.set {w:World} {g:Nat} {t:TypeId} {cs:Array Value} (h:Blk w g t cs) (i:Nat) (u:Value):Blk (w.setCell ⟨g,i,none⟩ u) g t (cs.setIfInBounds i u):=by
 unfold Blk at h ⊢
 simp [World.setCell,Array.getElem?_modify,h]
theorem Blk.far {w:World} {g:Nat} {t:TypeId} {cs:Array Value} (h:Blk w g t cs) {p:Addr} (hp:g ≠ p.block) (u:Value):Blk (w.setCell p u) g t cs:=(Below.heap_setCell w p u g hp).trans h
theorem Blk.grown {w w':World} {g:Nat} {t:TypeId} {cs:Array Value} {row:Option Nat} (h:Blk w g t cs) (hb:w.grownBy w' row) (hg:some g ≠ row):Blk w' g t cs:=(hb.block g h.lt hg).trans h
theorem Blk.ne {w:World} {g g':Nat} {t t':TypeId} {cs cs':Array Value} (h:Blk w g t cs) (h':Blk w g' t' cs') (hne:t ≠ t'):g ≠ g':=by
 rintro rfl
 unfold Blk at h h'
 rw [h] at h'
 injection h' with h'
 injection h' with _ ht
 exact hne ht
theorem grown_setCell (w:World) (p:Addr) (u:Value):w.grownBy (w.setCell p u) (some p.block) :=
 ⟨rfl,rfl,rfl,by simp,fun i _ hne=>Below.heap_setCell _ _ _ _ (fun e=>hne (by rw [e]))⟩
theorem grown_refl (w:World) (row:Option Nat):w.grownBy w row:=(Ext.refl w).grown row
theorem grown_trans {a b c:World} {row:Option Nat} (h:a.grownBy b row) (k:b.grownBy c row):a.grownBy c row :=
 ⟨k.os.trans h.os,k.tape.trans h.tape,k.output.trans h.output,Nat.le_trans h.size k.size,fun i hi hne=>(k.block i (Nat.lt_of_lt_of_le hi h.size) hne).trans (h.block i hi hne)⟩
theorem grown_drew (w:World) (row:Option Nat):w.grownBy w.drew row:=(Ext.refl w).drew.grown row

theorem quiet_add_same {P:Program} {f:FuncId} {args:Array Value} {w:World} {a n:Nat} {v:Value}
  (h:Calls P f args (w.drewN (a + n)) fun e w'=>e = .returned v ∧ w' = w.drewN (a + n)) :
  Calls P f args (w.drewN (a + n)) fun e w''=>e = .returned v ∧ ∃ m,w'' = w.drewN (a + m) :=
 h.mono fun _ _ ⟨he,hm⟩=>⟨he,n,hm⟩

/-- A region that draws, all of whose operations read or call, in a class of worlds. -/
theorem wp_region_class {P:Program} {id:Nat} {Q:Exit → Act → World → Prop} {a:Act} {w:World} {l:List Oper} (C:World → Prop) (hm:P.follows .mixedOrders = true) (hB:Region.lexB .any l.toArray = true) (hC:C w.drew)
  (h:wpQuiet P l.toArray C (fun a'=>∀ w',C w' → Q .normal a' w') l a):(Code.region id l.toArray true).wp P Q a w :=
 wp_region_quiet (C:=C) hm hB hC (by simpa using h)

theorem ret_int {k:IntKind} {a b:Int} (h:a = b):Ending.returned (.int k a) = .returned (.int k b):=by rw [h]
theorem ret_bool {a b:Bool} (h:a = b):Ending.returned (.bool a) = .returned (.bool b):=by rw [h]
end Go.Proofs.Ytjfldbkjfaopbaa

namespace Go.Proofs.Ytjfldbkjfaopbaa
open Go.RowKit Go.ChangeShapes Go.WideShapes Go.Deep

section
variable {H:Type} {enc:TypeId × Value → H} {P:Program} {w:World} {base:Nat} {held:Bool}

/-- A slice's elements, cell by cell. -/
theorem rd_slice {t e:TypeId} {sz n:Nat} {v:Value} {y:DataW H × List MemPlace} (ht:P.underlying t = some (.slice e)) (hc:P.cellsOf e = sz) (hsz:0 < sz) (h:DataW.trod enc P w base (fun _=>true) held n t [v] = some y) :
  ∃ A len cap,v = .slice A len cap ∧ len ≤ 9223372036854775807 ∧ (A = none → len = 0) ∧ ∀ i,i < len → ∃ b off m cs z,A = some ⟨b,off,none⟩ ∧ b < w.heap.size ∧ cs.length = sz ∧ (∀ j,j < sz → w.cell? ⟨b,off + i * sz + j,none⟩ = cs[j]?) ∧
   DataW.trod enc P w base (fun _=>true) held m e cs = some z:=by
 rcases open_slice ht h with ⟨h0,_⟩|⟨a,len,cap,m,n',D,Pl,h0,hb,hl,hm,hmm,_,hx⟩
 ·injection h0 with h0
  exact ⟨none,0,0,h0,by omega,fun _=>rfl,fun i hi=>by omega⟩
 ·injection h0 with h0
  have hmx:maxLen = 9223372036854775807:=rfl
  refine ⟨some a,len,cap,h0,by omega,(fun h=>by cases h),fun i hi=>?_⟩
  simp only [if_true] at hmm
  obtain ⟨cs,h1,h2⟩:=hx i (by omega)
  obtain ⟨_,hlen,hcell⟩:=World.cells?_some h1
  rw [hc] at hlen hcell
  have hc0:=hcell 0 hsz
  rw [List.getElem?_eq_getElem (by omega)] at hc0
  obtain ⟨b,off,spot⟩:=a
  have hadd:∀ (x y:Nat),((⟨b,off,spot⟩:Addr).add x).add y = (⟨b,off,spot⟩:Addr).add (x + y):=fun x y=>add_of_add _ _ _
  have hsp:spot = none:=by
   obtain ⟨cs0,g1,_⟩:=hx 0 (by omega)
   obtain ⟨_,glen,gcell⟩:=World.cells?_some g1
   rw [hc] at glen gcell
   have g0:=gcell 0 hsz
   rw [List.getElem?_eq_getElem (by omega)] at g0
   have:=World.cell?_spot g0
   simpa [hadd,Addr.add] using this
  subst hsp
  have hform:∀ x,(⟨b,off,none⟩:Addr).add x = ⟨b,off + x,none⟩:=fun x=>by
   unfold Addr.add
   by_cases hx0:x = 0 <;> simp [hx0]
  refine ⟨b,off,n',cs,_,rfl,?_,hlen,fun j hj=>?_,h2⟩
  ·have:=World.block_lt_of_cell? w _ hc0
   rw [hadd,hform] at this
   exact this
  ·have:=hcell j hj
   rw [hadd,hform] at this
   rw [← this,Nat.add_assoc]

theorem rd_int {t:TypeId} {n:Nat} {cs:List Value} {y:DataW H × List MemPlace} (ht:P.underlying t = some (.int .i64)) (h:DataW.trod enc P w base (fun _=>true) held n t cs = some y):∃ i:Int,cs = [.int .i64 i] ∧ -9223372036854775808 ≤ i ∧ i ≤ 9223372036854775807:=by
 obtain ⟨i,h1,_,h3⟩:=DataW.trod_int ht h
 refine ⟨i,h1,?_⟩
 simpa [Lit.wf,IntKind.min,IntKind.max,IntKind.signed,IntKind.bits] using h3

def I64 (x:Int):Prop:=-9223372036854775808 ≤ x ∧ x ≤ 9223372036854775807

theorem rd_ints {t e:TypeId} {n:Nat} {v:Value} {y:DataW H × List MemPlace} (ht:P.underlying t = some (.slice e)) (he:P.underlying e = some (.int .i64)) (hc:P.cellsOf e = 1) (h:DataW.trod enc P w base (fun _=>true) held n t [v] = some y) :
  ∃ A c,∃ l:List Int,v = .slice A l.length c ∧ Ints w A l ∧ l.length ≤ 9223372036854775807 ∧ (A = none → l = []) ∧ ∀ x ∈ l,I64 x:=by
 obtain ⟨A,len,cap,rfl,hl,hn,hx⟩:=rd_slice ht hc (by omega) h
 have key:∀ i,i < len → ∃ x:Int,(∃ b off,A = some ⟨b,off,none⟩ ∧ b < w.heap.size ∧ w.cell? ⟨b,off + i,none⟩ = some (.int .i64 x)) ∧ I64 x:=by
  intro i hi
  obtain ⟨b,off,m,cs,z,hA,hb,hlen,hcell,ht'⟩:=hx i hi
  obtain ⟨x,rfl,h1,h2⟩:=rd_int he ht'
  have:=hcell 0 (by omega)
  rw [Nat.mul_one,Nat.add_zero] at this
  exact ⟨x,⟨b,off,hA,hb,this⟩,h1,h2⟩
 obtain ⟨f,hf⟩:=choose_lt key
 have hlen:((List.range len).map f).length = len:=by simp
 refine ⟨A,cap,(List.range len).map f,by rw [hlen],fun k hk=>?_,by omega,fun hA=>by rw [hn hA];rfl,fun x hx'=>?_⟩
 ·rw [hlen] at hk
  obtain ⟨⟨b,off,h1,h2,h3⟩,_⟩:=hf k hk
  exact ⟨b,off,h1,h2,by rw [h3];simp [List.getD,hk]⟩
 ·obtain ⟨k,hk,rfl⟩:=List.mem_map.1 hx'
  exact (hf k (by simpa using hk)).2

/-- A world that only has more. -/
theorem since_of_ext {W W':World} (h:Ext W W'):W.Since W.heap.size W':=⟨h.os,h.tape,h.output,h.size,fun k hk=>h.block k hk⟩
/-- An argument reads as before in a world that only has more. -/
theorem stays {t:TypeId} (hl:laidOutB P = true) (hr:P.readableRec t = true) (hrow:t < P.types.size) {W W':World} {sp':Nat → Bool} {v:Value} {d:DataW H} {ps:List MemPlace}
  (h:DataW.Trod enc P W 0 (fun _=>true) true t v d ps) (hE:Ext W W') (hlt:∀ p ∈ ps,p.block < W.heap.size) (hs:∀ p ∈ ps,sp' p.block = true):DataW.Trod enc P W' 0 sp' true t v d ps :=
 WideElems.Trod_stays hl hr hrow h (fun p hp=>(since_of_ext hE).sameAt (hlt p hp)) hs
end
end Go.Proofs.Ytjfldbkjfaopbaa

namespace Go.Proofs.Ytjfldbkjfaopbaa
open Go.RowKit Go.ChangeShapes Go.WideShapes Go.Deep Go.ChangeAt

section
variable {H:Type} {enc:TypeId × Value → H} {P:Program}
theorem staysAll (hl:laidOutB P = true) {W W':World} (hE:Ext W W') {sp':Nat → Bool}:∀ {ts:List TypeId} {vs:List Value} {ds:List (DataW H)} {ps:List MemPlace},(∀ t ∈ ts,P.readableRec t = true ∧ t < P.types.size) →
  DataW.TrodAll enc P W 0 (fun _=>true) true ts vs ds ps → (∀ p ∈ ps,p.block < W.heap.size) → (∀ p ∈ ps,sp' p.block = true) → DataW.TrodAll enc P W' 0 sp' true ts vs ds ps:=by
 intro ts
 induction ts with
 | nil =>
  intro vs ds ps _ h _ _
  obtain ⟨rfl,rfl,rfl⟩:=trodAll_nil h
  exact trodAll_mk0
 | cons t ts ih =>
  intro vs ds ps ht h hlt hs
  obtain ⟨v,vs',d,ds',p,q,rfl,rfl,rfl,h0,hr⟩:=trodAll_cons h
  exact trodAll_cons_mk (stays hl (ht t List.mem_cons_self).1 (ht t List.mem_cons_self).2 h0 hE (fun x hx=>hlt x (List.mem_append_left _ hx)) (fun x hx=>hs x (List.mem_append_left _ hx)))
   (ih (fun t' h'=>ht t' (List.mem_cons_of_mem _ h')) hr (fun x hx=>hlt x (List.mem_append_right _ hx)) (fun x hx=>hs x (List.mem_append_right _ hx)))

theorem trodLen {w:World} {base:Nat} {spare:Nat → Bool} {held:Bool}:∀ {ts:List TypeId} {vs:List Value} {ds:List (DataW H)} {ps:List MemPlace},DataW.TrodAll enc P w base spare held ts vs ds ps → ds.length = ts.length:=by
 intro ts
 induction ts with
 | nil =>
  intro vs ds ps h
  obtain ⟨rfl,rfl,rfl⟩:=trodAll_nil h
  rfl
 | cons t ts ih =>
  intro vs ds ps h
  obtain ⟨v,vs',d,ds',p,q,rfl,rfl,rfl,h0,hr⟩:=trodAll_cons h
  simp [ih hr]

theorem law_post {f:Func} {s:ChangeSpec} {W W':World} {args:Array Value} {ds gs:List (DataW H)} {before:List MemPlace} {tb:TypeId} (hl:laidOutB P = true) (hts:∀ t ∈ f.params.toList,P.readableRec t = true ∧ t < P.types.size)
  (hv:s.vars = []) (hb:P.underlying tb = some .bool) (hrt:f.resultTypes = #[tb]) (hspec:∀ l:List (DataW H),l.length = f.params.toList.length → s.fn H (l ++ []) = { results:=[.lit (.bool true)],args:=l,vars:=[] })
  (hW:DataW.Whole enc P f.params.toList s.vars false W args.toList ds gs before) (hE:Ext W W'):s.post enc P f false true false false W args (.bool true) W':=by
 have hW':=hW
 obtain ⟨p,q,hA,hV,rfl,_,_⟩:=hW
 rw [hv] at hV
 obtain ⟨rfl,rfl⟩:=trodVars_none hV
 have hlt:∀ x ∈ p,x.block < W.heap.size:=fun x hx=>hW'.lt x (by simp [hx])
 have hlen:=trodLen hA
 have hs:=hspec ds hlen
 refine ⟨ds,[],_,[],p,[],hW',?_,?_,?_,(since_of_ext hE).frame _,fun h=>by cases h⟩
 ·rw [hs,hrt]
  exact trodAll_cons_mk (shut_bool hb _) trodAll_mk0
 ·rw [hs]
  exact staysAll hl hE hts hA hlt (fun x hx=>by simpa using hlt x hx)
 ·rw [hs,hv]
  rfl
end
end Go.Proofs.Ytjfldbkjfaopbaa
