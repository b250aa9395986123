/- Cover: the search for a watch, one slot further (printed by gen_cona.py). / Cover: Plan of the program (printed by gen_coo.py). / Cover: the laws' helpers: sameInts, Far, valid. / Cover: the example, works. / Cover: the reference's Copy, in memory of its own. / Cover: Pay, Cost, covers of the reference (printed by gen_cop.py). -/
import Derived.Test.YtbhjehpjjbbhbaaBc8
import Derived.Test.YtbhjehpjjbbhbaaBc6
set_option linter.unusedSimpArgs false
set_option linter.unusedVariables false
namespace Go.Proofs.Ytbhjehpjjbbhbaa
open Go.RowKit
theorem use0 (t:List Int) (g k:Nat):useTo t g 0 k = t.getD k 0:=if_neg (by omega)
theorem use_keep {t:List Int} {g i j:Nat} (h:j ≠ i):useTo t g i j = useTo t g (i + 1) j:=by
 unfold useTo
 by_cases h1:j < i ∧ g.testBit j = true
 ·rw [if_pos h1,if_pos ⟨by omega,h1.2⟩]
 ·rw [if_neg h1,if_neg (fun h2=>h1 ⟨by omega,h2.2⟩)]
theorem use_old {t:List Int} {g i:Nat}:useTo t g i i = t.getD i 0:=if_neg (by omega)
theorem use_yes {t:List Int} {g i:Nat} (h:g.testBit i = true):useTo t g i i - 1 = useTo t g (i + 1) i:=by
 rw [use_old];exact (if_pos ⟨by omega,h⟩).symm
theorem use_no {t:List Int} {g i:Nat} (h:g.testBit i = false):useTo t g i i = useTo t g (i + 1) i:=by
 rw [use_old];exact (if_neg (fun h2=>by rw [h] at h2;exact absurd h2.2 (by decide))).symm
theorem fits_of {n g:Nat} {t:List Int} (h:∀ i,i < n → g.testBit i = true → 1 ≤ t.getD i 0):fitsU n g t = true:=by
 unfold fitsU
 rw [List.all_eq_true]
 intro i hi
 have hi:=List.mem_range.1 hi
 cases hb:g.testBit i with
 | false=>rfl
 | true=>exact decide_eq_true (h i hi hb)
theorem fits_no {n g:Nat} {t:List Int} {i:Nat} (hi:i < n) (hb:g.testBit i = true) (h:t.getD i 0 - 1 < 0):fitsU n g t = false:=by
 cases hf:fitsU n g t with
 | false=>rfl
 | true =>
  have:=rall_get hf hi
  rw [hb] at this
  have:=of_decide_eq_true (show decide (1 ≤ t.getD i 0) = true from this)
  omega
section
variable {p:Pool} {F:List Int → List Int × Int} {t:List Int} {b:List Int × Int} {g:Nat}
theorem step_k0 (hf:fitsU p.folk.length g t = false):b = stepF p F t b g:=by unfold stepF;rw [hf];rfl
theorem step_k1 (hf:fitsU p.folk.length g t = true) (h:0 ≤ b.2 ∧ b.2 ≤ payT p g):b = stepF p F t b g:=by unfold stepF;rw [if_pos hf,if_pos h]
theorem step_k2 {fr:List Int × Int} (hf:fitsU p.folk.length g t = true) (e:F (useL p.folk.length g t) = fr) (h:¬ (0 ≤ b.2 ∧ b.2 ≤ payT p g)) (h2:¬ (0 ≤ fr.2 ∧ (b.2 < 0 ∨ payT p g + fr.2 < b.2))):b = stepF p F t b g:=by subst e;unfold stepF;rw [if_pos hf,if_neg h,if_neg h2]
theorem step_n {fr:List Int × Int} (hf:fitsU p.folk.length g t = true) (e:F (useL p.folk.length g t) = fr) (h:¬ (0 ≤ b.2 ∧ b.2 ≤ payT p g)) (h2:0 ≤ fr.2 ∧ (b.2 < 0 ∨ payT p g + fr.2 < b.2)):((g:Int) :: fr.1,payT p g + fr.2) = stepF p F t b g:=by subst e;unfold stepF;rw [if_pos hf,if_neg h,if_pos h2]
end
theorem app1 {g:Int} {l:List Int}:∀ k o,o < 1 → AI ((g :: l).getD k 0) = appc 1 (bslC (fun _=>ofL [AI 0]) [(0,AI g)]) (fun k _=>AI (l.getD k 0)) k o
 | 0,0,_=>rfl
 | k + 1,0,_=>by
  rw [appc,if_neg (by omega)];rfl
theorem LnB.best {σ:Nat → Nat → Prop} {Bp:Nat → Prop} {H:List AB} {b b':List Int × Int} (e:b = b'):LnB σ Bp H (.box 2 (ofL [outI b.1,AI b.2])) (.box 2 (ofL [outI b'.1,AI b'.2])):=by subst e;exact LnB.A
theorem LnB.bestN {σ:Nat → Nat → Prop} {Bp:Nat → Prop} {H:List AB} {c:Nat → AV} {b b':List Int × Int} (e:b = b') (h0:Ln σ Bp H (c 0) (outI b.1)) (h1:Ln σ Bp H (c 1) (AI b.2)):LnB σ Bp H (.box 2 c) (.box 2 (ofL [outI b'.1,AI b'.2])):=by subst e;exact LnB.boxN ⟨⟨True.intro,h0⟩,h1⟩
set_option maxHeartbeats 8000000
set_option maxRecDepth 100000
theorem from_step (f:PoF) (p:Pool) (h:PoolOk p) (r:Nat) (ih:FromOk f p r):FromOk f p (r + 1):=by
 intro s hs t L ht hL
 have s6:=h.s6
 have n8:=h.n8
 have hb:=ht.b
 have hI:∀ k,k < 8 → in64 (t.getD k 0):=fun k hk=>by have:=hb k hk;unfold in64;omega
 have hI8:in64 s:=by unfold in64;omega
 (refine fcall_of mixed Try.func47 rfl (by decide) (hs:={ ord:=[(3,[(0,[]),(1,[]),(2,[]),(3,[]),(4,[]),(5,[]),(6,[]),(7,[]),(8,[]),(9,[3,4,5]),(10,[]),(11,[])]),(22,[(0,[]),(1,[]),(2,[]),(3,[]),(4,[]),(6,[]),(7,[]),(8,[]),(9,[]),(5,[8]),(10,[]),(11,[])])] }) ?k (ac:=?ac) ?c (rs:=?rs) ?r ?l ?H;(case k=>kernel_rfl);(case c=>(conv=>(lhs;cbv)));(case r=>(conv=>(lhs;cbv)));(case l=>exact Nat.le_of_ble_eq_true rfl))
 (repeat' ((try conv=>whnf);first|(with_reducible first|refine wT ?_|refine wF ?_|(refine wI (fun hq=>?_) (fun hq=>?_) <;> try simp only [zA,zE,zD,zJ,zB,zI,wK,wL] at hq)|refine wA ?_|refine wB ?_|refine wC ?_|refine wD ?_|refine wE ?_)|((with_reducible refine wN ?_ ?_);focus exact needA)|(with_reducible refine wG ?_)|(refine Need.mk hI8 ?_)|(refine Need.mk (hI _ (by omega)) ?_)|(refine FLook.no hv ?_)|(refine FLook.yes hv ?_)|(refine FLook.good (s:=s) hL ht.len (fun hv=>?_) (fun hv=>?_))|(exact ⟨rfl⟩)|(refine Need.mk ?_ ?_)|(with_reducible refine wP ?_)))
 all_goals (try conv=>whnf)
 ·have hsr:p.needs.length - s = r + 1:=by omega
  exact ⟨⟨aFound (fromT p (p.needs.length - s) t),[.box 3 (cPlanner f p),.mp 9 L],[0,1],wO rfl rfl rfl (wV rfl LnB.A (wV rfl LnB.A wX)),Ln.A,L,hL,by rw [hsr],rfl⟩⟩
 ·have hF:=fromT_b h r
  have hG:=fun k=>foldF_b (t:=t) (l:=coversT p s) h hF k
  refine FLoop.of (ACalls.mono _) (X:=Nat × List (List Int × AV)) (fun x=>[(0,.ptr 0 0),(3,.ptr 2 0),(4,.ptr 3 0),(7,.ptr 4 0),(42,outU (coversT p s)),(43,AI (coversT p s).length),(44,AI x.1)]) (fun x=>[.box 3 (cPlanner f p),.mp 9 x.2,.box 9 (cKey s (fun k=>t.getD k 0)),.box 2 (ofL [.sl true true 0 0 fun _ _=>.bot,AI 0]),.box 2 (ofL [outI (foldF p (fromT p r) t (coversT p s) x.1).1,AI (foldF p (fromT p r) t (coversT p s) x.1).2])]) (fun x=>x.1 ≤ (coversT p s).length ∧ Good p x.2) (fun x=>(coversT p s).length - x.1) (0,L) ⟨⟨Nat.zero_le _,hL⟩,[0,1,2,3,5],wO rfl rfl rfl (wV rfl LnB.A (wV rfl LnB.A (wV rfl LnB.A (wV rfl LnB.A (wV rfl (LnB.boxN ⟨⟨True.intro,Ln.slz _ _ _ _ _ _ _ (fun _=>rfl)⟩,Ln.A⟩) wX))))),allA⟩ ?_
  intro x hx
  obtain ⟨k,L1⟩:=x
  obtain ⟨hk,hL1⟩:=hx
  simp only at hk hL1
  by_cases hlt:k < (coversT p s).length
  ·have hr:p.needs.length - (s + 1) = r:=by omega
   obtain ⟨hg1,hg2,hg3⟩:=covers_mem (p:=p) (s:=s) (getD_memN hlt)
   have hcl:=covers_len p s
   have hcl:(coversT p s).length ≤ 256:=Nat.le_trans hcl (Nat.pow_le_pow_right (by decide) n8)
   have hgb:(coversT p s).getD k 0 < 256:=Nat.lt_of_lt_of_le hg1 (Nat.pow_le_pow_right (by decide) n8)
   have hst:stepF p (fromT p r) t (foldF p (fromT p r) t (coversT p s) k) ((coversT p s).getD k 0) = foldF p (fromT p r) t (coversT p s) (k + 1):=by rw [foldF]
   have hgk:=hG k
   have gl:=hgk.lo
   have gh:=hgk.hi
   have pb:=pay_b h ((coversT p s).getD k 0)
   generalize hbk:foldF p (fromT p r) t (coversT p s) k = b at hst hgk gl gh ⊢
   (repeat' ((try conv=>whnf);first|(with_reducible first|refine wT ?_|refine wF ?_|(refine wI (fun hq=>?_) (fun hq=>?_) <;> try simp only [zA,zE,zD,zJ,zB,zI,wK,wL] at hq)|refine wA ?_|refine wB ?_|refine wC ?_|refine wD ?_|refine wE ?_)|((with_reducible refine wN ?_ ?_);focus exact needA)|(with_reducible refine wG ?_)|(with_reducible refine wP ?_)))
   all_goals (try conv=>whnf)
   refine FLoop.of (ACalls.mono _) (X:=Nat) (fun i=>[(0,.ptr 0 0),(3,.ptr 2 0),(4,.ptr 3 0),(7,.ptr 4 0),(9,AU ((coversT p s).getD k 0)),(10,.ptr 5 0),(42,outU (coversT p s)),(43,AI (coversT p s).length),(44,AI k),(62,AI p.folk.length),(63,AI i)]) (fun i=>[.box 3 (cPlanner f p),.mp 9 L1,.box 9 (cKey s (fun k=>t.getD k 0)),.box 2 (ofL [.sl true true 0 0 fun _ _=>.bot,AI 0]),.box 2 (ofL [outI b.1,AI b.2]),.box 9 (cKey (s + 1) (useTo t ((coversT p s).getD k 0) i))]) (fun i=>i ≤ p.folk.length ∧ ∀ j,j < i → ((coversT p s).getD k 0).testBit j = true → 1 ≤ t.getD j 0) (fun i=>p.folk.length - i) 0 ⟨⟨Nat.zero_le _,fun j hj=>absurd hj (Nat.not_lt_zero j)⟩,[0,1,2,3,4,5],wO rfl rfl rfl (wV rfl LnB.A (wV rfl LnB.A (wV rfl LnB.A (wV rfl LnB.A (wV rfl LnB.A (wV rfl (LnB.boxN ⟨⟨⟨⟨⟨⟨⟨⟨⟨True.intro,Ln.A⟩,Ln.int (use0 _ _ _).symm⟩,Ln.int (use0 _ _ _).symm⟩,Ln.int (use0 _ _ _).symm⟩,Ln.int (use0 _ _ _).symm⟩,Ln.int (use0 _ _ _).symm⟩,Ln.int (use0 _ _ _).symm⟩,Ln.int (use0 _ _ _).symm⟩,Ln.int (use0 _ _ _).symm⟩) wX)))))),allA⟩ ?_
   intro i hi
   obtain ⟨hi,hfi⟩:=hi
   by_cases hlt2:i < p.folk.length
   ·have hti:=hb i (by omega)
    have hnx:((coversT p s).getD k 0).testBit i = false ∨ 1 ≤ t.getD i 0 → ∀ j,j < i + 1 → ((coversT p s).getD k 0).testBit j = true → 1 ≤ t.getD j 0:=fun ho j hj hb=>by
     by_cases e:j = i
     ·subst e
      rcases ho with ho|ho
      ·rw [ho] at hb;cases hb
      ·exact ho
     ·exact hfi j (by omega) hb
    have hfn:=fits_no (t:=t) (g:=((coversT p s).getD k 0)) hlt2
    have hold:=use_old (t:=t) (g:=((coversT p s).getD k 0)) (i:=i)
    have hkeep:=fun j=>use_keep (t:=t) (g:=((coversT p s).getD k 0)) (i:=i) (j:=j)
    have hyes:=use_yes (t:=t) (g:=((coversT p s).getD k 0)) (i:=i)
    have hno:=use_no (t:=t) (g:=((coversT p s).getD k 0)) (i:=i)
    obtain h0|h0|h0|h0|h0|h0|h0|h0:i = 0 ∨ i = 1 ∨ i = 2 ∨ i = 3 ∨ i = 4 ∨ i = 5 ∨ i = 6 ∨ i = 7:=by omega
    ·subst h0
     (repeat' ((try conv=>whnf);first|(with_reducible first|refine wT ?_|refine wF ?_|(refine wI (fun hq=>?_) (fun hq=>?_) <;> try simp only [zA,zE,zD,zJ,zB,zI,wK,wL] at hq)|refine wA ?_|refine wB ?_|refine wC ?_|refine wD ?_|refine wE ?_)|((with_reducible refine wN ?_ ?_);focus exact needA)|(with_reducible refine wG ?_)|(refine FCall.pure ((phas_ok ((coversT p s).getD k 0) _ (by decide))) ⟨Ln.sameB _ rfl,Ln.sameB _ rfl,True.intro⟩ rfl ?_)|(with_reducible refine wP ?_)))
     all_goals (try conv=>whnf)
     ·exact ⟨⟨0 + 1,⟨hlt2,hnx (.inl (by assumption))⟩,by show _ < _;omega,[0,1,2,3,4,5],wO rfl rfl rfl (wV rfl LnB.A (wV rfl LnB.A (wV rfl LnB.A (wV rfl LnB.A (wV rfl LnB.A (wV rfl (LnB.boxN ⟨⟨⟨⟨⟨⟨⟨⟨⟨True.intro,Ln.A⟩,Ln.int (hno (by assumption))⟩,Ln.int (hkeep 1 (by decide))⟩,Ln.int (hkeep 2 (by decide))⟩,Ln.int (hkeep 3 (by decide))⟩,Ln.int (hkeep 4 (by decide))⟩,Ln.int (hkeep 5 (by decide))⟩,Ln.int (hkeep 6 (by decide))⟩,Ln.int (hkeep 7 (by decide))⟩) wX)))))),allA⟩⟩
     ·exact ⟨⟨(k + 1,L1),⟨hlt,hL1⟩,by show _ < _;omega,[0,1,2,3,4],wO rfl rfl rfl (wV rfl LnB.A (wV rfl LnB.A (wV rfl LnB.A (wV rfl LnB.A (wV rfl (LnB.best (Eq.trans (step_k0 (hfn (by assumption) (by omega))) hst)) wX))))),allA⟩⟩
     ·exact ⟨⟨0 + 1,⟨hlt2,hnx (.inr (by omega))⟩,by show _ < _;omega,[0,1,2,3,4,5],wO rfl rfl rfl (wV rfl LnB.A (wV rfl LnB.A (wV rfl LnB.A (wV rfl LnB.A (wV rfl LnB.A (wV rfl (LnB.boxN ⟨⟨⟨⟨⟨⟨⟨⟨⟨True.intro,Ln.A⟩,Ln.int (hyes (by assumption))⟩,Ln.int (hkeep 1 (by decide))⟩,Ln.int (hkeep 2 (by decide))⟩,Ln.int (hkeep 3 (by decide))⟩,Ln.int (hkeep 4 (by decide))⟩,Ln.int (hkeep 5 (by decide))⟩,Ln.int (hkeep 6 (by decide))⟩,Ln.int (hkeep 7 (by decide))⟩) wX)))))),allA⟩⟩
    ·subst h0
     (repeat' ((try conv=>whnf);first|(with_reducible first|refine wT ?_|refine wF ?_|(refine wI (fun hq=>?_) (fun hq=>?_) <;> try simp only [zA,zE,zD,zJ,zB,zI,wK,wL] at hq)|refine wA ?_|refine wB ?_|refine wC ?_|refine wD ?_|refine wE ?_)|((with_reducible refine wN ?_ ?_);focus exact needA)|(with_reducible refine wG ?_)|(refine FCall.pure ((phas_ok ((coversT p s).getD k 0) _ (by decide))) ⟨Ln.sameB _ rfl,Ln.sameB _ rfl,True.intro⟩ rfl ?_)|(with_reducible refine wP ?_)))
     all_goals (try conv=>whnf)
     ·exact ⟨⟨1 + 1,⟨hlt2,hnx (.inl (by assumption))⟩,by show _ < _;omega,[0,1,2,3,4,5],wO rfl rfl rfl (wV rfl LnB.A (wV rfl LnB.A (wV rfl LnB.A (wV rfl LnB.A (wV rfl LnB.A (wV rfl (LnB.boxN ⟨⟨⟨⟨⟨⟨⟨⟨⟨True.intro,Ln.A⟩,Ln.int (hkeep 0 (by decide))⟩,Ln.int (hno (by assumption))⟩,Ln.int (hkeep 2 (by decide))⟩,Ln.int (hkeep 3 (by decide))⟩,Ln.int (hkeep 4 (by decide))⟩,Ln.int (hkeep 5 (by decide))⟩,Ln.int (hkeep 6 (by decide))⟩,Ln.int (hkeep 7 (by decide))⟩) wX)))))),allA⟩⟩
     ·exact ⟨⟨(k + 1,L1),⟨hlt,hL1⟩,by show _ < _;omega,[0,1,2,3,4],wO rfl rfl rfl (wV rfl LnB.A (wV rfl LnB.A (wV rfl LnB.A (wV rfl LnB.A (wV rfl (LnB.best (Eq.trans (step_k0 (hfn (by assumption) (by omega))) hst)) wX))))),allA⟩⟩
     ·exact ⟨⟨1 + 1,⟨hlt2,hnx (.inr (by omega))⟩,by show _ < _;omega,[0,1,2,3,4,5],wO rfl rfl rfl (wV rfl LnB.A (wV rfl LnB.A (wV rfl LnB.A (wV rfl LnB.A (wV rfl LnB.A (wV rfl (LnB.boxN ⟨⟨⟨⟨⟨⟨⟨⟨⟨True.intro,Ln.A⟩,Ln.int (hkeep 0 (by decide))⟩,Ln.int (hyes (by assumption))⟩,Ln.int (hkeep 2 (by decide))⟩,Ln.int (hkeep 3 (by decide))⟩,Ln.int (hkeep 4 (by decide))⟩,Ln.int (hkeep 5 (by decide))⟩,Ln.int (hkeep 6 (by decide))⟩,Ln.int (hkeep 7 (by decide))⟩) wX)))))),allA⟩⟩
    ·subst h0
     (repeat' ((try conv=>whnf);first|(with_reducible first|refine wT ?_|refine wF ?_|(refine wI (fun hq=>?_) (fun hq=>?_) <;> try simp only [zA,zE,zD,zJ,zB,zI,wK,wL] at hq)|refine wA ?_|refine wB ?_|refine wC ?_|refine wD ?_|refine wE ?_)|((with_reducible refine wN ?_ ?_);focus exact needA)|(with_reducible refine wG ?_)|(refine FCall.pure ((phas_ok ((coversT p s).getD k 0) _ (by decide))) ⟨Ln.sameB _ rfl,Ln.sameB _ rfl,True.intro⟩ rfl ?_)|(with_reducible refine wP ?_)))
     all_goals (try conv=>whnf)
     ·exact ⟨⟨2 + 1,⟨hlt2,hnx (.inl (by assumption))⟩,by show _ < _;omega,[0,1,2,3,4,5],wO rfl rfl rfl (wV rfl LnB.A (wV rfl LnB.A (wV rfl LnB.A (wV rfl LnB.A (wV rfl LnB.A (wV rfl (LnB.boxN ⟨⟨⟨⟨⟨⟨⟨⟨⟨True.intro,Ln.A⟩,Ln.int (hkeep 0 (by decide))⟩,Ln.int (hkeep 1 (by decide))⟩,Ln.int (hno (by assumption))⟩,Ln.int (hkeep 3 (by decide))⟩,Ln.int (hkeep 4 (by decide))⟩,Ln.int (hkeep 5 (by decide))⟩,Ln.int (hkeep 6 (by decide))⟩,Ln.int (hkeep 7 (by decide))⟩) wX)))))),allA⟩⟩
     ·exact ⟨⟨(k + 1,L1),⟨hlt,hL1⟩,by show _ < _;omega,[0,1,2,3,4],wO rfl rfl rfl (wV rfl LnB.A (wV rfl LnB.A (wV rfl LnB.A (wV rfl LnB.A (wV rfl (LnB.best (Eq.trans (step_k0 (hfn (by assumption) (by omega))) hst)) wX))))),allA⟩⟩
     ·exact ⟨⟨2 + 1,⟨hlt2,hnx (.inr (by omega))⟩,by show _ < _;omega,[0,1,2,3,4,5],wO rfl rfl rfl (wV rfl LnB.A (wV rfl LnB.A (wV rfl LnB.A (wV rfl LnB.A (wV rfl LnB.A (wV rfl (LnB.boxN ⟨⟨⟨⟨⟨⟨⟨⟨⟨True.intro,Ln.A⟩,Ln.int (hkeep 0 (by decide))⟩,Ln.int (hkeep 1 (by decide))⟩,Ln.int (hyes (by assumption))⟩,Ln.int (hkeep 3 (by decide))⟩,Ln.int (hkeep 4 (by decide))⟩,Ln.int (hkeep 5 (by decide))⟩,Ln.int (hkeep 6 (by decide))⟩,Ln.int (hkeep 7 (by decide))⟩) wX)))))),allA⟩⟩
    ·subst h0
     (repeat' ((try conv=>whnf);first|(with_reducible first|refine wT ?_|refine wF ?_|(refine wI (fun hq=>?_) (fun hq=>?_) <;> try simp only [zA,zE,zD,zJ,zB,zI,wK,wL] at hq)|refine wA ?_|refine wB ?_|refine wC ?_|refine wD ?_|refine wE ?_)|((with_reducible refine wN ?_ ?_);focus exact needA)|(with_reducible refine wG ?_)|(refine FCall.pure ((phas_ok ((coversT p s).getD k 0) _ (by decide))) ⟨Ln.sameB _ rfl,Ln.sameB _ rfl,True.intro⟩ rfl ?_)|(with_reducible refine wP ?_)))
     all_goals (try conv=>whnf)
     ·exact ⟨⟨3 + 1,⟨hlt2,hnx (.inl (by assumption))⟩,by show _ < _;omega,[0,1,2,3,4,5],wO rfl rfl rfl (wV rfl LnB.A (wV rfl LnB.A (wV rfl LnB.A (wV rfl LnB.A (wV rfl LnB.A (wV rfl (LnB.boxN ⟨⟨⟨⟨⟨⟨⟨⟨⟨True.intro,Ln.A⟩,Ln.int (hkeep 0 (by decide))⟩,Ln.int (hkeep 1 (by decide))⟩,Ln.int (hkeep 2 (by decide))⟩,Ln.int (hno (by assumption))⟩,Ln.int (hkeep 4 (by decide))⟩,Ln.int (hkeep 5 (by decide))⟩,Ln.int (hkeep 6 (by decide))⟩,Ln.int (hkeep 7 (by decide))⟩) wX)))))),allA⟩⟩
     ·exact ⟨⟨(k + 1,L1),⟨hlt,hL1⟩,by show _ < _;omega,[0,1,2,3,4],wO rfl rfl rfl (wV rfl LnB.A (wV rfl LnB.A (wV rfl LnB.A (wV rfl LnB.A (wV rfl (LnB.best (Eq.trans (step_k0 (hfn (by assumption) (by omega))) hst)) wX))))),allA⟩⟩
     ·exact ⟨⟨3 + 1,⟨hlt2,hnx (.inr (by omega))⟩,by show _ < _;omega,[0,1,2,3,4,5],wO rfl rfl rfl (wV rfl LnB.A (wV rfl LnB.A (wV rfl LnB.A (wV rfl LnB.A (wV rfl LnB.A (wV rfl (LnB.boxN ⟨⟨⟨⟨⟨⟨⟨⟨⟨True.intro,Ln.A⟩,Ln.int (hkeep 0 (by decide))⟩,Ln.int (hkeep 1 (by decide))⟩,Ln.int (hkeep 2 (by decide))⟩,Ln.int (hyes (by assumption))⟩,Ln.int (hkeep 4 (by decide))⟩,Ln.int (hkeep 5 (by decide))⟩,Ln.int (hkeep 6 (by decide))⟩,Ln.int (hkeep 7 (by decide))⟩) wX)))))),allA⟩⟩
    ·subst h0
     (repeat' ((try conv=>whnf);first|(with_reducible first|refine wT ?_|refine wF ?_|(refine wI (fun hq=>?_) (fun hq=>?_) <;> try simp only [zA,zE,zD,zJ,zB,zI,wK,wL] at hq)|refine wA ?_|refine wB ?_|refine wC ?_|refine wD ?_|refine wE ?_)|((with_reducible refine wN ?_ ?_);focus exact needA)|(with_reducible refine wG ?_)|(refine FCall.pure ((phas_ok ((coversT p s).getD k 0) _ (by decide))) ⟨Ln.sameB _ rfl,Ln.sameB _ rfl,True.intro⟩ rfl ?_)|(with_reducible refine wP ?_)))
     all_goals (try conv=>whnf)
     ·exact ⟨⟨4 + 1,⟨hlt2,hnx (.inl (by assumption))⟩,by show _ < _;omega,[0,1,2,3,4,5],wO rfl rfl rfl (wV rfl LnB.A (wV rfl LnB.A (wV rfl LnB.A (wV rfl LnB.A (wV rfl LnB.A (wV rfl (LnB.boxN ⟨⟨⟨⟨⟨⟨⟨⟨⟨True.intro,Ln.A⟩,Ln.int (hkeep 0 (by decide))⟩,Ln.int (hkeep 1 (by decide))⟩,Ln.int (hkeep 2 (by decide))⟩,Ln.int (hkeep 3 (by decide))⟩,Ln.int (hno (by assumption))⟩,Ln.int (hkeep 5 (by decide))⟩,Ln.int (hkeep 6 (by decide))⟩,Ln.int (hkeep 7 (by decide))⟩) wX)))))),allA⟩⟩
     ·exact ⟨⟨(k + 1,L1),⟨hlt,hL1⟩,by show _ < _;omega,[0,1,2,3,4],wO rfl rfl rfl (wV rfl LnB.A (wV rfl LnB.A (wV rfl LnB.A (wV rfl LnB.A (wV rfl (LnB.best (Eq.trans (step_k0 (hfn (by assumption) (by omega))) hst)) wX))))),allA⟩⟩
     ·exact ⟨⟨4 + 1,⟨hlt2,hnx (.inr (by omega))⟩,by show _ < _;omega,[0,1,2,3,4,5],wO rfl rfl rfl (wV rfl LnB.A (wV rfl LnB.A (wV rfl LnB.A (wV rfl LnB.A (wV rfl LnB.A (wV rfl (LnB.boxN ⟨⟨⟨⟨⟨⟨⟨⟨⟨True.intro,Ln.A⟩,Ln.int (hkeep 0 (by decide))⟩,Ln.int (hkeep 1 (by decide))⟩,Ln.int (hkeep 2 (by decide))⟩,Ln.int (hkeep 3 (by decide))⟩,Ln.int (hyes (by assumption))⟩,Ln.int (hkeep 5 (by decide))⟩,Ln.int (hkeep 6 (by decide))⟩,Ln.int (hkeep 7 (by decide))⟩) wX)))))),allA⟩⟩
    ·subst h0
     (repeat' ((try conv=>whnf);first|(with_reducible first|refine wT ?_|refine wF ?_|(refine wI (fun hq=>?_) (fun hq=>?_) <;> try simp only [zA,zE,zD,zJ,zB,zI,wK,wL] at hq)|refine wA ?_|refine wB ?_|refine wC ?_|refine wD ?_|refine wE ?_)|((with_reducible refine wN ?_ ?_);focus exact needA)|(with_reducible refine wG ?_)|(refine FCall.pure ((phas_ok ((coversT p s).getD k 0) _ (by decide))) ⟨Ln.sameB _ rfl,Ln.sameB _ rfl,True.intro⟩ rfl ?_)|(with_reducible refine wP ?_)))
     all_goals (try conv=>whnf)
     ·exact ⟨⟨5 + 1,⟨hlt2,hnx (.inl (by assumption))⟩,by show _ < _;omega,[0,1,2,3,4,5],wO rfl rfl rfl (wV rfl LnB.A (wV rfl LnB.A (wV rfl LnB.A (wV rfl LnB.A (wV rfl LnB.A (wV rfl (LnB.boxN ⟨⟨⟨⟨⟨⟨⟨⟨⟨True.intro,Ln.A⟩,Ln.int (hkeep 0 (by decide))⟩,Ln.int (hkeep 1 (by decide))⟩,Ln.int (hkeep 2 (by decide))⟩,Ln.int (hkeep 3 (by decide))⟩,Ln.int (hkeep 4 (by decide))⟩,Ln.int (hno (by assumption))⟩,Ln.int (hkeep 6 (by decide))⟩,Ln.int (hkeep 7 (by decide))⟩) wX)))))),allA⟩⟩
     ·exact ⟨⟨(k + 1,L1),⟨hlt,hL1⟩,by show _ < _;omega,[0,1,2,3,4],wO rfl rfl rfl (wV rfl LnB.A (wV rfl LnB.A (wV rfl LnB.A (wV rfl LnB.A (wV rfl (LnB.best (Eq.trans (step_k0 (hfn (by assumption) (by omega))) hst)) wX))))),allA⟩⟩
     ·exact ⟨⟨5 + 1,⟨hlt2,hnx (.inr (by omega))⟩,by show _ < _;omega,[0,1,2,3,4,5],wO rfl rfl rfl (wV rfl LnB.A (wV rfl LnB.A (wV rfl LnB.A (wV rfl LnB.A (wV rfl LnB.A (wV rfl (LnB.boxN ⟨⟨⟨⟨⟨⟨⟨⟨⟨True.intro,Ln.A⟩,Ln.int (hkeep 0 (by decide))⟩,Ln.int (hkeep 1 (by decide))⟩,Ln.int (hkeep 2 (by decide))⟩,Ln.int (hkeep 3 (by decide))⟩,Ln.int (hkeep 4 (by decide))⟩,Ln.int (hyes (by assumption))⟩,Ln.int (hkeep 6 (by decide))⟩,Ln.int (hkeep 7 (by decide))⟩) wX)))))),allA⟩⟩
    ·subst h0
     (repeat' ((try conv=>whnf);first|(with_reducible first|refine wT ?_|refine wF ?_|(refine wI (fun hq=>?_) (fun hq=>?_) <;> try simp only [zA,zE,zD,zJ,zB,zI,wK,wL] at hq)|refine wA ?_|refine wB ?_|refine wC ?_|refine wD ?_|refine wE ?_)|((with_reducible refine wN ?_ ?_);focus exact needA)|(with_reducible refine wG ?_)|(refine FCall.pure ((phas_ok ((coversT p s).getD k 0) _ (by decide))) ⟨Ln.sameB _ rfl,Ln.sameB _ rfl,True.intro⟩ rfl ?_)|(with_reducible refine wP ?_)))
     all_goals (try conv=>whnf)
     ·exact ⟨⟨6 + 1,⟨hlt2,hnx (.inl (by assumption))⟩,by show _ < _;omega,[0,1,2,3,4,5],wO rfl rfl rfl (wV rfl LnB.A (wV rfl LnB.A (wV rfl LnB.A (wV rfl LnB.A (wV rfl LnB.A (wV rfl (LnB.boxN ⟨⟨⟨⟨⟨⟨⟨⟨⟨True.intro,Ln.A⟩,Ln.int (hkeep 0 (by decide))⟩,Ln.int (hkeep 1 (by decide))⟩,Ln.int (hkeep 2 (by decide))⟩,Ln.int (hkeep 3 (by decide))⟩,Ln.int (hkeep 4 (by decide))⟩,Ln.int (hkeep 5 (by decide))⟩,Ln.int (hno (by assumption))⟩,Ln.int (hkeep 7 (by decide))⟩) wX)))))),allA⟩⟩
     ·exact ⟨⟨(k + 1,L1),⟨hlt,hL1⟩,by show _ < _;omega,[0,1,2,3,4],wO rfl rfl rfl (wV rfl LnB.A (wV rfl LnB.A (wV rfl LnB.A (wV rfl LnB.A (wV rfl (LnB.best (Eq.trans (step_k0 (hfn (by assumption) (by omega))) hst)) wX))))),allA⟩⟩
     ·exact ⟨⟨6 + 1,⟨hlt2,hnx (.inr (by omega))⟩,by show _ < _;omega,[0,1,2,3,4,5],wO rfl rfl rfl (wV rfl LnB.A (wV rfl LnB.A (wV rfl LnB.A (wV rfl LnB.A (wV rfl LnB.A (wV rfl (LnB.boxN ⟨⟨⟨⟨⟨⟨⟨⟨⟨True.intro,Ln.A⟩,Ln.int (hkeep 0 (by decide))⟩,Ln.int (hkeep 1 (by decide))⟩,Ln.int (hkeep 2 (by decide))⟩,Ln.int (hkeep 3 (by decide))⟩,Ln.int (hkeep 4 (by decide))⟩,Ln.int (hkeep 5 (by decide))⟩,Ln.int (hyes (by assumption))⟩,Ln.int (hkeep 7 (by decide))⟩) wX)))))),allA⟩⟩
    ·subst h0
     (repeat' ((try conv=>whnf);first|(with_reducible first|refine wT ?_|refine wF ?_|(refine wI (fun hq=>?_) (fun hq=>?_) <;> try simp only [zA,zE,zD,zJ,zB,zI,wK,wL] at hq)|refine wA ?_|refine wB ?_|refine wC ?_|refine wD ?_|refine wE ?_)|((with_reducible refine wN ?_ ?_);focus exact needA)|(with_reducible refine wG ?_)|(refine FCall.pure ((phas_ok ((coversT p s).getD k 0) _ (by decide))) ⟨Ln.sameB _ rfl,Ln.sameB _ rfl,True.intro⟩ rfl ?_)|(with_reducible refine wP ?_)))
     all_goals (try conv=>whnf)
     ·exact ⟨⟨7 + 1,⟨hlt2,hnx (.inl (by assumption))⟩,by show _ < _;omega,[0,1,2,3,4,5],wO rfl rfl rfl (wV rfl LnB.A (wV rfl LnB.A (wV rfl LnB.A (wV rfl LnB.A (wV rfl LnB.A (wV rfl (LnB.boxN ⟨⟨⟨⟨⟨⟨⟨⟨⟨True.intro,Ln.A⟩,Ln.int (hkeep 0 (by decide))⟩,Ln.int (hkeep 1 (by decide))⟩,Ln.int (hkeep 2 (by decide))⟩,Ln.int (hkeep 3 (by decide))⟩,Ln.int (hkeep 4 (by decide))⟩,Ln.int (hkeep 5 (by decide))⟩,Ln.int (hkeep 6 (by decide))⟩,Ln.int (hno (by assumption))⟩) wX)))))),allA⟩⟩
     ·exact ⟨⟨(k + 1,L1),⟨hlt,hL1⟩,by show _ < _;omega,[0,1,2,3,4],wO rfl rfl rfl (wV rfl LnB.A (wV rfl LnB.A (wV rfl LnB.A (wV rfl LnB.A (wV rfl (LnB.best (Eq.trans (step_k0 (hfn (by assumption) (by omega))) hst)) wX))))),allA⟩⟩
     ·exact ⟨⟨7 + 1,⟨hlt2,hnx (.inr (by omega))⟩,by show _ < _;omega,[0,1,2,3,4,5],wO rfl rfl rfl (wV rfl LnB.A (wV rfl LnB.A (wV rfl LnB.A (wV rfl LnB.A (wV rfl LnB.A (wV rfl (LnB.boxN ⟨⟨⟨⟨⟨⟨⟨⟨⟨True.intro,Ln.A⟩,Ln.int (hkeep 0 (by decide))⟩,Ln.int (hkeep 1 (by decide))⟩,Ln.int (hkeep 2 (by decide))⟩,Ln.int (hkeep 3 (by decide))⟩,Ln.int (hkeep 4 (by decide))⟩,Ln.int (hkeep 5 (by decide))⟩,Ln.int (hkeep 6 (by decide))⟩,Ln.int (hyes (by assumption))⟩) wX)))))),allA⟩⟩
   ·obtain rfl:i = p.folk.length:=by omega
    have hfit:=fits_of hfi
    have hu:=hF (useL p.folk.length ((coversT p s).getD k 0) t)
    have ih':=ih (s + 1) (by omega) (useL p.folk.length ((coversT p s).getD k 0) t) L1 (useL_8 ht hfit) hL1
    generalize hfr:fromT p r (useL p.folk.length ((coversT p s).getD k 0) t) = fr at hu ih'
    obtain ⟨l,c⟩:=fr
    have ul:-1 ≤ c:=hu.lo
    have uh:c ≤ 8000 * r:=hu.hi
    have un:l.length ≤ r:=hu.len
    cases l
    all_goals
     (repeat' ((try conv=>whnf);first|(with_reducible first|refine wT ?_|refine wF ?_|(refine wI (fun hq=>?_) (fun hq=>?_) <;> try simp only [zA,zE,zD,zJ,zB,zI,wK,wL] at hq)|refine wA ?_|refine wB ?_|refine wC ?_|refine wD ?_|refine wE ?_)|((with_reducible refine wN ?_ ?_);focus exact needA)|(with_reducible refine wG ?_)|(refine FCall.pure ((cost_ok f p ((coversT p s).getD k 0) h)) ⟨Ln.sameB _ rfl,Ln.sameB _ rfl,True.intro⟩ rfl ?_)|((refine FCall.give [0,1] [] ih' rfl rfl ⟨⟨_,rfl,trivial,LnB.A⟩,⟨_,rfl,trivial,LnB.A⟩,True.intro⟩ ⟨Ln.A,Ln.aggN ⟨⟨⟨⟨⟨⟨⟨⟨⟨True.intro,Ln.int rfl⟩,Ln.int (useL_get (by decide)).symm⟩,Ln.int (useL_get (by decide)).symm⟩,Ln.int (useL_get (by decide)).symm⟩,Ln.int (useL_get (by decide)).symm⟩,Ln.int (useL_get (by decide)).symm⟩,Ln.int (useL_get (by decide)).symm⟩,Ln.int (useL_get (by decide)).symm⟩,Ln.int (useL_get (by decide)).symm⟩,True.intro⟩ ?_);rintro _ _ ⟨L2,hL2,rfl,rfl⟩;(refine ⟨by exact Nat.le_of_ble_eq_true rfl,.inl rfl,?_⟩))|(refine Need.mk ⟨.inl rfl,Nat.le_trans (m:=100) (by revert un;simp only [List.length_nil,List.length_cons];intro un;omega) (by decide),by revert un;simp only [List.length_nil,List.length_cons];intro un;omega⟩ ?_)|(with_reducible refine wP ?_)))
     all_goals (try conv=>whnf)
     all_goals first
      | exact ⟨⟨(k + 1,L1),⟨hlt,hL1⟩,by show _ < _;omega,[0,1,2,3,4],wO rfl rfl rfl (wV rfl LnB.A (wV rfl LnB.A (wV rfl LnB.A (wV rfl LnB.A (wV rfl (LnB.best (Eq.trans (step_k1 hfit (by omega)) hst)) wX))))),allA⟩⟩
      | exact ⟨⟨(k + 1,L2),⟨hlt,hL2⟩,by show _ < _;omega,[0,1,2,3,4],wO rfl rfl rfl (wV rfl LnB.A (wV rfl LnB.A (wV rfl LnB.A (wV rfl LnB.A (wV rfl (LnB.best (Eq.trans (step_k2 hfit hfr (by omega) (by simp only;omega)) hst)) wX))))),allA⟩⟩
      | skip
    iterate 2
     exact ⟨⟨(k + 1,L2),⟨hlt,hL2⟩,by show _ < _;omega,[0,1,2,3,4],wO rfl rfl rfl (wV rfl LnB.A (wV rfl LnB.A (wV rfl LnB.A (wV rfl LnB.A (wV rfl (LnB.bestN (Eq.trans (step_n hfit hfr (by omega) (by simp only;omega)) hst) (Ln.le _ _ (show True from trivial) (LeV.sl (fun h=>by cases h) (fun k hk o ho=>LeV.of (by obtain rfl:k = 0:=(by omega);obtain rfl:o = 0:=(by omega);rfl)))) Ln.A) wX))))),allA⟩⟩
    iterate 2
     exact ⟨⟨(k + 1,L2),⟨hlt,hL2⟩,by show _ < _;omega,[0,1,2,3,4],wO rfl rfl rfl (wV rfl LnB.A (wV rfl LnB.A (wV rfl LnB.A (wV rfl LnB.A (wV rfl (LnB.bestN (Eq.trans (step_n hfit hfr (by omega) (by simp only;omega)) hst) (Ln.pubE (goneB rfl) rfl (Nat.le_refl _) (by simp only [List.length_cons];omega) (fun k hk o ho=>app1 k o ho)) Ln.A) wX))))),allA⟩⟩
  ·obtain rfl:k = (coversT p s).length:=by omega
   (repeat' ((try conv=>whnf);first|(with_reducible first|refine wT ?_|refine wF ?_|(refine wI (fun hq=>?_) (fun hq=>?_) <;> try simp only [zA,zE,zD,zJ,zB,zI,wK,wL] at hq)|refine wA ?_|refine wB ?_|refine wC ?_|refine wD ?_|refine wE ?_)|((with_reducible refine wN ?_ ?_);focus exact needA)|(with_reducible refine wG ?_)|(refine Need.mk hI8 ?_)|(refine Need.mk (hI _ (by omega)) ?_)|(with_reducible refine wP ?_)))
   all_goals (try conv=>whnf)
   have hfin:foldF p (fromT p r) t (coversT p s) (coversT p s).length = fromT p (r + 1) t:=by rw [fromT,show p.needs.length - (r + 1) = s by omega]
   refine ⟨⟨aFound (foldF p (fromT p r) t (coversT p s) (coversT p s).length),[.box 3 (cPlanner f p),.mp 9 _],[0,1],wO rfl rfl rfl (wV rfl LnB.A (wV rfl LnB.A wX)),Ln.A,_,good_put ⟨s,t,by omega,ht.len,rfl,?_⟩ hL1,by rw [hfin],rfl⟩⟩
   rw [show p.needs.length - s = r + 1 by omega,← hfin]
end Go.Proofs.Ytbhjehpjjbbhbaa

namespace Go.Proofs.Ytbhjehpjjbbhbaa
open Go.RowKit
theorem from_all (f:PoF) (p:Pool) (h:PoolOk p):∀ r,FromOk f p r
 | 0=>from_zero f p h
 | r + 1=>from_step f p h r (from_all f p h r)
def leftTo (p:Pool) (i k:Nat):Int:=if k < i then p.most else 0
def leftL (p:Pool):List Int:=(List.range 8).map fun k=>leftTo p p.folk.length k
theorem leftL_get {p:Pool} {k:Nat} (h:k < 8):(leftL p).getD k 0 = leftTo p p.folk.length k:=by
 unfold leftL
 simp [List.getD,h]
theorem leftL_8 {p:Pool} (h:PoolOk p):T8 (leftL p):=by
 refine ⟨by simp [leftL],fun k hk=>?_⟩
 rw [leftL_get hk]
 have:=h.most
 unfold leftTo
 split <;> omega
def planE (p:Pool):List Int × Int × Int:=if p.ok then (if (fromT p p.needs.length (leftL p)).2 < 0 then ([],0,3) else ((fromT p p.needs.length (leftL p)).1,(fromT p p.needs.length (leftL p)).2,0)) else ([],0,100)
theorem left_keep {p:Pool} {i j:Nat} (h:j ≠ i):leftTo p i j = leftTo p (i + 1) j:=by
 unfold leftTo
 by_cases h1:j < i
 ·rw [if_pos h1,if_pos (by omega)]
 ·rw [if_neg h1,if_neg (by omega)]
theorem left_new {p:Pool} {i:Nat}:p.most = leftTo p (i + 1) i:=(if_pos (by omega)).symm
theorem grow_row {p:Pool} {n k o:Nat} (hk:k < n + 1 + 1) (ho:o < 1):outU (coversT p k) = appc (n + 1) (fun s _=>outU (coversT p s)) (bslC (fun _=>ofL [.sl true true 0 0 fun _ _=>.bot]) [(0,outU (coversT p (n + 1)))]) k o:=by
 obtain rfl:o = 0:=by omega
 by_cases h:k < n + 1
 ·rw [appc,if_pos h]
 ·obtain rfl:k = n + 1:=by omega
  rw [appc,if_neg h,Nat.sub_self];rfl
def gBlk (f:PoF) (p:Pool):Nat → List AB
 | 0=>[.mp 9 [],.box 3 (ofL [iOpen f p,.sl true true 0 0 fun _ _=>.bot,.mpv 0]),.box 9 (cKey 0 (leftTo p p.folk.length))]
 | k + 1=>[.mp 9 [],.box 3 (ofL [iOpen f p,.own 3 (k + 1),.mpv 0]),.box 9 (cKey 0 (leftTo p p.folk.length)),.row (k + 1) 1 (fun s _=>outU (coversT p s))]
set_option maxHeartbeats 8000000
set_option maxRecDepth 100000
theorem plan_y (f:PoF) (p:Pool) (hn:NearP p) (hk:p.ok = true):ACall Try.prog 16 [aPool f p] [] (fun r h=>r = .tup 3 (ofL [outI (planE p).1,AI (planE p).2.1,AI (planE p).2.2]) ∧ h = []):=by
 have cO:=open_y f p hn (check_0.2 hk)
 have h:=pool_d hk
 have s6:=h.s6
 have n8:=h.n8
 have hm:=h.most
 have cF:=from_all f p h p.needs.length 0 (by omega) (leftL p) [] (leftL_8 h) (good_nil p)
 have hE:planE p = if (fromT p p.needs.length (leftL p)).2 < 0 then ([],0,3) else ((fromT p p.needs.length (leftL p)).1,(fromT p p.needs.length (leftL p)).2,0):=by unfold planE;rw [if_pos hk]
 generalize hfr:fromT p p.needs.length (leftL p) = fr at hE cF
 rw [hE]
 clear hE
 (refine fcall_of mixed Try.func16 rfl (by decide) (hs:={ pub:=[16],ord:=[(14,[(0,[]),(1,[]),(2,[]),(3,[]),(4,[]),(5,[]),(6,[]),(7,[4]),(8,[4]),(9,[]),(10,[]),(11,[]),(12,[])])] }) ?k (ac:=?ac) ?c (rs:=?rs) ?r ?l ?H;(case k=>kernel_rfl);(case c=>(conv=>(lhs;cbv)));(case r=>(conv=>(lhs;cbv)));(case l=>exact Nat.le_of_ble_eq_true rfl))
 (repeat' ((try conv=>whnf);first|(with_reducible first|refine wT ?_|refine wF ?_|(refine wI (fun hq=>?_) (fun hq=>?_) <;> try simp only [zA,zE,zD,zJ,zB,zI,wK,wL] at hq)|refine wA ?_|refine wB ?_|refine wC ?_|refine wD ?_|refine wE ?_)|((with_reducible refine wN ?_ ?_);focus exact needA)|(with_reducible refine wG ?_)|(refine FCall.pure (cO) ⟨Ln.sameB _ rfl,True.intro⟩ rfl ?_)|(with_reducible refine wP ?_)))
 all_goals (try conv=>whnf)
 refine FLoop.of (ACalls.mono _) (X:=Nat) (fun i=>[(1,.ptr 0 0),(5,iOpen f p),(6,.ptr 2 0),(7,.ptr 3 0),(25,AI p.folk.length),(26,AI i)]) (fun i=>[.box 4 (cPool f p),.mp 9 [],.box 3 (ofL [iOpen f p,.sl true true 0 0 fun _ _=>.bot,.mpv 1]),.box 9 (cKey 0 (leftTo p i))]) (fun i=>i ≤ p.folk.length) (fun i=>p.folk.length - i) 0 ⟨Nat.zero_le _,[0,1,2,3],wO rfl rfl rfl (wV rfl LnB.A (wV rfl LnB.A (wV rfl (LnB.boxN ⟨⟨⟨True.intro,Ln.A⟩,Ln.slz _ _ _ _ _ _ _ (fun _=>rfl)⟩,Ln.mpv _ _ rfl⟩) (wV rfl (LnB.boxN ⟨⟨⟨⟨⟨⟨⟨⟨⟨True.intro,Ln.A⟩,Ln.int (if_neg (Nat.not_lt_zero _)).symm⟩,Ln.int (if_neg (Nat.not_lt_zero _)).symm⟩,Ln.int (if_neg (Nat.not_lt_zero _)).symm⟩,Ln.int (if_neg (Nat.not_lt_zero _)).symm⟩,Ln.int (if_neg (Nat.not_lt_zero _)).symm⟩,Ln.int (if_neg (Nat.not_lt_zero _)).symm⟩,Ln.int (if_neg (Nat.not_lt_zero _)).symm⟩,Ln.int (if_neg (Nat.not_lt_zero _)).symm⟩) wX)))),allA⟩ ?_
 intro i hi
 by_cases hlt:i < p.folk.length
 ·have hkeep:=fun j=>left_keep (p:=p) (i:=i) (j:=j)
  have hnew:=left_new (p:=p) (i:=i)
  obtain h0|h0|h0|h0|h0|h0|h0|h0:i = 0 ∨ i = 1 ∨ i = 2 ∨ i = 3 ∨ i = 4 ∨ i = 5 ∨ i = 6 ∨ i = 7:=by omega
  ·subst h0
   (repeat' ((try conv=>whnf);first|(with_reducible first|refine wT ?_|refine wF ?_|(refine wI (fun hq=>?_) (fun hq=>?_) <;> try simp only [zA,zE,zD,zJ,zB,zI,wK,wL] at hq)|refine wA ?_|refine wB ?_|refine wC ?_|refine wD ?_|refine wE ?_)|((with_reducible refine wN ?_ ?_);focus exact needA)|(with_reducible refine wG ?_)|(with_reducible refine wP ?_)))
   all_goals (try conv=>whnf)
   exact ⟨⟨0 + 1,hlt,by show _ < _;omega,[0,1,2,3],wO rfl rfl rfl (wV rfl LnB.A (wV rfl LnB.A (wV rfl (LnB.boxN ⟨⟨⟨True.intro,Ln.A⟩,Ln.slz _ _ _ _ _ _ _ (fun _=>rfl)⟩,Ln.mpv _ _ rfl⟩) (wV rfl (LnB.boxN ⟨⟨⟨⟨⟨⟨⟨⟨⟨True.intro,Ln.A⟩,Ln.int (hnew)⟩,Ln.int (hkeep 1 (by decide))⟩,Ln.int (hkeep 2 (by decide))⟩,Ln.int (hkeep 3 (by decide))⟩,Ln.int (hkeep 4 (by decide))⟩,Ln.int (hkeep 5 (by decide))⟩,Ln.int (hkeep 6 (by decide))⟩,Ln.int (hkeep 7 (by decide))⟩) wX)))),allA⟩⟩
  ·subst h0
   (repeat' ((try conv=>whnf);first|(with_reducible first|refine wT ?_|refine wF ?_|(refine wI (fun hq=>?_) (fun hq=>?_) <;> try simp only [zA,zE,zD,zJ,zB,zI,wK,wL] at hq)|refine wA ?_|refine wB ?_|refine wC ?_|refine wD ?_|refine wE ?_)|((with_reducible refine wN ?_ ?_);focus exact needA)|(with_reducible refine wG ?_)|(with_reducible refine wP ?_)))
   all_goals (try conv=>whnf)
   exact ⟨⟨1 + 1,hlt,by show _ < _;omega,[0,1,2,3],wO rfl rfl rfl (wV rfl LnB.A (wV rfl LnB.A (wV rfl (LnB.boxN ⟨⟨⟨True.intro,Ln.A⟩,Ln.slz _ _ _ _ _ _ _ (fun _=>rfl)⟩,Ln.mpv _ _ rfl⟩) (wV rfl (LnB.boxN ⟨⟨⟨⟨⟨⟨⟨⟨⟨True.intro,Ln.A⟩,Ln.int (hkeep 0 (by decide))⟩,Ln.int (hnew)⟩,Ln.int (hkeep 2 (by decide))⟩,Ln.int (hkeep 3 (by decide))⟩,Ln.int (hkeep 4 (by decide))⟩,Ln.int (hkeep 5 (by decide))⟩,Ln.int (hkeep 6 (by decide))⟩,Ln.int (hkeep 7 (by decide))⟩) wX)))),allA⟩⟩
  ·subst h0
   (repeat' ((try conv=>whnf);first|(with_reducible first|refine wT ?_|refine wF ?_|(refine wI (fun hq=>?_) (fun hq=>?_) <;> try simp only [zA,zE,zD,zJ,zB,zI,wK,wL] at hq)|refine wA ?_|refine wB ?_|refine wC ?_|refine wD ?_|refine wE ?_)|((with_reducible refine wN ?_ ?_);focus exact needA)|(with_reducible refine wG ?_)|(with_reducible refine wP ?_)))
   all_goals (try conv=>whnf)
   exact ⟨⟨2 + 1,hlt,by show _ < _;omega,[0,1,2,3],wO rfl rfl rfl (wV rfl LnB.A (wV rfl LnB.A (wV rfl (LnB.boxN ⟨⟨⟨True.intro,Ln.A⟩,Ln.slz _ _ _ _ _ _ _ (fun _=>rfl)⟩,Ln.mpv _ _ rfl⟩) (wV rfl (LnB.boxN ⟨⟨⟨⟨⟨⟨⟨⟨⟨True.intro,Ln.A⟩,Ln.int (hkeep 0 (by decide))⟩,Ln.int (hkeep 1 (by decide))⟩,Ln.int (hnew)⟩,Ln.int (hkeep 3 (by decide))⟩,Ln.int (hkeep 4 (by decide))⟩,Ln.int (hkeep 5 (by decide))⟩,Ln.int (hkeep 6 (by decide))⟩,Ln.int (hkeep 7 (by decide))⟩) wX)))),allA⟩⟩
  ·subst h0
   (repeat' ((try conv=>whnf);first|(with_reducible first|refine wT ?_|refine wF ?_|(refine wI (fun hq=>?_) (fun hq=>?_) <;> try simp only [zA,zE,zD,zJ,zB,zI,wK,wL] at hq)|refine wA ?_|refine wB ?_|refine wC ?_|refine wD ?_|refine wE ?_)|((with_reducible refine wN ?_ ?_);focus exact needA)|(with_reducible refine wG ?_)|(with_reducible refine wP ?_)))
   all_goals (try conv=>whnf)
   exact ⟨⟨3 + 1,hlt,by show _ < _;omega,[0,1,2,3],wO rfl rfl rfl (wV rfl LnB.A (wV rfl LnB.A (wV rfl (LnB.boxN ⟨⟨⟨True.intro,Ln.A⟩,Ln.slz _ _ _ _ _ _ _ (fun _=>rfl)⟩,Ln.mpv _ _ rfl⟩) (wV rfl (LnB.boxN ⟨⟨⟨⟨⟨⟨⟨⟨⟨True.intro,Ln.A⟩,Ln.int (hkeep 0 (by decide))⟩,Ln.int (hkeep 1 (by decide))⟩,Ln.int (hkeep 2 (by decide))⟩,Ln.int (hnew)⟩,Ln.int (hkeep 4 (by decide))⟩,Ln.int (hkeep 5 (by decide))⟩,Ln.int (hkeep 6 (by decide))⟩,Ln.int (hkeep 7 (by decide))⟩) wX)))),allA⟩⟩
  ·subst h0
   (repeat' ((try conv=>whnf);first|(with_reducible first|refine wT ?_|refine wF ?_|(refine wI (fun hq=>?_) (fun hq=>?_) <;> try simp only [zA,zE,zD,zJ,zB,zI,wK,wL] at hq)|refine wA ?_|refine wB ?_|refine wC ?_|refine wD ?_|refine wE ?_)|((with_reducible refine wN ?_ ?_);focus exact needA)|(with_reducible refine wG ?_)|(with_reducible refine wP ?_)))
   all_goals (try conv=>whnf)
   exact ⟨⟨4 + 1,hlt,by show _ < _;omega,[0,1,2,3],wO rfl rfl rfl (wV rfl LnB.A (wV rfl LnB.A (wV rfl (LnB.boxN ⟨⟨⟨True.intro,Ln.A⟩,Ln.slz _ _ _ _ _ _ _ (fun _=>rfl)⟩,Ln.mpv _ _ rfl⟩) (wV rfl (LnB.boxN ⟨⟨⟨⟨⟨⟨⟨⟨⟨True.intro,Ln.A⟩,Ln.int (hkeep 0 (by decide))⟩,Ln.int (hkeep 1 (by decide))⟩,Ln.int (hkeep 2 (by decide))⟩,Ln.int (hkeep 3 (by decide))⟩,Ln.int (hnew)⟩,Ln.int (hkeep 5 (by decide))⟩,Ln.int (hkeep 6 (by decide))⟩,Ln.int (hkeep 7 (by decide))⟩) wX)))),allA⟩⟩
  ·subst h0
   (repeat' ((try conv=>whnf);first|(with_reducible first|refine wT ?_|refine wF ?_|(refine wI (fun hq=>?_) (fun hq=>?_) <;> try simp only [zA,zE,zD,zJ,zB,zI,wK,wL] at hq)|refine wA ?_|refine wB ?_|refine wC ?_|refine wD ?_|refine wE ?_)|((with_reducible refine wN ?_ ?_);focus exact needA)|(with_reducible refine wG ?_)|(with_reducible refine wP ?_)))
   all_goals (try conv=>whnf)
   exact ⟨⟨5 + 1,hlt,by show _ < _;omega,[0,1,2,3],wO rfl rfl rfl (wV rfl LnB.A (wV rfl LnB.A (wV rfl (LnB.boxN ⟨⟨⟨True.intro,Ln.A⟩,Ln.slz _ _ _ _ _ _ _ (fun _=>rfl)⟩,Ln.mpv _ _ rfl⟩) (wV rfl (LnB.boxN ⟨⟨⟨⟨⟨⟨⟨⟨⟨True.intro,Ln.A⟩,Ln.int (hkeep 0 (by decide))⟩,Ln.int (hkeep 1 (by decide))⟩,Ln.int (hkeep 2 (by decide))⟩,Ln.int (hkeep 3 (by decide))⟩,Ln.int (hkeep 4 (by decide))⟩,Ln.int (hnew)⟩,Ln.int (hkeep 6 (by decide))⟩,Ln.int (hkeep 7 (by decide))⟩) wX)))),allA⟩⟩
  ·subst h0
   (repeat' ((try conv=>whnf);first|(with_reducible first|refine wT ?_|refine wF ?_|(refine wI (fun hq=>?_) (fun hq=>?_) <;> try simp only [zA,zE,zD,zJ,zB,zI,wK,wL] at hq)|refine wA ?_|refine wB ?_|refine wC ?_|refine wD ?_|refine wE ?_)|((with_reducible refine wN ?_ ?_);focus exact needA)|(with_reducible refine wG ?_)|(with_reducible refine wP ?_)))
   all_goals (try conv=>whnf)
   exact ⟨⟨6 + 1,hlt,by show _ < _;omega,[0,1,2,3],wO rfl rfl rfl (wV rfl LnB.A (wV rfl LnB.A (wV rfl (LnB.boxN ⟨⟨⟨True.intro,Ln.A⟩,Ln.slz _ _ _ _ _ _ _ (fun _=>rfl)⟩,Ln.mpv _ _ rfl⟩) (wV rfl (LnB.boxN ⟨⟨⟨⟨⟨⟨⟨⟨⟨True.intro,Ln.A⟩,Ln.int (hkeep 0 (by decide))⟩,Ln.int (hkeep 1 (by decide))⟩,Ln.int (hkeep 2 (by decide))⟩,Ln.int (hkeep 3 (by decide))⟩,Ln.int (hkeep 4 (by decide))⟩,Ln.int (hkeep 5 (by decide))⟩,Ln.int (hnew)⟩,Ln.int (hkeep 7 (by decide))⟩) wX)))),allA⟩⟩
  ·subst h0
   (repeat' ((try conv=>whnf);first|(with_reducible first|refine wT ?_|refine wF ?_|(refine wI (fun hq=>?_) (fun hq=>?_) <;> try simp only [zA,zE,zD,zJ,zB,zI,wK,wL] at hq)|refine wA ?_|refine wB ?_|refine wC ?_|refine wD ?_|refine wE ?_)|((with_reducible refine wN ?_ ?_);focus exact needA)|(with_reducible refine wG ?_)|(with_reducible refine wP ?_)))
   all_goals (try conv=>whnf)
   exact ⟨⟨7 + 1,hlt,by show _ < _;omega,[0,1,2,3],wO rfl rfl rfl (wV rfl LnB.A (wV rfl LnB.A (wV rfl (LnB.boxN ⟨⟨⟨True.intro,Ln.A⟩,Ln.slz _ _ _ _ _ _ _ (fun _=>rfl)⟩,Ln.mpv _ _ rfl⟩) (wV rfl (LnB.boxN ⟨⟨⟨⟨⟨⟨⟨⟨⟨True.intro,Ln.A⟩,Ln.int (hkeep 0 (by decide))⟩,Ln.int (hkeep 1 (by decide))⟩,Ln.int (hkeep 2 (by decide))⟩,Ln.int (hkeep 3 (by decide))⟩,Ln.int (hkeep 4 (by decide))⟩,Ln.int (hkeep 5 (by decide))⟩,Ln.int (hkeep 6 (by decide))⟩,Ln.int (hnew)⟩) wX)))),allA⟩⟩
 ·obtain rfl:i = p.folk.length:=by omega
  (repeat' ((try conv=>whnf);first|(with_reducible first|refine wT ?_|refine wF ?_|(refine wI (fun hq=>?_) (fun hq=>?_) <;> try simp only [zA,zE,zD,zJ,zB,zI,wK,wL] at hq)|refine wA ?_|refine wB ?_|refine wC ?_|refine wD ?_|refine wE ?_)|((with_reducible refine wN ?_ ?_);focus exact needA)|(with_reducible refine wG ?_)|(with_reducible refine wP ?_)))
  all_goals (try conv=>whnf)
  refine FLoop.of (ACalls.mono _) (X:=Nat) (fun s=>[(5,iOpen f p),(6,.ptr 1 0),(7,.ptr 2 0),(37,AI p.needs.length),(38,AI s)]) (gBlk f p) (fun s=>s ≤ p.needs.length) (fun s=>p.needs.length - s) 0 ⟨Nat.zero_le _,[1,2,3],wO rfl rfl rfl (wV rfl LnB.A (wV rfl (LnB.boxN ⟨⟨⟨True.intro,Ln.A⟩,Ln.slz _ _ _ _ _ _ _ (fun _=>rfl)⟩,Ln.mpv _ _ rfl⟩) (wV rfl LnB.A wX))),allA⟩ ?_
  intro s hs
  by_cases hlt:s < p.needs.length
  ·have cS:=slot_ok f p s hlt h
   cases s
   all_goals
    (repeat' ((try conv=>whnf);first|(with_reducible first|refine wT ?_|refine wF ?_|(refine wI (fun hq=>?_) (fun hq=>?_) <;> try simp only [zA,zE,zD,zJ,zB,zI,wK,wL] at hq)|refine wA ?_|refine wB ?_|refine wC ?_|refine wD ?_|refine wE ?_)|((with_reducible refine wN ?_ ?_);focus exact needA)|(with_reducible refine wG ?_)|(refine FCall.pure (cS) ⟨Ln.sameB _ rfl,Ln.sameB _ rfl,True.intro⟩ rfl ?_)|(with_reducible refine wP ?_)))
    all_goals (try conv=>whnf)
   ·exact ⟨⟨0 + 1,hlt,by show _ < _;omega,[0,1,2,3],wO rfl rfl rfl (wV rfl LnB.A (wV rfl (LnB.boxN ⟨⟨⟨True.intro,Ln.A⟩,Ln.own _ _ _ rfl⟩,Ln.mpv _ _ rfl⟩) (wV rfl LnB.A (wV rfl (LnB.rowE (Nat.le_refl _) (fun k hk o ho=>by obtain rfl:k = 0:=Nat.lt_one_iff.1 hk;obtain rfl:o = 0:=Nat.lt_one_iff.1 ho;rfl)) wX)))),allA⟩⟩
   ·rename_i n
    exact ⟨⟨n + 1 + 1,hlt,by show _ < _;omega,[0,1,2,4],wO rfl rfl rfl (wV rfl LnB.A (wV rfl (LnB.boxN ⟨⟨⟨True.intro,Ln.A⟩,Ln.own _ _ _ rfl⟩,Ln.mpv _ _ rfl⟩) (wV rfl LnB.A (wV rfl (LnB.rowE (Nat.le_refl _) (fun k hk o ho=>grow_row hk ho)) wX)))),allA⟩⟩
  ·obtain rfl:s = p.needs.length:=by omega
   obtain ⟨m,hm⟩:∃ m,p.needs.length = m + 1:=⟨p.needs.length - 1,by have:=h.s1;omega⟩
   have hbl:gBlk f p p.needs.length = [.mp 9 [],.box 3 (ofL [iOpen f p,.own 3 p.needs.length,.mpv 0]),.box 9 (cKey 0 (leftTo p p.folk.length)),.row p.needs.length 1 (fun s _=>outU (coversT p s))]:=by rw [hm];rfl
   rw [hbl]
   (repeat' ((try conv=>whnf);first|(with_reducible first|refine wT ?_|refine wF ?_|(refine wI (fun hq=>?_) (fun hq=>?_) <;> try simp only [zA,zE,zD,zJ,zB,zI,wK,wL] at hq)|refine wA ?_|refine wB ?_|refine wC ?_|refine wD ?_|refine wE ?_)|((with_reducible refine wN ?_ ?_);focus exact needA)|(with_reducible refine wG ?_)|(with_reducible refine wP ?_)))
   all_goals (try conv=>whnf)
   refine FWk.of [(6,.ptr 0 0),(7,.ptr 2 0)] [.box 3 (cPlanner f p),.mp 9 [],.box 9 (cKey 0 (leftTo p p.folk.length))] [1,0,2] (wO rfl rfl rfl (wV rfl (LnB.boxN ⟨⟨⟨True.intro,Ln.A⟩,Ln.pubE (goneB rfl) rfl (Nat.le_refl _) rfl (fun _ _ _ _=>rfl)⟩,Ln.mpv _ _ rfl⟩) (wV rfl LnB.A (wV rfl LnB.A wX)))) allA ?_
   by_cases hc:fr.2 < 0
   ·rw [if_pos hc]
    (repeat' ((try conv=>whnf);first|(with_reducible first|refine wT ?_|refine wF ?_|(refine wI (fun hq=>?_) (fun hq=>?_) <;> try simp only [zA,zE,zD,zJ,zB,zI,wK,wL] at hq)|refine wA ?_|refine wB ?_|refine wC ?_|refine wD ?_|refine wE ?_)|((with_reducible refine wN ?_ ?_);focus exact needA)|(with_reducible refine wG ?_)|((refine FCall.give [0,1] [] cF rfl rfl ⟨⟨_,rfl,trivial,LnB.A⟩,⟨_,rfl,trivial,LnB.A⟩,True.intro⟩ ⟨Ln.A,Ln.aggN ⟨⟨⟨⟨⟨⟨⟨⟨⟨True.intro,Ln.int rfl⟩,Ln.int (leftL_get (by decide)).symm⟩,Ln.int (leftL_get (by decide)).symm⟩,Ln.int (leftL_get (by decide)).symm⟩,Ln.int (leftL_get (by decide)).symm⟩,Ln.int (leftL_get (by decide)).symm⟩,Ln.int (leftL_get (by decide)).symm⟩,Ln.int (leftL_get (by decide)).symm⟩,Ln.int (leftL_get (by decide)).symm⟩,True.intro⟩ ?_);rintro _ _ ⟨L2,hL2,rfl,rfl⟩;(refine ⟨by exact Nat.le_of_ble_eq_true rfl,.inl rfl,?_⟩))|(with_reducible refine wP ?_)))
    all_goals (try conv=>whnf)
    exact ⟨⟨.tup 3 (ofL [outI [],AI 0,AI 3]),[],[],Cut.nil _,Ln.tupN ⟨⟨⟨True.intro,Ln.slz _ _ _ _ _ _ _ (by decide)⟩,Ln.A⟩,Ln.A⟩,rfl,rfl⟩⟩
   ·rw [if_neg hc]
    (repeat' ((try conv=>whnf);first|(with_reducible first|refine wT ?_|refine wF ?_|(refine wI (fun hq=>?_) (fun hq=>?_) <;> try simp only [zA,zE,zD,zJ,zB,zI,wK,wL] at hq)|refine wA ?_|refine wB ?_|refine wC ?_|refine wD ?_|refine wE ?_)|((with_reducible refine wN ?_ ?_);focus exact needA)|(with_reducible refine wG ?_)|((refine FCall.give [0,1] [] cF rfl rfl ⟨⟨_,rfl,trivial,LnB.A⟩,⟨_,rfl,trivial,LnB.A⟩,True.intro⟩ ⟨Ln.A,Ln.aggN ⟨⟨⟨⟨⟨⟨⟨⟨⟨True.intro,Ln.int rfl⟩,Ln.int (leftL_get (by decide)).symm⟩,Ln.int (leftL_get (by decide)).symm⟩,Ln.int (leftL_get (by decide)).symm⟩,Ln.int (leftL_get (by decide)).symm⟩,Ln.int (leftL_get (by decide)).symm⟩,Ln.int (leftL_get (by decide)).symm⟩,Ln.int (leftL_get (by decide)).symm⟩,Ln.int (leftL_get (by decide)).symm⟩,True.intro⟩ ?_);rintro _ _ ⟨L2,hL2,rfl,rfl⟩;(refine ⟨by exact Nat.le_of_ble_eq_true rfl,.inl rfl,?_⟩))|(with_reducible refine wP ?_)))
    all_goals (try conv=>whnf)
    (refine ⟨⟨_,[],[],Cut.nil _,Ln.sameB _ rfl,?_,rfl⟩⟩)
    rfl
theorem plan_n (f:PoF) (p:Pool) (hn:NearP p) (hk:p.ok = false):ACall Try.prog 16 [aPool f p] [] (fun r h=>r = .tup 3 (ofL [outI (planE p).1,AI (planE p).2.1,AI (planE p).2.2]) ∧ h = []):=by
 have hc:checkP p = 100:=check_100 hk
 have cO:=open_n f p hn (by omega)
 have hE:planE p = ([],0,100):=by unfold planE;rw [hk];rfl
 rw [hE]
 rw [hc] at cO
 (refine fcall_of mixed Try.func16 rfl (by decide) (hs:={ pub:=[16],ord:=[(14,[(0,[]),(1,[]),(2,[]),(3,[]),(4,[]),(5,[]),(6,[]),(7,[4]),(8,[4]),(9,[]),(10,[]),(11,[]),(12,[])])] }) ?k (ac:=?ac) ?c (rs:=?rs) ?r ?l ?H;(case k=>kernel_rfl);(case c=>(conv=>(lhs;cbv)));(case r=>(conv=>(lhs;cbv)));(case l=>exact Nat.le_of_ble_eq_true rfl))
 (repeat' ((try conv=>whnf);first|(with_reducible first|refine wT ?_|refine wF ?_|(refine wI (fun hq=>?_) (fun hq=>?_) <;> try simp only [zA,zE,zD,zJ,zB,zI,wK,wL] at hq)|refine wA ?_|refine wB ?_|refine wC ?_|refine wD ?_|refine wE ?_)|((with_reducible refine wN ?_ ?_);focus exact needA)|(with_reducible refine wG ?_)|(refine FCall.pure (cO) ⟨Ln.sameB _ rfl,True.intro⟩ rfl ?_)|(with_reducible refine wP ?_)))
 all_goals (try conv=>whnf)
 exact ⟨⟨.tup 3 (ofL [outI [],AI 0,AI 100]),[],[],Cut.nil _,Ln.tupN ⟨⟨⟨True.intro,Ln.slz _ _ _ _ _ _ _ (by decide)⟩,Ln.A⟩,Ln.A⟩,rfl,rfl⟩⟩
theorem plan_ok (f:PoF) (p:Pool) (hn:NearP p):ACall Try.prog 16 [aPool f p] [] (fun r h=>r = .tup 3 (ofL [outI (planE p).1,AI (planE p).2.1,AI (planE p).2.2]) ∧ h = []):=by
 cases hk:p.ok
 ·exact plan_n f p hn hk
 ·exact plan_y f p hn hk
end Go.Proofs.Ytbhjehpjjbbhbaa

namespace Go.Proofs.Ytbhjehpjjbbhbaa
open Go.RowKit

theorem same_step {a b:List Int} {i:Nat} (hl:a.length = b.length) (hi:i < a.length) (h:a.take i = b.take i) (e:a.getD i 0 = b.getD i 0):a.take (i + 1) = b.take (i + 1):=by
 have hb:i < b.length:=by omega
 rw [List.take_add_one,List.take_add_one,h]
 simp only [List.getD,List.getElem?_eq_getElem hi,List.getElem?_eq_getElem hb,Option.getD_some] at e
 rw [List.getElem?_eq_getElem hi,List.getElem?_eq_getElem hb,e]
set_option maxHeartbeats 4000000
set_option maxRecDepth 100000
theorem sameInts_ok (z e z2 e2:Bool) (a b:List Int) (h1:a.length ≤ 1000000):ACall Try.prog 34 [aInts z e a,aInts z2 e2 b] [] (fun r h=>r = .bool (decide (a = b)) ∧ h = []):=by
 (refine fcall_of mixed Try.func34 rfl (by decide) (hs:={}) ?k (ac:=?ac) ?c (rs:=?rs) ?r ?l ?H;(case k=>kernel_rfl);(case c=>(conv=>(lhs;cbv)));(case r=>(conv=>(lhs;cbv)));(case l=>exact Nat.le_of_ble_eq_true rfl))
 (repeat' ((try conv=>whnf);first|(with_reducible first|refine wT ?_|refine wF ?_|(refine wI (fun hq=>?_) (fun hq=>?_) <;> try simp only [zA,zE,zD,zJ,zB,zI,wK,wL] at hq)|refine wA ?_|refine wB ?_|refine wC ?_|refine wD ?_|refine wE ?_)|((with_reducible refine wN ?_ ?_);focus exact needA)|(with_reducible refine wG ?_)|(with_reducible refine wP ?_)))
 all_goals (try conv=>whnf)
 ·(refine ⟨⟨_,[],[],Cut.nil _,Ln.sameB _ rfl,?_,rfl⟩⟩)
  rw [decide_eq_false fun h=>hq (by rw [h])]
 ·have hl:a.length = b.length:=by omega
  refine FLoop.of (ACalls.mono _) (X:=Nat) (fun i=>[(0,aInts z e a),(1,aInts z2 e2 b),(5,AI i)]) (fun _=>[]) (fun i=>i ≤ a.length ∧ a.take i = b.take i) (fun i=>a.length - i) 0 ⟨⟨by omega,rfl⟩,[],Cut.A,allA⟩ ?_
  rintro i ⟨hi,hL⟩
  by_cases hlt:i < a.length
  ·(repeat' ((try conv=>whnf);first|(with_reducible first|refine wT ?_|refine wF ?_|(refine wI (fun hq=>?_) (fun hq=>?_) <;> try simp only [zA,zE,zD,zJ,zB,zI,wK,wL] at hq)|refine wA ?_|refine wB ?_|refine wC ?_|refine wD ?_|refine wE ?_)|((with_reducible refine wN ?_ ?_);focus exact needA)|(with_reducible refine wG ?_)|(with_reducible refine wP ?_)))
   all_goals (try conv=>whnf)
   ·(refine ⟨⟨_,[],[],Cut.nil _,Ln.sameB _ rfl,?_,rfl⟩⟩)
    rw [decide_eq_false fun h=>hq (by rw [h])]
   ·(exact ⟨⟨(i + 1),⟨by omega,same_step hl hlt hL hq⟩,by show _ < _;omega,[],Cut.A,allA⟩⟩)
  ·(repeat' ((try conv=>whnf);first|(with_reducible first|refine wT ?_|refine wF ?_|(refine wI (fun hq=>?_) (fun hq=>?_) <;> try simp only [zA,zE,zD,zJ,zB,zI,wK,wL] at hq)|refine wA ?_|refine wB ?_|refine wC ?_|refine wD ?_|refine wE ?_)|((with_reducible refine wN ?_ ?_);focus exact needA)|(with_reducible refine wG ?_)|(with_reducible refine wP ?_)))
   all_goals (try conv=>whnf)
   (refine ⟨⟨_,[],[],Cut.nil _,Ln.sameB _ rfl,?_,rfl⟩⟩)
   rw [List.take_of_length_le (by omega),List.take_of_length_le (by omega)] at hL
   rw [decide_eq_true hL]
/-- Too large for the laws. -/
def bigR (r:List Int):Bool:=decide (20 < r.length)
def farT (p:Pool):Bool:=decide (20 < p.folk.length) || decide (20 < p.needs.length) || p.needs.any bigR || (p.ok && (decide (5 < p.folk.length) || decide (3 < p.needs.length) || decide (3 < p.nT)))
theorem near_of {p:Pool} (h:farT p = false):NearP p:=by
 simp only [farT,Bool.or_eq_false_iff,decide_eq_false_iff_not,Nat.not_lt] at h
 obtain ⟨⟨⟨a,b⟩,d⟩,e⟩:=h
 refine ⟨by omega,by omega,fun i hi=>?_⟩
 rw [List.any_eq_false] at d
 have hb:=d (p.needs.getD i []) (by simp [List.getD,List.getElem?_eq_getElem hi])
 have hb:¬ 20 < (p.needs.getD i []).length:=fun hh=>hb (decide_eq_true hh)
 show (p.needs.getD i []).length ≤ 1000
 omega
structure Small (p:Pool):Prop where
 n5:p.folk.length ≤ 5
 s3:p.needs.length ≤ 3
 t3:p.nT ≤ 3
theorem small_of {p:Pool} (h:farT p = false) (hk:p.ok = true):Small p:=by
 simp only [farT,hk,Bool.true_and,Bool.or_eq_false_iff,decide_eq_false_iff_not,Nat.not_lt] at h
 obtain ⟨_,⟨a,b⟩,d⟩:=h
 exact ⟨a,b,d⟩
theorem any_step {α:Type} {p:α → Bool} {l:List α} {i:Nat} (d:α) (h:i < l.length) (e:l.any p = (l.drop i).any p) (hp:p (l.getD i d) = false):l.any p = (l.drop (i + 1)).any p:=by
 rw [e,drop_eq d h,List.any_cons,hp,Bool.false_or]
theorem any_yes {α:Type} {p:α → Bool} {l:List α} {i:Nat} (d:α) (h:i < l.length) (e:l.any p = (l.drop i).any p) (hp:p (l.getD i d) = true):l.any p = true:=by
 rw [e,drop_eq d h,List.any_cons,hp,Bool.true_or]
theorem any_end {α:Type} {p:α → Bool} {l:List α} {i:Nat} (h:l.length ≤ i) (e:l.any p = (l.drop i).any p):l.any p = false:=by
 rw [e,List.drop_eq_nil_of_le h];rfl
theorem farT_ok (f:PoF) (p:Pool):ACall Try.prog 28 [aPool f p] [] (fun r h=>r = .bool (farT p) ∧ h = []):=by
 (refine fcall_of mixed Try.func28 rfl (by decide) (hs:={}) ?k (ac:=?ac) ?c (rs:=?rs) ?r ?l ?H;(case k=>kernel_rfl);(case c=>(conv=>(lhs;cbv)));(case r=>(conv=>(lhs;cbv)));(case l=>exact Nat.le_of_ble_eq_true rfl))
 (repeat' ((try conv=>whnf);first|(with_reducible first|refine wT ?_|refine wF ?_|(refine wI (fun hq=>?_) (fun hq=>?_) <;> try simp only [zA,zE,zD,zJ,zB,zI,wK,wL] at hq)|refine wA ?_|refine wB ?_|refine wC ?_|refine wD ?_|refine wE ?_)|((with_reducible refine wN ?_ ?_);focus exact needA)|(with_reducible refine wG ?_)|(with_reducible refine wP ?_)))
 all_goals (try conv=>whnf)
 ·(refine ⟨⟨_,[],[],Cut.nil _,Ln.sameB _ rfl,?_,rfl⟩⟩)
  unfold farT
  rw [decide_eq_true (by omega)];rfl
 ·(refine ⟨⟨_,[],[],Cut.nil _,Ln.sameB _ rfl,?_,rfl⟩⟩)
  unfold farT
  rw [decide_eq_true (p:=20 < p.needs.length) (by omega)];simp
 ·refine FLoop.of (ACalls.mono _) (X:=Nat) (fun i=>[(1,.ptr 0 0),(3,AI i)]) (fun _=>[.box 4 (cPool f p)]) (fun i=>i ≤ p.needs.length ∧ p.needs.any bigR = (p.needs.drop i).any bigR) (fun i=>p.needs.length - i) 0 ⟨⟨Nat.zero_le _,rfl⟩,[0],Cut.A,allA⟩ ?_
  rintro i ⟨hi,hL⟩
  by_cases hlt:i < p.needs.length
  ·(repeat' ((try conv=>whnf);first|(with_reducible first|refine wT ?_|refine wF ?_|(refine wI (fun hq=>?_) (fun hq=>?_) <;> try simp only [zA,zE,zD,zJ,zB,zI,wK,wL] at hq)|refine wA ?_|refine wB ?_|refine wC ?_|refine wD ?_|refine wE ?_)|((with_reducible refine wN ?_ ?_);focus exact needA)|(with_reducible refine wG ?_)|(with_reducible refine wP ?_)))
   all_goals (try conv=>whnf)
   ·(refine ⟨⟨_,[],[],Cut.nil _,Ln.sameB _ rfl,?_,rfl⟩⟩)
    unfold farT
    rw [any_yes [] hlt hL (by unfold bigR;rw [decide_eq_true (by omega)])];simp
   ·(exact ⟨⟨(i + 1),⟨hlt,any_step [] hlt hL (by unfold bigR;rw [decide_eq_false (by omega)])⟩,by show _ < _;omega,[0],Cut.A,allA⟩⟩)
  ·have hE:=any_end (by omega) hL
   have hA:farT p = (p.ok && (decide (5 < p.folk.length) || decide (3 < p.needs.length) || decide (3 < p.nT))):=by
    unfold farT
    rw [decide_eq_false (p:=20 < p.folk.length) (by omega),decide_eq_false (p:=20 < p.needs.length) (by omega),hE];rfl
   have hn:NearP p:=by
    refine ⟨by omega,by omega,fun i hi=>?_⟩
    rw [List.any_eq_false] at hE
    have hb:=hE (p.needs.getD i []) (by simp [List.getD,List.getElem?_eq_getElem hi])
    have hb:¬ 20 < (p.needs.getD i []).length:=fun hh=>hb (decide_eq_true hh)
    show (p.needs.getD i []).length ≤ 1000
    omega
   have cC:=refCheck_ok f p hn
   rw [hA]
   cases hk:p.ok
   ·rw [check_100 hk] at cC
    (repeat' ((try conv=>whnf);first|(with_reducible first|refine wT ?_|refine wF ?_|(refine wI (fun hq=>?_) (fun hq=>?_) <;> try simp only [zA,zE,zD,zJ,zB,zI,wK,wL] at hq)|refine wA ?_|refine wB ?_|refine wC ?_|refine wD ?_|refine wE ?_)|((with_reducible refine wN ?_ ?_);focus exact needA)|(with_reducible refine wG ?_)|(refine FCall.pure (cC) ⟨Ln.sameB _ rfl,True.intro⟩ rfl ?_)|(with_reducible refine wP ?_)))
    all_goals (try conv=>whnf)
    (refine ⟨⟨_,[],[],Cut.nil _,Ln.sameB _ rfl,?_,rfl⟩⟩)
    rfl
   ·have h:=pool_d hk
    have s1:=h.s1
    rw [check_0.2 hk] at cC
    have cT:=tongues_ok f p (by omega)
    (repeat' ((try conv=>whnf);first|(with_reducible first|refine wT ?_|refine wF ?_|(refine wI (fun hq=>?_) (fun hq=>?_) <;> try simp only [zA,zE,zD,zJ,zB,zI,wK,wL] at hq)|refine wA ?_|refine wB ?_|refine wC ?_|refine wD ?_|refine wE ?_)|((with_reducible refine wN ?_ ?_);focus exact needA)|(with_reducible refine wG ?_)|(refine FCall.pure (cC) ⟨Ln.sameB _ rfl,True.intro⟩ rfl ?_)|(refine FCall.pure (cT) ⟨Ln.sameB _ rfl,True.intro⟩ rfl ?_)|(with_reducible refine wP ?_)))
    all_goals (try conv=>whnf)
    all_goals
     (refine ⟨⟨_,[],[],Cut.nil _,Ln.sameB _ rfl,?_,rfl⟩⟩)
     first
      | (rw [decide_eq_true (p:=5 < p.folk.length) (by omega)];rfl)
      | (rw [decide_eq_false (p:=5 < p.folk.length) (by omega),decide_eq_true (p:=3 < p.needs.length) (by omega)];rfl)
      | (rw [decide_eq_false (p:=5 < p.folk.length) (by omega),decide_eq_false (p:=3 < p.needs.length) (by omega)];exact bool_eq (decide_eq_decide.2 (by omega)))
def validT (p:Pool):Bool:=!farT p && p.ok
theorem valid_ok (f:PoF) (p:Pool):ACall Try.prog 11 [aPool f p] [] (fun r h=>r = .bool (validT p) ∧ h = []):=by
 have cF:=farT_ok f p
 (refine fcall_of mixed Try.func11 rfl (by decide) (hs:={}) ?k (ac:=?ac) ?c (rs:=?rs) ?r ?l ?H;(case k=>kernel_rfl);(case c=>(conv=>(lhs;cbv)));(case r=>(conv=>(lhs;cbv)));(case l=>exact Nat.le_of_ble_eq_true rfl))
 cases hf:farT p
 ·have cC:=refCheck_ok f p (near_of hf)
  rw [hf] at cF
  (repeat' ((try conv=>whnf);first|(with_reducible first|refine wT ?_|refine wF ?_|(refine wI (fun hq=>?_) (fun hq=>?_) <;> try simp only [zA,zE,zD,zJ,zB,zI,wK,wL] at hq)|refine wA ?_|refine wB ?_|refine wC ?_|refine wD ?_|refine wE ?_)|((with_reducible refine wN ?_ ?_);focus exact needA)|(with_reducible refine wG ?_)|(refine FCall.pure (cF) ⟨Ln.sameB _ rfl,True.intro⟩ rfl ?_)|(refine FCall.pure (cC) ⟨Ln.sameB _ rfl,True.intro⟩ rfl ?_)|(with_reducible refine wP ?_)))
  all_goals (try conv=>whnf)
  (refine ⟨⟨_,[],[],Cut.nil _,Ln.sameB _ rfl,?_,rfl⟩⟩)
  unfold validT checkP
  rw [hf]
  cases p.ok <;> rfl
 ·rw [hf] at cF
  (repeat' ((try conv=>whnf);first|(with_reducible first|refine wT ?_|refine wF ?_|(refine wI (fun hq=>?_) (fun hq=>?_) <;> try simp only [zA,zE,zD,zJ,zB,zI,wK,wL] at hq)|refine wA ?_|refine wB ?_|refine wC ?_|refine wD ?_|refine wE ?_)|((with_reducible refine wN ?_ ?_);focus exact needA)|(with_reducible refine wG ?_)|(refine FCall.pure (cF) ⟨Ln.sameB _ rfl,True.intro⟩ rfl ?_)|(with_reducible refine wP ?_)))
  all_goals (try conv=>whnf)
  (refine ⟨⟨_,[],[],Cut.nil _,Ln.sameB _ rfl,?_,rfl⟩⟩)
  unfold validT
  rw [hf];rfl
theorem valid_d {p:Pool} (h:validT p = true):NearP p ∧ p.ok = true ∧ PoolOk p ∧ Small p:=by
 unfold validT at h
 rw [Bool.and_eq_true,Bool.not_eq_true'] at h
 exact ⟨near_of h.1,h.2,pool_d h.2,small_of h.1 h.2⟩
end Go.Proofs.Ytbhjehpjjbbhbaa

namespace Go.Proofs.Ytbhjehpjjbbhbaa
open Go.RowKit

def exP : Pool:=⟨[⟨1,3,10⟩,⟨3,3,25⟩,⟨2,1,12⟩,⟨2,3,20⟩,⟨1,2,15⟩],[[1,1],[1,0]],1,2⟩
theorem ex_plan : planE exP = ([7,17],72,0):=by decide +kernel
theorem ex_missed : missedE exP [15,17] = ([2,1,0,0,1],0):=by decide +kernel
theorem ex_near : NearP exP:=⟨by decide,by decide,fun s hs=>by
 rcases (show s = 0 ∨ s = 1 by have:s < 2:=hs;omega) with rfl|rfl <;> decide⟩
def exF : PoF:=⟨false,true,false,true,fun _=>false,fun _=>true⟩
theorem LeV.ints {l:List Int} {c:Nat → Nat → AV} {n:Nat} (hn:n = l.length) (h:∀ k,k < n → c k 0 = AI (l.getD k 0)):LeV (.sl false true n 1 c) (aInts false true l):=by
 subst hn
 exact LeV.sl (fun h=>h) (fun k hk o ho=>by obtain rfl:o = 0:=(by omega);exact LeV.of (h k hk).symm)
theorem k2 {p:Nat → Prop} (h0:p 0) (h1:p 1):∀ k,k < 2 → p k:=fun k hk=>by
 rcases (show k = 0 ∨ k = 1 by omega) with rfl|rfl
 ·exact h0
 ·exact h1
theorem k3 {p:Nat → Prop} (h0:p 0) (h1:p 1) (h2:p 2):∀ k,k < 3 → p k:=fun k hk=>by
 rcases (show k = 0 ∨ k = 1 ∨ k = 2 by omega) with rfl|rfl|rfl
 ·exact h0
 ·exact h1
 ·exact h2
theorem k5 {p:Nat → Prop} (h0:p 0) (h1:p 1) (h2:p 2) (h3:p 3) (h4:p 4):∀ k,k < 5 → p k:=fun k hk=>by
 rcases (show k = 0 ∨ k = 1 ∨ k = 2 ∨ k = 3 ∨ k = 4 by omega) with rfl|rfl|rfl|rfl|rfl
 ·exact h0
 ·exact h1
 ·exact h2
 ·exact h3
 ·exact h4
set_option maxHeartbeats 4000000
set_option maxRecDepth 100000
theorem example_ok : ACall Try.prog 43 [] [] (fun r h'=>r = aPool exF exP ∧ h' = []):=by
 (refine fcall_of mixed Try.func43 rfl (by decide) (hs:={}) ?k (ac:=?ac) ?c (rs:=?rs) ?r ?l ?H;(case k=>kernel_rfl);(case c=>(conv=>(lhs;cbv)));(case r=>(conv=>(lhs;cbv)));(case l=>exact Nat.le_of_ble_eq_true rfl))
 (repeat' ((try conv=>whnf);first|(with_reducible first|refine wT ?_|refine wF ?_|(refine wI (fun hq=>?_) (fun hq=>?_) <;> try simp only [zA,zE,zD,zJ,zB,zI,wK,wL] at hq)|refine wA ?_|refine wB ?_|refine wC ?_|refine wD ?_|refine wE ?_)|((with_reducible refine wN ?_ ?_);focus exact needA)|(with_reducible refine wG ?_)|(with_reducible refine wP ?_)))
 (try conv=>whnf)
 refine ⟨⟨aPool exF exP,[],[],Cut.nil _,Ln.aggN ⟨⟨⟨⟨True.intro,Ln.sl _ _ _ _ _ _ _ (fun h=>h) ?fo⟩,Ln.le _ _ True.intro (LeV.sl (fun h=>h) ?ne)⟩,Ln.A⟩,Ln.A⟩,rfl,rfl⟩⟩
 case fo=>exact k5 (k3 rfl rfl rfl) (k3 rfl rfl rfl) (k3 rfl rfl rfl) (k3 rfl rfl rfl) (k3 rfl rfl rfl)
 case ne=>exact k2 (fun o ho=>by obtain rfl:o = 0:=(by omega);exact LeV.ints rfl (k2 rfl rfl)) (fun o ho=>by obtain rfl:o = 0:=(by omega);exact LeV.ints rfl (k2 rfl rfl))
theorem ex_planC : ACall Try.prog 16 [aPool exF exP] [] (fun r h=>r = .tup 3 (ofL [outI [7,17],AI 72,AI 0]) ∧ h = []):=by
 have:=plan_ok exF exP ex_near
 rwa [ex_plan] at this
theorem ex_missC : ACall Try.prog 24 [aPool exF exP,aInts false true [15,17]] [] (fun r h=>r = .tup 2 (ofL [outI [2,1,0,0,1],AI 0]) ∧ h = []):=by
 have:=pMissed_ok exF exP false true [15,17] ex_near (fun s hs=>by
  rcases (show s = 0 ∨ s = 1 by have:s < 2:=hs;omega) with rfl|rfl <;> exact ⟨by decide,by decide⟩) (by decide)
 rwa [ex_missed] at this
theorem ex_sameP : ACall Try.prog 34 [aInts false false [7,17],aInts false true [7,17]] [] (fun r h=>r = .bool true ∧ h = []):=sameInts_ok false false false true [7,17] [7,17] (by decide)
theorem ex_sameM : ACall Try.prog 34 [aInts false false [2,1,0,0,1],aInts false true [2,1,0,0,1]] [] (fun r h=>r = .bool true ∧ h = []):=sameInts_ok false false false true [2,1,0,0,1] [2,1,0,0,1] (by decide)
theorem Ln.lits {σ:Nat → Nat → Prop} {Bp:Nat → Prop} {H:List AB} {c:Nat → Nat → AV} {n:Nat} {l:List Int} (hn:n = l.length) (h:∀ k,k < n → c k 0 = AI (l.getD k 0)):Ln σ Bp H (.sl false true n 1 c) (aInts false true l):=by
 subst hn
 exact Ln.sl _ _ _ _ _ _ _ (fun h=>h) fun k hk o ho=>by
  obtain rfl:o = 0:=by omega
  exact (h k hk).symm
theorem works_ok : ACall Try.prog 12 [] [] (fun r h'=>r = .bool true ∧ h' = []):=by
 (refine fcall_of mixed Try.func12 rfl (by decide) (hs:={}) ?k (ac:=?ac) ?c (rs:=?rs) ?r ?l ?H;(case k=>kernel_rfl);(case c=>(conv=>(lhs;cbv)));(case r=>(conv=>(lhs;cbv)));(case l=>exact Nat.le_of_ble_eq_true rfl))
 (repeat' ((try conv=>whnf);first|(with_reducible first|refine wT ?_|refine wF ?_|(refine wI (fun hq=>?_) (fun hq=>?_) <;> try simp only [zA,zE,zD,zJ,zB,zI,wK,wL] at hq)|refine wA ?_|refine wB ?_|refine wC ?_|refine wD ?_|refine wE ?_)|((with_reducible refine wN ?_ ?_);focus exact needA)|(with_reducible refine wG ?_)|(refine FCall.pure example_ok True.intro rfl ?_)|(refine FCall.pure (ex_planC) ⟨Ln.sameB _ rfl,True.intro⟩ rfl ?_)|(refine FCall.pure ex_missC ⟨Ln.sameB _ rfl,Ln.lits rfl (k2 rfl rfl),True.intro⟩ rfl ?_)|(refine FCall.pure ex_sameP ⟨Ln.sameB _ rfl,Ln.lits rfl (k2 rfl rfl),True.intro⟩ rfl ?_)|(refine FCall.pure ex_sameM ⟨Ln.sameB _ rfl,Ln.lits rfl (k5 rfl rfl rfl rfl rfl),True.intro⟩ rfl ?_)|(with_reducible refine wP ?_)))
 all_goals (try conv=>whnf)
 all_goals (refine ⟨⟨_,[],[],Cut.nil _,Ln.sameB _ rfl,?_,rfl⟩⟩)
 all_goals rfl
end Go.Proofs.Ytbhjehpjjbbhbaa

namespace Go.Proofs.Ytbhjehpjjbbhbaa
open Go.RowKit

theorem Ln.slZ {σ:Nat → Nat → Prop} {Bp:Nat → Prop} {H:List AB} {n' sz:Nat} {c c':Nat → Nat → AV} (h:n' = 0):Ln σ Bp H (.sl false true 0 sz c) (.sl false (decide (n' = 0)) n' sz c'):=by
 subst h
 exact Ln.sl _ _ _ _ _ _ _ (fun _=>rfl) (fun k hk=>absurd hk (Nat.not_lt_zero k))
theorem Ln.pubD {σ:Nat → Nat → Prop} {Bp:Nat → Prop} {H:List AB} {d n n' N sz:Nat} {c c':Nat → Nat → AV} (h0:0 < n') (h:Bp d) (hd:H[d]? = some (.row N sz c)) (hn:n ≤ N) (e:n = n') (hc:∀ k,k < n → ∀ o,o < sz → c' k o = c k o):Ln σ Bp H (.own d n) (.sl false (decide (n' = 0)) n' sz c'):=by
 rw [decide_eq_false (by omega)];exact Ln.pubE h hd hn e hc
abbrev cpFolk (l:List Folk):AV:=aFolks false (decide (l.length = 0)) l
abbrev cpRow (l:List Int):AV:=aInts false (decide (l.length = 0)) l
theorem cpR0 {l:List Int} {c:Nat → Nat → AV} (h:l.length = 0):LeV (.sl false true 0 1 c) (cpRow l):=by
 show LeV _ (.sl false (decide (l.length = 0)) l.length 1 _)
 rw [h];exact LeV.slz (fun _=>rfl)
theorem cpR1 {l:List Int} {R:Nat} {c:Nat → Nat → AV} (h:l.length = R + 1) (hc:∀ k,k < R + 1 → c k 0 = AI (l.getD k 0)):LeV (.sl false false (0 + (R + 1)) 1 c) (cpRow l):=by
 show LeV _ (.sl false (decide (l.length = 0)) l.length 1 _)
 rw [h,Nat.zero_add]
 exact LeV.sl (fun e=>by cases e) (fun k hk o ho=>by obtain rfl:o = 0:=Nat.lt_one_iff.1 ho;exact LeV.of (hc k hk).symm)
theorem cpApp {needs:List (List Int)} {i:Nat} {c d:Nat → Nat → AV} (hc:∀ k,k < i → c k 0 = cpRow (needs.getD k [])) (hx:LeV (d 0 0) (cpRow (needs.getD i []))) {k:Nat} (hk:k < i + 1) {o:Nat} (ho:o < 1):LeV (appc i c d k o) (cpRow (needs.getD k [])):=by
 obtain rfl:o = 0:=Nat.lt_one_iff.1 ho
 by_cases h:k < i
 ·rw [appc,if_pos h,hc k h];exact LeV.refl _
 ·obtain rfl:k = i:=by omega
  rw [appc,if_neg h,Nat.sub_self];exact hx
abbrev rowR (n:Nat) (l:List (List Int)):AB:=.row n 1 (fun k _=>cpRow (l.getD k []))
set_option maxHeartbeats 4000000
set_option maxRecDepth 100000
theorem copy_own2 (f:PoF) (folk:List Folk) (needs:List (List Int)) (ill most:Int) (n1:folk.length ≤ 1000) (n2:needs.length ≤ 1000) (n3:∀ s,s < needs.length → (needs.getD s []).length ≤ 1000):ACall Try.prog 13 [aPool f ⟨folk,needs,ill,most⟩] [] (fun v h=>v = .agg 4 (ofL [cpFolk folk,.sl (decide (needs.length = 0)) (decide (needs.length = 0)) needs.length 1 (fun k _=>cpRow (needs.getD k [])),AI ill,AI most]) ∧ h = []):=by
 (refine fcall_of mixed Try.func13 rfl (by decide) (hs:={ pub:=[4],ord:=[(7,[(0,[]),(1,[]),(2,[]),(3,[]),(4,[]),(5,[]),(6,[]),(7,[]),(8,[1]),(9,[1]),(10,[]),(11,[]),(12,[])])] }) ?k (ac:=?ac) ?c (rs:=?rs) ?r ?l ?H;(case k=>kernel_rfl);(case c=>(conv=>(lhs;cbv)));(case r=>(conv=>(lhs;cbv)));(case l=>exact Nat.le_of_ble_eq_true rfl))
 rcases folk with _|⟨w0,ws⟩
 all_goals
  have n1':=n1
  simp only [List.length_cons,List.length_nil] at n1'
  (repeat' ((try conv=>whnf);first|(with_reducible first|refine wT ?_|refine wF ?_|(refine wI (fun hq=>?_) (fun hq=>?_) <;> try simp only [zA,zE,zD,zJ,zB,zI,wK,wL] at hq)|refine wA ?_|refine wB ?_|refine wC ?_|refine wD ?_|refine wE ?_)|((with_reducible refine wN ?_ ?_);focus exact needA)|(with_reducible refine wG ?_)|(with_reducible refine wP ?_)))
  all_goals (try conv=>whnf)
 ·refine FWk.of [(1,.ptr 0 0),(2,.ptr 1 0),(3,.ptr 2 0)] [.box 4 (cPool f ⟨[],needs,ill,most⟩),.box 4 (ofL [nilS,nilS,AI 0,AI 0]),.box 4 (ofL [cpFolk [],nilS,AI ill,AI most])] [0,1,2] (wO rfl rfl rfl (wV rfl (LnB.boxN ⟨⟨⟨⟨True.intro,Ln.sameB _ rfl⟩,Ln.sameB _ rfl⟩,Ln.A⟩,Ln.A⟩) (wV rfl (LnB.boxN ⟨⟨⟨⟨True.intro,Ln.sameB _ rfl⟩,Ln.sameB _ rfl⟩,Ln.A⟩,Ln.A⟩) (wV rfl (LnB.boxN ⟨⟨⟨⟨True.intro,Ln.slZ rfl⟩,Ln.sameB _ rfl⟩,Ln.A⟩,Ln.A⟩) wX)))) ⟨Ln.ptr _ _ _ rfl,Ln.ptr _ _ _ rfl,Ln.ptr _ _ _ rfl,True.intro⟩ ?_
  clear n1'
  generalize hgl:([]:List Folk) = folk
  (repeat' ((try conv=>whnf);first|(with_reducible first|refine wT ?_|refine wF ?_|(refine wI (fun hq=>?_) (fun hq=>?_) <;> try simp only [zA,zE,zD,zJ,zB,zI,wK,wL] at hq)|refine wA ?_|refine wB ?_|refine wC ?_|refine wD ?_|refine wE ?_)|((with_reducible refine wN ?_ ?_);focus exact needA)|(with_reducible refine wG ?_)|(with_reducible refine wP ?_)))
  (try conv=>whnf)
  refine FLoop.of (ACalls.mono _) (X:=Nat) (fun i=>[(1,.ptr 0 0),(2,.ptr 1 0),(3,.ptr 2 0),(4,AI i)]) (fun i=>match i with
   | 0=>[.box 4 (cPool f ⟨folk,needs,ill,most⟩),.box 4 (ofL [nilS,nilS,AI 0,AI 0]),.box 4 (ofL [cpFolk folk,nilS,AI ill,AI most])]
   | i + 1=>[.box 4 (cPool f ⟨folk,needs,ill,most⟩),.box 4 (ofL [nilS,nilS,AI 0,AI 0]),.box 4 (ofL [cpFolk folk,.own 3 (i + 1),AI ill,AI most]),rowR (i + 1) needs]) (fun i=>i ≤ needs.length) (fun i=>needs.length - i) 0 ⟨Nat.zero_le _,[0,1,2],Cut.A,allA⟩ ?_
  intro i hi
  by_cases hlt:i < needs.length
  ·have q1:=n3 i hlt
   rcases i with _|i
   ·(repeat' ((try conv=>whnf);first|(with_reducible first|refine wT ?_|refine wF ?_|(refine wI (fun hq=>?_) (fun hq=>?_) <;> try simp only [zA,zE,zD,zJ,zB,zI,wK,wL] at hq)|refine wA ?_|refine wB ?_|refine wC ?_|refine wD ?_|refine wE ?_)|((with_reducible refine wN ?_ ?_);focus exact needA)|(with_reducible refine wG ?_)|(with_reducible refine wP ?_)))
    (try conv=>whnf)
    rcases hR:((Pool.mk folk needs ill most).needs.getD 0 []).length with _|R
    all_goals
     (repeat' ((try conv=>whnf);first|(with_reducible first|refine wT ?_|refine wF ?_|(refine wI (fun hq=>?_) (fun hq=>?_) <;> try simp only [zA,zE,zD,zJ,zB,zI,wK,wL] at hq)|refine wA ?_|refine wB ?_|refine wC ?_|refine wD ?_|refine wE ?_)|((with_reducible refine wN ?_ ?_);focus exact needA)|(with_reducible refine wG ?_)|(with_reducible refine wP ?_)))
     (try conv=>whnf)
    ·(exact ⟨⟨(0 + 1),hlt,by show _ < _;omega,[0,1,2,3],(by (refine wO rfl rfl rfl ?_;repeat (first|exact wX|(refine wV rfl (by first|exact LnB.rowS|exact LnB.rowL (Nat.le_refl _) (fun k hk o ho=>cpApp (fun k hk=>absurd hk (Nat.not_lt_zero k)) (cpR0 hR) hk ho)|exact LnB.A) ?_)|(refine CutL.gone (Nat.lt_of_lt_of_le (Nat.lt_succ_self _) (Nat.le_of_ble_eq_true rfl)) ?_)))),allA⟩⟩)
    ·(exact ⟨⟨(0 + 1),hlt,by show _ < _;omega,[0,1,2,4],(by (refine wO rfl rfl rfl ?_;repeat (first|exact wX|(refine wV rfl (by first|exact LnB.rowS|exact LnB.rowL (Nat.le_refl _) (fun k hk o ho=>cpApp (fun k hk=>absurd hk (Nat.not_lt_zero k)) (cpR1 hR (fun k hk=>by simp [appc])) hk ho)|exact LnB.A) ?_)|(refine CutL.gone (Nat.lt_of_lt_of_le (Nat.lt_succ_self _) (Nat.le_of_ble_eq_true rfl)) ?_)))),allA⟩⟩)
   ·(repeat' ((try conv=>whnf);first|(with_reducible first|refine wT ?_|refine wF ?_|(refine wI (fun hq=>?_) (fun hq=>?_) <;> try simp only [zA,zE,zD,zJ,zB,zI,wK,wL] at hq)|refine wA ?_|refine wB ?_|refine wC ?_|refine wD ?_|refine wE ?_)|((with_reducible refine wN ?_ ?_);focus exact needA)|(with_reducible refine wG ?_)|(with_reducible refine wP ?_)))
    (try conv=>whnf)
    rcases hR:((Pool.mk folk needs ill most).needs.getD (i + 1) []).length with _|R
    all_goals
     (repeat' ((try conv=>whnf);first|(with_reducible first|refine wT ?_|refine wF ?_|(refine wI (fun hq=>?_) (fun hq=>?_) <;> try simp only [zA,zE,zD,zJ,zB,zI,wK,wL] at hq)|refine wA ?_|refine wB ?_|refine wC ?_|refine wD ?_|refine wE ?_)|((with_reducible refine wN ?_ ?_);focus exact needA)|(with_reducible refine wG ?_)|(with_reducible refine wP ?_)))
     (try conv=>whnf)
    ·(exact ⟨⟨((i + 1) + 1),hlt,by show _ < _;omega,[0,1,2,4],(by (refine wO rfl rfl rfl ?_;repeat (first|exact wX|(refine wV rfl (by first|exact LnB.rowS|exact LnB.rowL (Nat.le_refl _) (fun k hk o ho=>cpApp (fun _ _=>rfl) (cpR0 hR) hk ho)|exact LnB.A) ?_)|(refine CutL.gone (Nat.lt_of_lt_of_le (Nat.lt_succ_self _) (Nat.le_of_ble_eq_true rfl)) ?_)))),allA⟩⟩)
    ·(exact ⟨⟨((i + 1) + 1),hlt,by show _ < _;omega,[0,1,2,5],(by (refine wO rfl rfl rfl ?_;repeat (first|exact wX|(refine wV rfl (by first|exact LnB.rowS|exact LnB.rowL (Nat.le_refl _) (fun k hk o ho=>cpApp (fun _ _=>rfl) (cpR1 hR (fun k hk=>by simp [appc])) hk ho)|exact LnB.A) ?_)|(refine CutL.gone (Nat.lt_of_lt_of_le (Nat.lt_succ_self _) (Nat.le_of_ble_eq_true rfl)) ?_)))),allA⟩⟩)
  ·obtain rfl:i = needs.length:=by omega
   rcases hn:needs.length with _|n
   ·(repeat' ((try conv=>whnf);first|(with_reducible first|refine wT ?_|refine wF ?_|(refine wI (fun hq=>?_) (fun hq=>?_) <;> try simp only [zA,zE,zD,zJ,zB,zI,wK,wL] at hq)|refine wA ?_|refine wB ?_|refine wC ?_|refine wD ?_|refine wE ?_)|((with_reducible refine wN ?_ ?_);focus exact needA)|(with_reducible refine wG ?_)|(with_reducible refine wP ?_)))
    (try conv=>whnf)
    exact ⟨⟨.agg 4 (ofL [cpFolk folk,.sl (decide (0 = 0)) (decide (0 = 0)) 0 1 (fun k _=>cpRow (needs.getD k [])),AI ill,AI most]),[],[],Cut.nil _,Ln.aggN ⟨⟨⟨⟨True.intro,Ln.A⟩,Ln.slz _ _ _ _ _ _ _ (fun h=>h)⟩,Ln.A⟩,Ln.A⟩,by subst hgl;rfl,rfl⟩⟩
   ·(repeat' ((try conv=>whnf);first|(with_reducible first|refine wT ?_|refine wF ?_|(refine wI (fun hq=>?_) (fun hq=>?_) <;> try simp only [zA,zE,zD,zJ,zB,zI,wK,wL] at hq)|refine wA ?_|refine wB ?_|refine wC ?_|refine wD ?_|refine wE ?_)|((with_reducible refine wN ?_ ?_);focus exact needA)|(with_reducible refine wG ?_)|(with_reducible refine wP ?_)))
    (try conv=>whnf)
    exact ⟨⟨.agg 4 (ofL [cpFolk folk,.sl false false (n + 1) 1 (fun k _=>cpRow (needs.getD k [])),AI ill,AI most]),[],[],Cut.nil _,Ln.aggN ⟨⟨⟨⟨True.intro,Ln.A⟩,Ln.pubE (goneB rfl) rfl (Nat.le_refl _) rfl (fun _ _ _ _=>rfl)⟩,Ln.A⟩,Ln.A⟩,by subst hgl;rfl,rfl⟩⟩
 ·refine FWk.of [(1,.ptr 0 0),(2,.ptr 1 0),(3,.ptr 2 0)] [.box 4 (cPool f ⟨(w0 :: ws),needs,ill,most⟩),.box 4 (ofL [nilS,nilS,AI 0,AI 0]),.box 4 (ofL [cpFolk (w0 :: ws),nilS,AI ill,AI most])] [0,1,2] (wO rfl rfl rfl (wV rfl (LnB.boxN ⟨⟨⟨⟨True.intro,Ln.sameB _ rfl⟩,Ln.sameB _ rfl⟩,Ln.A⟩,Ln.A⟩) (wV rfl (LnB.boxN ⟨⟨⟨⟨True.intro,Ln.sameB _ rfl⟩,Ln.sameB _ rfl⟩,Ln.A⟩,Ln.A⟩) (wV rfl (LnB.boxN ⟨⟨⟨⟨True.intro,Ln.pubD (Nat.succ_pos _) (goneB rfl) rfl (Nat.le_refl _) (Nat.zero_add _) (fun k hk o ho=>by simp [appc])⟩,Ln.sameB _ rfl⟩,Ln.A⟩,Ln.A⟩) wX)))) ⟨Ln.ptr _ _ _ rfl,Ln.ptr _ _ _ rfl,Ln.ptr _ _ _ rfl,True.intro⟩ ?_
  clear n1'
  generalize hgl:(w0 :: ws:List Folk) = folk
  (repeat' ((try conv=>whnf);first|(with_reducible first|refine wT ?_|refine wF ?_|(refine wI (fun hq=>?_) (fun hq=>?_) <;> try simp only [zA,zE,zD,zJ,zB,zI,wK,wL] at hq)|refine wA ?_|refine wB ?_|refine wC ?_|refine wD ?_|refine wE ?_)|((with_reducible refine wN ?_ ?_);focus exact needA)|(with_reducible refine wG ?_)|(with_reducible refine wP ?_)))
  (try conv=>whnf)
  refine FLoop.of (ACalls.mono _) (X:=Nat) (fun i=>[(1,.ptr 0 0),(2,.ptr 1 0),(3,.ptr 2 0),(4,AI i)]) (fun i=>match i with
   | 0=>[.box 4 (cPool f ⟨folk,needs,ill,most⟩),.box 4 (ofL [nilS,nilS,AI 0,AI 0]),.box 4 (ofL [cpFolk folk,nilS,AI ill,AI most])]
   | i + 1=>[.box 4 (cPool f ⟨folk,needs,ill,most⟩),.box 4 (ofL [nilS,nilS,AI 0,AI 0]),.box 4 (ofL [cpFolk folk,.own 3 (i + 1),AI ill,AI most]),rowR (i + 1) needs]) (fun i=>i ≤ needs.length) (fun i=>needs.length - i) 0 ⟨Nat.zero_le _,[0,1,2],Cut.A,allA⟩ ?_
  intro i hi
  by_cases hlt:i < needs.length
  ·have q1:=n3 i hlt
   rcases i with _|i
   ·(repeat' ((try conv=>whnf);first|(with_reducible first|refine wT ?_|refine wF ?_|(refine wI (fun hq=>?_) (fun hq=>?_) <;> try simp only [zA,zE,zD,zJ,zB,zI,wK,wL] at hq)|refine wA ?_|refine wB ?_|refine wC ?_|refine wD ?_|refine wE ?_)|((with_reducible refine wN ?_ ?_);focus exact needA)|(with_reducible refine wG ?_)|(with_reducible refine wP ?_)))
    (try conv=>whnf)
    rcases hR:((Pool.mk folk needs ill most).needs.getD 0 []).length with _|R
    all_goals
     (repeat' ((try conv=>whnf);first|(with_reducible first|refine wT ?_|refine wF ?_|(refine wI (fun hq=>?_) (fun hq=>?_) <;> try simp only [zA,zE,zD,zJ,zB,zI,wK,wL] at hq)|refine wA ?_|refine wB ?_|refine wC ?_|refine wD ?_|refine wE ?_)|((with_reducible refine wN ?_ ?_);focus exact needA)|(with_reducible refine wG ?_)|(with_reducible refine wP ?_)))
     (try conv=>whnf)
    ·(exact ⟨⟨(0 + 1),hlt,by show _ < _;omega,[0,1,2,3],(by (refine wO rfl rfl rfl ?_;repeat (first|exact wX|(refine wV rfl (by first|exact LnB.rowS|exact LnB.rowL (Nat.le_refl _) (fun k hk o ho=>cpApp (fun k hk=>absurd hk (Nat.not_lt_zero k)) (cpR0 hR) hk ho)|exact LnB.A) ?_)|(refine CutL.gone (Nat.lt_of_lt_of_le (Nat.lt_succ_self _) (Nat.le_of_ble_eq_true rfl)) ?_)))),allA⟩⟩)
    ·(exact ⟨⟨(0 + 1),hlt,by show _ < _;omega,[0,1,2,4],(by (refine wO rfl rfl rfl ?_;repeat (first|exact wX|(refine wV rfl (by first|exact LnB.rowS|exact LnB.rowL (Nat.le_refl _) (fun k hk o ho=>cpApp (fun k hk=>absurd hk (Nat.not_lt_zero k)) (cpR1 hR (fun k hk=>by simp [appc])) hk ho)|exact LnB.A) ?_)|(refine CutL.gone (Nat.lt_of_lt_of_le (Nat.lt_succ_self _) (Nat.le_of_ble_eq_true rfl)) ?_)))),allA⟩⟩)
   ·(repeat' ((try conv=>whnf);first|(with_reducible first|refine wT ?_|refine wF ?_|(refine wI (fun hq=>?_) (fun hq=>?_) <;> try simp only [zA,zE,zD,zJ,zB,zI,wK,wL] at hq)|refine wA ?_|refine wB ?_|refine wC ?_|refine wD ?_|refine wE ?_)|((with_reducible refine wN ?_ ?_);focus exact needA)|(with_reducible refine wG ?_)|(with_reducible refine wP ?_)))
    (try conv=>whnf)
    rcases hR:((Pool.mk folk needs ill most).needs.getD (i + 1) []).length with _|R
    all_goals
     (repeat' ((try conv=>whnf);first|(with_reducible first|refine wT ?_|refine wF ?_|(refine wI (fun hq=>?_) (fun hq=>?_) <;> try simp only [zA,zE,zD,zJ,zB,zI,wK,wL] at hq)|refine wA ?_|refine wB ?_|refine wC ?_|refine wD ?_|refine wE ?_)|((with_reducible refine wN ?_ ?_);focus exact needA)|(with_reducible refine wG ?_)|(with_reducible refine wP ?_)))
     (try conv=>whnf)
    ·(exact ⟨⟨((i + 1) + 1),hlt,by show _ < _;omega,[0,1,2,4],(by (refine wO rfl rfl rfl ?_;repeat (first|exact wX|(refine wV rfl (by first|exact LnB.rowS|exact LnB.rowL (Nat.le_refl _) (fun k hk o ho=>cpApp (fun _ _=>rfl) (cpR0 hR) hk ho)|exact LnB.A) ?_)|(refine CutL.gone (Nat.lt_of_lt_of_le (Nat.lt_succ_self _) (Nat.le_of_ble_eq_true rfl)) ?_)))),allA⟩⟩)
    ·(exact ⟨⟨((i + 1) + 1),hlt,by show _ < _;omega,[0,1,2,5],(by (refine wO rfl rfl rfl ?_;repeat (first|exact wX|(refine wV rfl (by first|exact LnB.rowS|exact LnB.rowL (Nat.le_refl _) (fun k hk o ho=>cpApp (fun _ _=>rfl) (cpR1 hR (fun k hk=>by simp [appc])) hk ho)|exact LnB.A) ?_)|(refine CutL.gone (Nat.lt_of_lt_of_le (Nat.lt_succ_self _) (Nat.le_of_ble_eq_true rfl)) ?_)))),allA⟩⟩)
  ·obtain rfl:i = needs.length:=by omega
   rcases hn:needs.length with _|n
   ·(repeat' ((try conv=>whnf);first|(with_reducible first|refine wT ?_|refine wF ?_|(refine wI (fun hq=>?_) (fun hq=>?_) <;> try simp only [zA,zE,zD,zJ,zB,zI,wK,wL] at hq)|refine wA ?_|refine wB ?_|refine wC ?_|refine wD ?_|refine wE ?_)|((with_reducible refine wN ?_ ?_);focus exact needA)|(with_reducible refine wG ?_)|(with_reducible refine wP ?_)))
    (try conv=>whnf)
    exact ⟨⟨.agg 4 (ofL [cpFolk folk,.sl (decide (0 = 0)) (decide (0 = 0)) 0 1 (fun k _=>cpRow (needs.getD k [])),AI ill,AI most]),[],[],Cut.nil _,Ln.aggN ⟨⟨⟨⟨True.intro,Ln.A⟩,Ln.slz _ _ _ _ _ _ _ (fun h=>h)⟩,Ln.A⟩,Ln.A⟩,by subst hgl;rfl,rfl⟩⟩
   ·(repeat' ((try conv=>whnf);first|(with_reducible first|refine wT ?_|refine wF ?_|(refine wI (fun hq=>?_) (fun hq=>?_) <;> try simp only [zA,zE,zD,zJ,zB,zI,wK,wL] at hq)|refine wA ?_|refine wB ?_|refine wC ?_|refine wD ?_|refine wE ?_)|((with_reducible refine wN ?_ ?_);focus exact needA)|(with_reducible refine wG ?_)|(with_reducible refine wP ?_)))
    (try conv=>whnf)
    exact ⟨⟨.agg 4 (ofL [cpFolk folk,.sl false false (n + 1) 1 (fun k _=>cpRow (needs.getD k [])),AI ill,AI most]),[],[],Cut.nil _,Ln.aggN ⟨⟨⟨⟨True.intro,Ln.A⟩,Ln.pubE (goneB rfl) rfl (Nat.le_refl _) rfl (fun _ _ _ _=>rfl)⟩,Ln.A⟩,Ln.A⟩,by subst hgl;rfl,rfl⟩⟩
/-- The copy, to be read only. -/
def flC (p:Pool):PoF:=⟨false,decide (p.folk.length = 0),decide (p.needs.length = 0),decide (p.needs.length = 0),fun _=>false,fun i=>decide ((p.needs.getD i []).length = 0)⟩
theorem copy_ok (f:PoF) (p:Pool) (hn:NearP p):ACall Try.prog 13 [aPool f p] [] (fun r h=>r = aPool (flC p) p ∧ h = []):=copy_own2 f p.folk p.needs p.ill p.most hn.f hn.n hn.r
end Go.Proofs.Ytbhjehpjjbbhbaa

namespace Go.Proofs.Ytbhjehpjjbbhbaa
open Go.RowKit

abbrev rowI (n:Nat) (l:List Int):AB:=.row n 1 (fun k _=>AI (l.getD k 0))
theorem getD_snoc (l:List Int) (x:Int) (k:Nat):(l ++ [x]).getD k 0 = if k < l.length then l.getD k 0 else if k = l.length then x else 0:=by
 simp only [List.getD]
 by_cases h:k < l.length
 ·rw [if_pos h,List.getElem?_append_left h]
 ·rw [if_neg h,List.getElem?_append_right (by omega)]
  by_cases e:k = l.length
  ·subst e;simp
  ·rw [if_neg e,List.getElem?_eq_none (by simp;omega)];rfl
def covQ (p:Pool) (s g:Nat):Bool:=canT p s g && coveredT p s g
def covI (p:Pool) (s i:Nat):List Int:=(((List.range (2 ^ p.folk.length)).drop i).filter (covQ p s)).map fun (g:Nat)=>(g:Int)
def covL (p:Pool) (s:Nat):List Int:=(coversT p s).map fun (g:Nat)=>(g:Int)
theorem covI_0 (p:Pool) (s:Nat):covI p s 0 = covL p s:=rfl
theorem drop_range {n i:Nat} (h:i < n):(List.range n).drop i = i :: (List.range n).drop (i + 1):=by
 rw [drop_eq 0 (by rw [List.length_range];exact h)]
 congr 1
 simp [List.getD,h]
theorem covI_yes {p:Pool} {s i:Nat} (h:i < 2 ^ p.folk.length) (hb:covQ p s i = true):covI p s i = (i:Int) :: covI p s (i + 1):=by
 unfold covI;rw [drop_range h,List.filter_cons,if_pos hb];rfl
theorem covI_no {p:Pool} {s i:Nat} (h:i < 2 ^ p.folk.length) (hb:covQ p s i = false):covI p s i = covI p s (i + 1):=by
 unfold covI;rw [drop_range h,List.filter_cons,if_neg (by rw [hb];decide)]
theorem covI_end {p:Pool} {s i:Nat} (h:2 ^ p.folk.length ≤ i):covI p s i = []:=by
 unfold covI;rw [List.drop_eq_nil_of_le (by rw [List.length_range];exact h)];rfl
theorem canBe_nat {p:Pool} {s i:Nat} (h:i < 2 ^ p.folk.length):canBe p s i = canT p s i:=by
 have hi:inB i 0 ((2 ^ p.folk.length:Nat) - 1) = true:=decide_eq_true (by omega)
 unfold canBe;rw [hi,Int.toNat_natCast];rfl
theorem covQ_d {p:Pool} {s i:Nat} (h:covQ p s i = true):canT p s i = true ∧ coveredT p s i = true:=by
 unfold covQ at h;rwa [Bool.and_eq_true] at h
def costTo (p:Pool) (w:List Int):Nat → Int
 | 0=>0
 | k + 1=>costTo p w k + payT p (w.getD k 0).toNat
def costT (p:Pool) (w:List Int):Int:=costTo p w w.length
theorem costTo_b {p:Pool} (h:PoolOk p) (w:List Int):∀ k,0 ≤ costTo p w k ∧ costTo p w k ≤ 8000 * k
 | 0=>by show (0:Int) ≤ 0 ∧ (0:Int) ≤ _;omega
 | k + 1=>by
  have:=costTo_b h w k
  have:=pay_b h (w.getD k 0).toNat
  show 0 ≤ costTo p w k + _ ∧ costTo p w k + _ ≤ _
  omega
set_option maxHeartbeats 4000000
set_option maxRecDepth 100000
theorem refPay_ok (f:PoF) (p:Pool) (g:Nat) (h:PoolOk p):ACall Try.prog 38 [aPool f p,AI g] [] (fun r h=>r = AI (payT p g) ∧ h = []):=by
 have n8:=h.n8
 (refine fcall_of mixed Try.func38 rfl (by decide) (hs:={}) ?k (ac:=?ac) ?c (rs:=?rs) ?r ?l ?H;(case k=>kernel_rfl);(case c=>(conv=>(lhs;cbv)));(case r=>(conv=>(lhs;cbv)));(case l=>exact Nat.le_of_ble_eq_true rfl))
 (repeat' ((try conv=>whnf);first|(with_reducible first|refine wT ?_|refine wF ?_|(refine wI (fun hq=>?_) (fun hq=>?_) <;> try simp only [zA,zE,zD,zJ,zB,zI,wK,wL] at hq)|refine wA ?_|refine wB ?_|refine wC ?_|refine wD ?_|refine wE ?_)|((with_reducible refine wN ?_ ?_);focus exact needA)|(with_reducible refine wG ?_)|(with_reducible refine wP ?_)))
 all_goals (try conv=>whnf)
 refine FLoop.of (ACalls.mono _) (X:=Nat) (fun i=>[(1,AI g),(2,.ptr 0 0),(5,AI (payTo p g i)),(6,AI i)]) (fun _=>[.box 4 (cPool f p)]) (fun i=>i ≤ p.folk.length) (fun i=>p.folk.length - i) 0 ⟨Nat.zero_le _,[0],Cut.A,allA⟩ ?_
 intro i hi
 have hb:=payTo_b h g i hi
 by_cases hlt:i < p.folk.length
 ·have hf:=(h.folk i hlt).2.2
  have hst:payTo p g (i + 1) = payTo p g i + if g.testBit i then (p.folk.getD i fo0).pay else 0:=rfl
  (repeat' ((try conv=>whnf);first|(with_reducible first|refine wT ?_|refine wF ?_|(refine wI (fun hq=>?_) (fun hq=>?_) <;> try simp only [zA,zE,zD,zJ,zB,zI,wK,wL] at hq)|refine wA ?_|refine wB ?_|refine wC ?_|refine wD ?_|refine wE ?_)|((with_reducible refine wN ?_ ?_);focus exact needA)|(with_reducible refine wG ?_)|(refine FCall.pure ((has_ok g i (by omega))) ⟨Ln.sameB _ rfl,Ln.sameB _ rfl,True.intro⟩ rfl ?_)|(with_reducible refine wP ?_)))
  all_goals (try conv=>whnf)
  ·rw [hq,if_pos rfl] at hst
   (exact ⟨⟨(i + 1),hlt,by show _ < _;omega,[0],Cut.A,allA⟩⟩)
  ·rw [hq,if_neg (by decide),Int.add_zero] at hst
   (exact ⟨⟨(i + 1),hlt,by show _ < _;omega,[0],Cut.A,allA⟩⟩)
 ·obtain rfl:i = p.folk.length:=by omega
  (repeat' ((try conv=>whnf);first|(with_reducible first|refine wT ?_|refine wF ?_|(refine wI (fun hq=>?_) (fun hq=>?_) <;> try simp only [zA,zE,zD,zJ,zB,zI,wK,wL] at hq)|refine wA ?_|refine wB ?_|refine wC ?_|refine wD ?_|refine wE ?_)|((with_reducible refine wN ?_ ?_);focus exact needA)|(with_reducible refine wG ?_)|(with_reducible refine wP ?_)))
  all_goals (try conv=>whnf)
  (refine ⟨⟨_,[],[],Cut.nil _,Ln.sameB _ rfl,?_,rfl⟩⟩)
  rfl
theorem refCost_ok (f:PoF) (p:Pool) (z e:Bool) (w:List Int) (h:PoolOk p) (hw:∀ k,k < w.length → 0 ≤ w.getD k 0) (hl:w.length ≤ 1000):ACall Try.prog 39 [aPool f p,aInts z e w] [] (fun r h=>r = AI (costT p w) ∧ h = []):=by
 (refine fcall_of mixed Try.func39 rfl (by decide) (hs:={}) ?k (ac:=?ac) ?c (rs:=?rs) ?r ?l ?H;(case k=>kernel_rfl);(case c=>(conv=>(lhs;cbv)));(case r=>(conv=>(lhs;cbv)));(case l=>exact Nat.le_of_ble_eq_true rfl))
 (repeat' ((try conv=>whnf);first|(with_reducible first|refine wT ?_|refine wF ?_|(refine wI (fun hq=>?_) (fun hq=>?_) <;> try simp only [zA,zE,zD,zJ,zB,zI,wK,wL] at hq)|refine wA ?_|refine wB ?_|refine wC ?_|refine wD ?_|refine wE ?_)|((with_reducible refine wN ?_ ?_);focus exact needA)|(with_reducible refine wG ?_)|(with_reducible refine wP ?_)))
 all_goals (try conv=>whnf)
 refine FLoop.of (ACalls.mono _) (X:=Nat) (fun i=>[(1,aInts z e w),(2,.ptr 0 0),(5,AI (costTo p w i)),(6,AI i)]) (fun _=>[.box 4 (cPool f p)]) (fun i=>i ≤ w.length) (fun i=>w.length - i) 0 ⟨Nat.zero_le _,[0],Cut.A,allA⟩ ?_
 intro i hi
 have hb:=costTo_b h w i
 by_cases hlt:i < w.length
 ·have c1:=refPay_ok f p (w.getD i 0).toNat h
  rw [Int.toNat_of_nonneg (hw i hlt)] at c1
  have hpb:=pay_b h (w.getD i 0).toNat
  have hst:costTo p w (i + 1) = costTo p w i + payT p (w.getD i 0).toNat:=rfl
  (repeat' ((try conv=>whnf);first|(with_reducible first|refine wT ?_|refine wF ?_|(refine wI (fun hq=>?_) (fun hq=>?_) <;> try simp only [zA,zE,zD,zJ,zB,zI,wK,wL] at hq)|refine wA ?_|refine wB ?_|refine wC ?_|refine wD ?_|refine wE ?_)|((with_reducible refine wN ?_ ?_);focus exact needA)|(with_reducible refine wG ?_)|(refine FCall.pure (c1) ⟨Ln.sameB _ rfl,Ln.sameB _ rfl,True.intro⟩ rfl ?_)|(with_reducible refine wP ?_)))
  all_goals (try conv=>whnf)
  (exact ⟨⟨(i + 1),hlt,by show _ < _;omega,[0],Cut.A,allA⟩⟩)
 ·obtain rfl:i = w.length:=by omega
  (repeat' ((try conv=>whnf);first|(with_reducible first|refine wT ?_|refine wF ?_|(refine wI (fun hq=>?_) (fun hq=>?_) <;> try simp only [zA,zE,zD,zJ,zB,zI,wK,wL] at hq)|refine wA ?_|refine wB ?_|refine wC ?_|refine wD ?_|refine wE ?_)|((with_reducible refine wN ?_ ?_);focus exact needA)|(with_reducible refine wG ?_)|(with_reducible refine wP ?_)))
  all_goals (try conv=>whnf)
  (refine ⟨⟨_,[],[],Cut.nil _,Ln.sameB _ rfl,?_,rfl⟩⟩)
  rfl
theorem covers_ok (f:PoF) (p:Pool) (s:Nat) (hs:s < p.needs.length) (h:PoolOk p):ACall Try.prog 70 [aPool f p,AI s] [] (fun r h=>r = outI (covL p s) ∧ h = []):=by
 have n8:=h.n8
 have s6:=h.s6
 have hp8:=pow8 n8
 (refine fcall_of mixed Try.func70 rfl (by decide) (hs:={}) ?k (ac:=?ac) ?c (rs:=?rs) ?r ?l ?H;(case k=>kernel_rfl);(case c=>(conv=>(lhs;cbv)));(case r=>(conv=>(lhs;cbv)));(case l=>exact Nat.le_of_ble_eq_true rfl))
 (repeat' ((try conv=>whnf);first|(with_reducible first|refine wT ?_|refine wF ?_|(refine wI (fun hq=>?_) (fun hq=>?_) <;> try simp only [zA,zE,zD,zJ,zB,zI,wK,wL] at hq)|refine wA ?_|refine wB ?_|refine wC ?_|refine wD ?_|refine wE ?_)|((with_reducible refine wN ?_ ?_);focus exact needA)|(with_reducible first|refine FBit.hasT rfl (by assumption) ?_|refine FBit.hasF rfl (by assumption) ?_|refine FBit.shrN rfl (by omega) ?_|refine FBit.half rfl ?_|refine FBit.shl1 rfl (by omega) ?_|refine Fits.inU (by omega) ?_|refine FBit.shrNI rfl (by omega) ?_|refine FBit.shrIN rfl (by omega) (by omega) ?_|refine FBit.shrI rfl (by omega) (by omega) ?_|refine FBit.shl1I rfl (by omega) ?_)|(with_reducible refine FBit.has rfl (fun hq=>?_) (fun hq=>?_))|(with_reducible first|refine FBit.and1 rfl ?_|refine FBit.andN rfl (by omega) (by omega) ?_|refine FBit.orN rfl (by omega) (by omega) ?_|refine FBit.andNotN rfl (by omega) (by omega) ?_)|(with_reducible refine wG ?_)|(with_reducible refine wP ?_)))
 all_goals (try conv=>whnf)
 refine FLoop.of (ACalls.mono _) (X:=Nat × Nat × List Int) (fun x=>[(1,AI s),(2,.ptr 0 0),(5,match x.2.1 with|0=>nilS|m + 1=>.own 1 (m + 1)),(6,AI x.1)]) (fun x=>match x.2.1 with
  | 0=>[.box 4 (cPool f p)]
  | m + 1=>[.box 4 (cPool f p),rowI (m + 1) x.2.2]) (fun x=>x.1 ≤ 2 ^ p.folk.length ∧ x.2.1 = x.2.2.length ∧ x.2.2 ++ covI p s x.1 = covL p s ∧ x.2.1 ≤ x.1) (fun x=>2 ^ p.folk.length - x.1) (0,0,[]) ⟨⟨Nat.zero_le _,rfl,rfl,Nat.le_refl _⟩,[0],Cut.A,allA⟩ ?_
 rintro ⟨i,m,l⟩ ⟨hi,hm,hl,hmi⟩
 change i ≤ 2 ^ p.folk.length at hi
 change m = l.length at hm
 change l ++ covI p s i = covL p s at hl
 change m ≤ i at hmi
 dsimp only
 have hml:m + 1 = (l ++ [(i:Int)]).length:=by rw [List.length_append,hm];rfl
 by_cases hlt:i < 2 ^ p.folk.length
 ·by_cases hk:covQ p s i = true
  ·have hs2:(l ++ [(i:Int)]) ++ covI p s (i + 1) = covL p s:=by rw [List.append_assoc,List.singleton_append,← covI_yes hlt hk];exact hl
   obtain ⟨k1,k2⟩:=covQ_d hk
   have c1:=canBe_ok f p s i (by omega) (by omega) h
   have c2:=covered_ok f p s i hs (by omega) h
   rw [canBe_nat hlt,k1] at c1
   rw [k2] at c2
   rcases m with _|m
   ·obtain rfl:l = []:=List.length_eq_zero_iff.1 hm.symm
    (repeat' ((try conv=>whnf);first|(with_reducible first|refine wT ?_|refine wF ?_|(refine wI (fun hq=>?_) (fun hq=>?_) <;> try simp only [zA,zE,zD,zJ,zB,zI,wK,wL] at hq)|refine wA ?_|refine wB ?_|refine wC ?_|refine wD ?_|refine wE ?_)|((with_reducible refine wN ?_ ?_);focus exact needA)|(with_reducible first|refine FBit.hasT rfl (by assumption) ?_|refine FBit.hasF rfl (by assumption) ?_|refine FBit.shrN rfl (by omega) ?_|refine FBit.half rfl ?_|refine FBit.shl1 rfl (by omega) ?_|refine Fits.inU (by omega) ?_|refine FBit.shrNI rfl (by omega) ?_|refine FBit.shrIN rfl (by omega) (by omega) ?_|refine FBit.shrI rfl (by omega) (by omega) ?_|refine FBit.shl1I rfl (by omega) ?_)|(with_reducible refine FBit.has rfl (fun hq=>?_) (fun hq=>?_))|(with_reducible first|refine FBit.and1 rfl ?_|refine FBit.andN rfl (by omega) (by omega) ?_|refine FBit.orN rfl (by omega) (by omega) ?_|refine FBit.andNotN rfl (by omega) (by omega) ?_)|(with_reducible refine wG ?_)|(refine FCall.pure (c1) ⟨Ln.sameB _ rfl,Ln.sameB _ rfl,Ln.sameB _ rfl,True.intro⟩ rfl ?_)|(refine FCall.pure (c2) ⟨Ln.sameB _ rfl,Ln.sameB _ rfl,Ln.sameB _ rfl,True.intro⟩ rfl ?_)|(with_reducible refine wP ?_)))
    all_goals (try conv=>whnf)
    (exact ⟨⟨(i + 1,1,[] ++ [(i:Int)]),⟨hlt,hml,hs2,Nat.succ_le_succ hmi⟩,by show _ - (i + 1) < _ - i;omega,[0,1],(by (refine wO rfl rfl rfl ?_;repeat (first|exact wX|(refine wV rfl (by first|exact LnB.rowS|exact LnB.app (fun k hk=>absurd hk (Nat.not_lt_zero k)) (fun _ _=>rfl)|exact LnB.A) ?_)|(refine CutL.gone (Nat.lt_of_lt_of_le (Nat.lt_succ_self _) (Nat.le_of_ble_eq_true rfl)) ?_)))),allA⟩⟩)
   ·(repeat' ((try conv=>whnf);first|(with_reducible first|refine wT ?_|refine wF ?_|(refine wI (fun hq=>?_) (fun hq=>?_) <;> try simp only [zA,zE,zD,zJ,zB,zI,wK,wL] at hq)|refine wA ?_|refine wB ?_|refine wC ?_|refine wD ?_|refine wE ?_)|((with_reducible refine wN ?_ ?_);focus exact needA)|(with_reducible first|refine FBit.hasT rfl (by assumption) ?_|refine FBit.hasF rfl (by assumption) ?_|refine FBit.shrN rfl (by omega) ?_|refine FBit.half rfl ?_|refine FBit.shl1 rfl (by omega) ?_|refine Fits.inU (by omega) ?_|refine FBit.shrNI rfl (by omega) ?_|refine FBit.shrIN rfl (by omega) (by omega) ?_|refine FBit.shrI rfl (by omega) (by omega) ?_|refine FBit.shl1I rfl (by omega) ?_)|(with_reducible refine FBit.has rfl (fun hq=>?_) (fun hq=>?_))|(with_reducible first|refine FBit.and1 rfl ?_|refine FBit.andN rfl (by omega) (by omega) ?_|refine FBit.orN rfl (by omega) (by omega) ?_|refine FBit.andNotN rfl (by omega) (by omega) ?_)|(with_reducible refine wG ?_)|(refine FCall.pure (c1) ⟨Ln.sameB _ rfl,Ln.sameB _ rfl,Ln.sameB _ rfl,True.intro⟩ rfl ?_)|(refine FCall.pure (c2) ⟨Ln.sameB _ rfl,Ln.sameB _ rfl,Ln.sameB _ rfl,True.intro⟩ rfl ?_)|(with_reducible refine wP ?_)))
    all_goals (try conv=>whnf)
    (exact ⟨⟨(i + 1,m + 1 + 1,l ++ [(i:Int)]),⟨hlt,hml,hs2,Nat.succ_le_succ hmi⟩,by show _ - (i + 1) < _ - i;omega,[0,2],(by (refine wO rfl rfl rfl ?_;repeat (first|exact wX|(refine wV rfl (by first|exact LnB.rowS|exact LnB.app (fun k hk o ho=>int_eq (by rw [getD_snoc,if_pos (by omega)])) (fun o ho=>by show AI _ = AI _;exact int_eq (by rw [getD_snoc,if_neg (by omega),if_pos (by omega)]))|exact LnB.A) ?_)|(refine CutL.gone (Nat.lt_of_lt_of_le (Nat.lt_succ_self _) (Nat.le_of_ble_eq_true rfl)) ?_)))),allA⟩⟩)
  ·have hk:=Bool.eq_false_iff.2 hk
   have hs2:l ++ covI p s (i + 1) = covL p s:=by rw [← covI_no hlt hk];exact hl
   have c1:=canBe_ok f p s i (by omega) (by omega) h
   have c2:=covered_ok f p s i hs (by omega) h
   rw [canBe_nat hlt] at c1
   rcases m with _|m
   ·(repeat' ((try conv=>whnf);first|(with_reducible first|refine wT ?_|refine wF ?_|(refine wI (fun hq=>?_) (fun hq=>?_) <;> try simp only [zA,zE,zD,zJ,zB,zI,wK,wL] at hq)|refine wA ?_|refine wB ?_|refine wC ?_|refine wD ?_|refine wE ?_)|((with_reducible refine wN ?_ ?_);focus exact needA)|(with_reducible first|refine FBit.hasT rfl (by assumption) ?_|refine FBit.hasF rfl (by assumption) ?_|refine FBit.shrN rfl (by omega) ?_|refine FBit.half rfl ?_|refine FBit.shl1 rfl (by omega) ?_|refine Fits.inU (by omega) ?_|refine FBit.shrNI rfl (by omega) ?_|refine FBit.shrIN rfl (by omega) (by omega) ?_|refine FBit.shrI rfl (by omega) (by omega) ?_|refine FBit.shl1I rfl (by omega) ?_)|(with_reducible refine FBit.has rfl (fun hq=>?_) (fun hq=>?_))|(with_reducible first|refine FBit.and1 rfl ?_|refine FBit.andN rfl (by omega) (by omega) ?_|refine FBit.orN rfl (by omega) (by omega) ?_|refine FBit.andNotN rfl (by omega) (by omega) ?_)|(with_reducible refine wG ?_)|(refine FCall.pure (c1) ⟨Ln.sameB _ rfl,Ln.sameB _ rfl,Ln.sameB _ rfl,True.intro⟩ rfl ?_)|(refine FCall.pure (c2) ⟨Ln.sameB _ rfl,Ln.sameB _ rfl,Ln.sameB _ rfl,True.intro⟩ rfl ?_)|(with_reducible refine wP ?_)))
    all_goals (try conv=>whnf)
    all_goals first|exact absurd (show covQ p s i = true by unfold covQ;rw [Bool.and_eq_true];exact ⟨by assumption,by assumption⟩) (by rw [hk];decide)|(exact ⟨⟨(i + 1,0,l),⟨hlt,hm,hs2,Nat.le_succ_of_le hmi⟩,by show _ - (i + 1) < _ - i;omega,[0],Cut.A,allA⟩⟩)
   ·(repeat' ((try conv=>whnf);first|(with_reducible first|refine wT ?_|refine wF ?_|(refine wI (fun hq=>?_) (fun hq=>?_) <;> try simp only [zA,zE,zD,zJ,zB,zI,wK,wL] at hq)|refine wA ?_|refine wB ?_|refine wC ?_|refine wD ?_|refine wE ?_)|((with_reducible refine wN ?_ ?_);focus exact needA)|(with_reducible first|refine FBit.hasT rfl (by assumption) ?_|refine FBit.hasF rfl (by assumption) ?_|refine FBit.shrN rfl (by omega) ?_|refine FBit.half rfl ?_|refine FBit.shl1 rfl (by omega) ?_|refine Fits.inU (by omega) ?_|refine FBit.shrNI rfl (by omega) ?_|refine FBit.shrIN rfl (by omega) (by omega) ?_|refine FBit.shrI rfl (by omega) (by omega) ?_|refine FBit.shl1I rfl (by omega) ?_)|(with_reducible refine FBit.has rfl (fun hq=>?_) (fun hq=>?_))|(with_reducible first|refine FBit.and1 rfl ?_|refine FBit.andN rfl (by omega) (by omega) ?_|refine FBit.orN rfl (by omega) (by omega) ?_|refine FBit.andNotN rfl (by omega) (by omega) ?_)|(with_reducible refine wG ?_)|(refine FCall.pure (c1) ⟨Ln.sameB _ rfl,Ln.sameB _ rfl,Ln.sameB _ rfl,True.intro⟩ rfl ?_)|(refine FCall.pure (c2) ⟨Ln.sameB _ rfl,Ln.sameB _ rfl,Ln.sameB _ rfl,True.intro⟩ rfl ?_)|(with_reducible refine wP ?_)))
    all_goals (try conv=>whnf)
    all_goals first|exact absurd (show covQ p s i = true by unfold covQ;rw [Bool.and_eq_true];exact ⟨by assumption,by assumption⟩) (by rw [hk];decide)|(exact ⟨⟨(i + 1,m + 1,l),⟨hlt,hm,hs2,Nat.le_succ_of_le hmi⟩,by show _ - (i + 1) < _ - i;omega,[0,1],Cut.A,allA⟩⟩)
 ·have hE:covL p s = l:=by rw [← hl,covI_end (by omega),List.append_nil]
  rcases m with _|m
  ·obtain rfl:l = []:=List.length_eq_zero_iff.1 hm.symm
   (repeat' ((try conv=>whnf);first|(with_reducible first|refine wT ?_|refine wF ?_|(refine wI (fun hq=>?_) (fun hq=>?_) <;> try simp only [zA,zE,zD,zJ,zB,zI,wK,wL] at hq)|refine wA ?_|refine wB ?_|refine wC ?_|refine wD ?_|refine wE ?_)|((with_reducible refine wN ?_ ?_);focus exact needA)|(with_reducible first|refine FBit.hasT rfl (by assumption) ?_|refine FBit.hasF rfl (by assumption) ?_|refine FBit.shrN rfl (by omega) ?_|refine FBit.half rfl ?_|refine FBit.shl1 rfl (by omega) ?_|refine Fits.inU (by omega) ?_|refine FBit.shrNI rfl (by omega) ?_|refine FBit.shrIN rfl (by omega) (by omega) ?_|refine FBit.shrI rfl (by omega) (by omega) ?_|refine FBit.shl1I rfl (by omega) ?_)|(with_reducible refine FBit.has rfl (fun hq=>?_) (fun hq=>?_))|(with_reducible first|refine FBit.and1 rfl ?_|refine FBit.andN rfl (by omega) (by omega) ?_|refine FBit.orN rfl (by omega) (by omega) ?_|refine FBit.andNotN rfl (by omega) (by omega) ?_)|(with_reducible refine wG ?_)|(refine FCall.pure (c1) ⟨Ln.sameB _ rfl,Ln.sameB _ rfl,Ln.sameB _ rfl,True.intro⟩ rfl ?_)|(refine FCall.pure (c2) ⟨Ln.sameB _ rfl,Ln.sameB _ rfl,Ln.sameB _ rfl,True.intro⟩ rfl ?_)|(with_reducible refine wP ?_)))
   all_goals (try conv=>whnf)
   rw [hE]
   exact ⟨⟨outI [],[],[],Cut.nil _,Ln.slz _ _ _ _ _ _ _ (by decide),rfl,rfl⟩⟩
  ·(repeat' ((try conv=>whnf);first|(with_reducible first|refine wT ?_|refine wF ?_|(refine wI (fun hq=>?_) (fun hq=>?_) <;> try simp only [zA,zE,zD,zJ,zB,zI,wK,wL] at hq)|refine wA ?_|refine wB ?_|refine wC ?_|refine wD ?_|refine wE ?_)|((with_reducible refine wN ?_ ?_);focus exact needA)|(with_reducible first|refine FBit.hasT rfl (by assumption) ?_|refine FBit.hasF rfl (by assumption) ?_|refine FBit.shrN rfl (by omega) ?_|refine FBit.half rfl ?_|refine FBit.shl1 rfl (by omega) ?_|refine Fits.inU (by omega) ?_|refine FBit.shrNI rfl (by omega) ?_|refine FBit.shrIN rfl (by omega) (by omega) ?_|refine FBit.shrI rfl (by omega) (by omega) ?_|refine FBit.shl1I rfl (by omega) ?_)|(with_reducible refine FBit.has rfl (fun hq=>?_) (fun hq=>?_))|(with_reducible first|refine FBit.and1 rfl ?_|refine FBit.andN rfl (by omega) (by omega) ?_|refine FBit.orN rfl (by omega) (by omega) ?_|refine FBit.andNotN rfl (by omega) (by omega) ?_)|(with_reducible refine wG ?_)|(refine FCall.pure (c1) ⟨Ln.sameB _ rfl,Ln.sameB _ rfl,Ln.sameB _ rfl,True.intro⟩ rfl ?_)|(refine FCall.pure (c2) ⟨Ln.sameB _ rfl,Ln.sameB _ rfl,Ln.sameB _ rfl,True.intro⟩ rfl ?_)|(with_reducible refine wP ?_)))
   all_goals (try conv=>whnf)
   rw [hE,outI_of hm]
   exact ⟨⟨aInts false false l,[],[],Cut.nil _,Ln.pubE (goneB rfl) rfl (Nat.le_refl _) hm (fun _ _ _ _=>rfl),rfl,rfl⟩⟩
end Go.Proofs.Ytbhjehpjjbbhbaa
