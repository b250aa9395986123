/- Teams: the program's far. / Teams: the program's broken. / Teams: the program's Broken. / Teams: the program's May (printed by gen_ter.py). / Teams: the program's Team. / Teams: what the best team, the fewest rules and the vital people are / Teams: the program's Why. / Teams: the program's Chain. -/
import Derived.Test.YtdipcdallenmkaaBt8
import Derived.Test.YtdipcdallenmkaaBt7
set_option linter.unusedSimpArgs false
set_option linter.unusedVariables false
namespace Go.Proofs.Ytdipcdallenmkaa
open Go.RowKit

abbrev rowN (L:List Nat):AB:=.row L.length 1 (fun k _=>AI ((L.getD k 0:Nat):Int))
abbrev one0 (t:Nat):AV:=.sl false true 1 1 (fun _ _=>AI t)
theorem drop_c {L:List Nat} {k h:Nat} {l:List Nat} (e:L.drop k = h :: l):k < L.length ∧ L.getD k 0 = h ∧ L.drop (k + 1) = l ∧ L.length = k + 1 + l.length:=by
 have hk:k < L.length:=by
  rcases Nat.lt_or_ge k L.length with h'|h'
  ·exact h'
  ·rw [List.drop_eq_nil_of_le h'] at e;cases e
 rw [drop_eq 0 hk] at e
 injection e with e1 e2
 refine ⟨hk,e1,e2,?_⟩
 have:=congrArg List.length e2
 rw [List.length_drop] at this
 omega
theorem cntU_le (g:Nat → Int):∀ n,cntU g n ≤ n
 | 0=>Nat.le_refl _
 | k + 1=>by
  have:=cntU_le g k
  simp only [cntU]
  split <;> omega
theorem bnd_0 {n t:Nat}:∀ y,y < n → updI (fun _=>-1) t 0 y + cntU (updI (fun _=>-1) t 0) n ≤ n:=fun y _=>by
 have:=cntU_le (updI (fun _=>-1) t 0) n
 by_cases e:y = t
 ·rw [show updI (fun _=>-1) t 0 y = 0 from if_pos e];omega
 ·rw [show updI (fun _=>-1) t 0 y = -1 from if_neg e];omega
theorem bnd_push {n p:Nat} {g:Nat → Int} {v:Int} (h:∀ y,y < n → g y + cntU g n ≤ n) (hp:p < n) (hg:g p < 0) (hv:0 ≤ v) (hv2:v + cntU g n ≤ n + 1):∀ y,y < n → updI g p v y + cntU (updI g p v) n ≤ n:=fun y hy=>by
 have:=cntU_upd hg hv hp
 have:=h y hy
 by_cases e:y = p
 ·rw [show updI g p v y = v from if_pos e];omega
 ·rw [show updI g p v y = g y from if_neg e];omega
theorem Ln.oslE {σ:Nat → Nat → Prop} {Bp:Nat → Prop} {H:List AB} {d sz lo n n' i:Nat} (h:σ d i) (e:n = n'):Ln σ Bp H (.osl d sz lo n) (.osl i sz lo n'):=e ▸ .osl d sz lo n i h
theorem Ln.osl0E {σ:Nat → Nat → Prop} {Bp:Nat → Prop} {H:List AB} {d sz n n' i:Nat} (h:σ d i) (e:n = n'):Ln σ Bp H (.own d n) (.osl i sz 0 n'):=e ▸ .osl0 d sz n i h
theorem no_step {R:Nat → Nat → Bool} {g:Nat → Int} {h p:Nat} (hno:∀ y,y < p → R h y = true → 0 ≤ g y) (k:R h p = false ∨ 0 ≤ g p):∀ y,y < p + 1 → R h y = true → 0 ≤ g y:=fun y hy hR=>by
 by_cases e:y = p
 ·subst e
  rcases k with k|k
  ·rw [k] at hR;cases hR
  ·exact k
 ·exact hno y (by omega) hR
theorem no_push {R:Nat → Nat → Bool} {g:Nat → Int} {h p:Nat} {v:Int} (hno:∀ y,y < p → R h y = true → 0 ≤ g y) (hv:0 ≤ v):∀ y,y < p + 1 → R h y = true → 0 ≤ updI g p v y:=fun y hy hR=>by
 by_cases e:y = p
 ·rw [show updI g p v y = v from if_pos e];exact hv
 ·rw [show updI g p v y = g y from if_neg e];exact hno y (by omega) hR
theorem len_sn {L:List Nat} {p:Nat}:(L ++ [p]).length = L.length + 1:=by simp
theorem drop_sn {L l:List Nat} {k h p:Nat} (e:L.drop k = h :: l):(L ++ [p]).drop (k + 1 - 1) = h :: (l ++ [p]):=by
 have hk:=(drop_c e).1
 show (L ++ [p]).drop k = _
 rw [List.drop_append_of_le_length (by omega),e];rfl
theorem getD_sn (L:List Nat) (p i:Nat):(L ++ [p]).getD i 0 = if i < L.length then L.getD i 0 else if i = L.length then p else 0:=by
 simp only [List.getD]
 by_cases h:i < L.length
 ·rw [if_pos h,List.getElem?_append_left h]
 ·rw [if_neg h,List.getElem?_append_right (by omega)]
  by_cases h2:i = L.length
  ·subst h2;simp
  ·rw [if_neg h2,List.getElem?_eq_none (by simp;omega)];rfl
theorem row_sn {L:List Nat} {p k i o:Nat} {z:Nat → Nat → AV} (hk:k ≤ L.length) (hi:i < L.length + 1) (ho:o < 1):AI (((L ++ [p]).getD i 0:Nat):Int) = appc (k + (L.length - k)) (fun k _=>AI ((L.getD k 0:Nat):Int)) (bslC z [(0,AI (p:Int))]) i o:=by
 rw [getD_sn]
 simp only [appc]
 by_cases h:i < L.length
 ·rw [if_pos h,if_pos (by omega)]
 ·rw [if_neg h,if_pos (by omega),if_neg (by omega),show i - (k + (L.length - k)) = 0 by omega]
  rfl
theorem row_dr {L:List Nat} {p k i o:Nat} {z:Nat → Nat → AV} (hi:i < L.length - k + 1) (ho:o < 1):AI (((L.drop k ++ [p]).getD i 0:Nat):Int) = appc (L.length - k) (fun i=>(fun k _=>AI ((L.getD k 0:Nat):Int)) (k + i)) (bslC z [(0,AI (p:Int))]) i o:=by
 rw [getD_sn,List.length_drop]
 simp only [appc]
 by_cases h:i < L.length - k
 ·rw [if_pos h,if_pos h]
  simp [List.getD]
 ·rw [if_neg h,if_pos (by omega),if_neg h,show i - (L.length - k) = 0 by omega]
  rfl
/-- What is so in the round of the head h, when p languages were looked at. -/
def FI (n:Nat) (R:Nat → Nat → Bool) (t h M0 p e:Nat) (g:Nat → Int) (L:List Nat):Prop :=
 p ≤ n ∧ (∃ l,L.drop (e - 1) = h :: l ∧ BInv n R t g (h :: l)) ∧ (∀ y,y < p → R h y = true → 0 ≤ g y) ∧ L.length + cntU g n ≤ n + 1 ∧ (e = 0 → L = [t]) ∧ cntU g n + (L.length - (e - 1)) = M0 ∧ e - 1 ≤ L.length ∧ ∀ y,y < n → g y + cntU g n ≤ n
set_option maxHeartbeats 4000000
set_option maxRecDepth 100000
theorem far_ok (f:CFl) (c:Crew) (j:Job) (x:LawT) (s n t:Nat) (hc:c.ok = true) (hn:c.langs = n) (ht:j.to = t) (htn:t < n):ACall Try.prog 46 [pTask f c j x,AU s] [] (fun r h=>r = aInts false false (distL n (relT c s x.level) t) ∧ h = []):=by
 obtain ⟨d1,d2,d3,d4,d5⟩:=crew_d hc
 have ht0:0 ≤ j.to:=by omega
 obtain rfl:t = j.to.toNat:=by omega
 clear ht
 have hrep:=repeat_ok n (by omega)
 rw [← hn] at hrep
 (refine fcall_of mixed Try.func46 rfl (by decide) (hs:={}) ?k (ac:=?ac) ?c (rs:=?rs) ?r ?l ?H;(case k=>kernel_rfl);(case c=>(conv=>(lhs;cbv)));(case r=>(conv=>(lhs;cbv)));(case l=>exact Nat.le_of_ble_eq_true rfl))
 (repeat' ((try conv=>whnf);first|(with_reducible first|refine wT ?_|refine wF ?_|(refine wI (fun hq=>?_) (fun hq=>?_) <;> try simp only [zA,zE,zD,zJ,zB,zI,wK,wL] at hq)|refine wA ?_|refine wB ?_|refine wC ?_|refine wD ?_|refine wE ?_)|((with_reducible refine wN ?_ ?_);focus exact needA)|(with_reducible refine wG ?_)|((refine FCall.give [] [] (hrep) rfl rfl True.intro ⟨(Ln.sl _ _ _ _ _ _ _ (fun _=>rfl) (fun k hk o ho=>by obtain rfl:k = 0:=(by omega);rfl)),Ln.A,True.intro⟩ ?_);rintro _ _ ⟨rfl,rfl⟩;(refine ⟨by first|exact Nat.le_of_ble_eq_true rfl|omega,.inl rfl,?_⟩))|(with_reducible refine wP ?_)))
 all_goals (try conv=>whnf)
 generalize hR:relT c s x.level = R
 refine FLoop.of3 (ACalls.mono _) (fun (e:Nat) (g:Nat → Int) (L:List Nat)=>[(0,pTask f c j x),(1,AU s),(5,.own 0 n),(6,match e,L with|0,[]=>.sl false false 0 1 (fun _ _=>.bot)|0,_ :: _=>one0 j.to.toNat|k + 1,L=>.osl 1 1 k (L.length - k))]) (fun e g L=>match e with
  | 0=>[rowG n g]
  | _ + 1=>[rowG n g,rowN L]) (fun e g L=>BInv n R j.to.toNat g (L.drop (e - 1)) ∧ L.length + cntU g n ≤ n + 1 ∧ (e = 0 → L = [] ∨ L = [j.to.toNat]) ∧ e - 1 ≤ L.length ∧ ∀ y,y < n → g y + cntU g n ≤ n) (fun e g L=>cntU g n + (L.length - (e - 1))) 0 (updI (fun _=>-1) j.to.toNat 0) [j.to.toNat] ⟨⟨BInv.begin htn,?ini,fun _=>.inr rfl,Nat.zero_le _,bnd_0⟩,[0],?cut,?vals⟩ ?_
 case ini =>
  have:=cntU_upd (g:=fun _=>-1) (p:=j.to.toNat) (v:=0) (by omega) (by omega) htn
  have h2:=cntU_le (fun _=>-1) n
  show 1 + _ ≤ _
  omega
 case cut=>exact wO rfl rfl rfl (wV rfl LnB.setG wX)
 case vals=>exact ⟨Ln.A,Ln.A,Ln.A,Ln.sl _ _ _ _ _ _ _ (fun _=>rfl) (fun k hk o ho=>by obtain rfl:k = 0:=(by omega);exact int_eq (Int.toNat_of_nonneg ht0)),True.intro⟩
 rintro e g L ⟨hB,hL,h0,hle,hbd⟩
 have hcu:=cntU_le g n
 rcases hq:L.drop (e - 1) with _|⟨h,l⟩
 ·rw [hq] at hB
  have hLe:L.length - (e - 1) = 0:=by rw [← List.length_drop,hq];rfl
  have fin:∀ (B:AB),True:=fun _=>trivial
  rcases e with _|k
  ·obtain rfl:L = []:=by rcases h0 rfl with h|h;exact h;rw [h] at hLe;cases hLe
   (repeat' ((try conv=>whnf);first|(with_reducible first|refine wT ?_|refine wF ?_|(refine wI (fun hq=>?_) (fun hq=>?_) <;> try simp only [zA,zE,zD,zJ,zB,zI,wK,wL] at hq)|refine wA ?_|refine wB ?_|refine wC ?_|refine wD ?_|refine wE ?_)|((with_reducible refine wN ?_ ?_);focus exact needA)|(with_reducible refine wG ?_)|(with_reducible refine wP ?_)))
   all_goals (try conv=>whnf)
   exact ⟨⟨aInts false false (distL n R j.to.toNat),[],[],Cut.nil _,Ln.pubE (goneB rfl) rfl (Nat.le_refl _) (by simp [distL]) (fun y hy _ _=>int_eq (by rw [distL,getD_range hy,hB.fin htn hy])),rfl,rfl⟩⟩
  ·have hk:L.length - k = 0:=hLe
   (repeat' ((try conv=>whnf);first|(with_reducible first|refine wT ?_|refine wF ?_|(refine wI (fun hq=>?_) (fun hq=>?_) <;> try simp only [zA,zE,zD,zJ,zB,zI,wK,wL] at hq)|refine wA ?_|refine wB ?_|refine wC ?_|refine wD ?_|refine wE ?_)|((with_reducible refine wN ?_ ?_);focus exact needA)|(with_reducible refine wG ?_)|(with_reducible refine wP ?_)))
   all_goals (try conv=>whnf)
   exact ⟨⟨aInts false false (distL n R j.to.toNat),[],[],Cut.nil _,Ln.pubE (goneB rfl) rfl (Nat.le_refl _) (by simp [distL]) (fun y hy _ _=>int_eq (by rw [distL,getD_range hy,hB.fin htn hy])),rfl,rfl⟩⟩
 ·rw [hq] at hB
  have hh:=hB.mem h (by simp)
  obtain ⟨q1,q2,q3,q4⟩:=drop_c hq
  obtain ⟨M0,hM0⟩:∃ M0,cntU g n + (L.length - (e - 1)) = M0:=⟨_,rfl⟩
  rcases e with _|k
  ·have hL0:L = [j.to.toNat]:=by
    rcases h0 rfl with h|h
    ·rw [h] at hq;cases hq
    ·exact h
   subst hL0
   (repeat' ((try conv=>whnf);first|(with_reducible first|refine wT ?_|refine wF ?_|(refine wI (fun hq=>?_) (fun hq=>?_) <;> try simp only [zA,zE,zD,zJ,zB,zI,wK,wL] at hq)|refine wA ?_|refine wB ?_|refine wC ?_|refine wD ?_|refine wE ?_)|((with_reducible refine wN ?_ ?_);focus exact needA)|(with_reducible refine wG ?_)|(with_reducible refine wP ?_)))
   all_goals (try conv=>whnf)
   refine FLoop.of4 (ACalls.mono _) (fun (p e:Nat) (g:Nat → Int) (L:List Nat)=>[(0,pTask f c j x),(1,AU s),(5,.own 0 n),(6,match e with|0=>one0 j.to.toNat|k + 1=>.osl 1 1 k (L.length - k)),(34,AI n),(35,AI p)]) (fun p e g L=>match e with
    | 0=>[rowG n g]
    | _ + 1=>[rowG n g,rowN L]) (fun p e g L=>FI n R j.to.toNat h M0 p e g L) (fun p e g L=>n - p) 0 0 g [j.to.toNat] ⟨⟨Nat.zero_le _,⟨l,hq,hB⟩,fun y hy=>by omega,hL,fun _=>rfl,hM0,hle,hbd⟩,[0],Cut.A,allA⟩ ?_
   rintro p e g L ⟨hp,⟨l,hq,hB⟩,hno,hL,h0,hM,hle,hbd⟩
   have hcu:=cntU_le g n
   obtain ⟨q1,q2,q3,q4⟩:=drop_c hq
   have hh:=hB.mem h (by simp)
   by_cases hlt:p < n
   ·rcases e with _|k
    ·have hL1:=h0 rfl
     subst hL1
     have hht:h = j.to.toNat:=q2.symm
     subst hht
     have hgs:=hB.start
     have hj:=joined_ok f c j x s j.to.toNat p hc (by omega) (by omega)
     rw [hR] at hj
     have hl0:l = []:=by have hq2:[j.to.toNat] = j.to.toNat :: l:=hq;injection hq2 with _ e;exact e.symm
     subst hl0
     (repeat' ((try conv=>whnf);first|(with_reducible first|refine wT ?_|refine wF ?_|(refine wI (fun hq=>?_) (fun hq=>?_) <;> try simp only [zA,zE,zD,zJ,zB,zI,wK,wL] at hq)|refine wA ?_|refine wB ?_|refine wC ?_|refine wD ?_|refine wE ?_)|((with_reducible refine wN ?_ ?_);focus exact needA)|(with_reducible refine wG ?_)|(refine FCall.pure (hj) ⟨Ln.sameB _ rfl,Ln.sameB _ rfl,Ln.sameB _ rfl,Ln.sameB _ rfl,True.intro⟩ rfl ?_)|(with_reducible refine wP ?_)))
     all_goals (try conv=>whnf)
     ·have hcn:=cntU_upd (g:=g) (p:=p) (v:=g j.to.toNat + 1) (by assumption) (by omega) hlt
      have hpush:=hB.push hlt (by assumption) hq
      have hbp:=bnd_push (v:=g j.to.toNat + 1) hbd hlt (by assumption) (by omega) (by have:=hbd _ hh.1;omega)
      refine ⟨⟨p + 1,1,updI g p (g j.to.toNat + 1),[j.to.toNat,p],⟨hlt,⟨[p],rfl,hpush⟩,no_push hno (by omega),by show 2 + _ ≤ _;have:1 + cntU g n ≤ n + 1:=hL;omega,(fun h=>by cases h),by show _ + 2 = _;have:cntU g n + 1 = M0:=hM;omega,Nat.zero_le _,hbp⟩,by show n - (p + 1) < n - p;omega,[0,1],?_,⟨Ln.A,Ln.A,Ln.A,Ln.osl0E rfl rfl,Ln.A,Ln.A,True.intro⟩⟩⟩
      exact wO rfl rfl rfl (wV rfl LnB.setG (wV rfl (LnB.app (fun k hk o ho=>by obtain rfl:k = 0:=(by omega);rfl) (fun o ho=>rfl)) wX))
     ·(exact ⟨⟨(p + 1),0,g,[j.to.toNat],⟨hlt,⟨[],rfl,hB⟩,no_step hno (.inl hq),hL,fun _=>rfl,hM,Nat.zero_le _,hbd⟩,by show n - (p + 1) < n - p;omega,[0],Cut.A,allA⟩⟩)
     ·(exact ⟨⟨(p + 1),0,g,[j.to.toNat],⟨hlt,⟨[],rfl,hB⟩,no_step hno (.inr hq),hL,fun _=>rfl,hM,Nat.zero_le _,hbd⟩,by show n - (p + 1) < n - p;omega,[0],Cut.A,allA⟩⟩)
    ·have q1:k < L.length:=q1
     have q2:L.getD k 0 = h:=q2
     have q4:L.length = k + 1 + l.length:=q4
     have hqd:L.drop k = h :: l:=hq
     subst q2
     have hj:=joined_ok f c j x s (L.getD k 0) p hc (by have:=hh.1;omega) (by omega)
     rw [hR] at hj
     have hhb:=hbd _ hh.1
     have hq5:L.length - k = l.length + 1:=by have:=q4;omega
     (repeat' ((try conv=>whnf);first|(with_reducible first|refine wT ?_|refine wF ?_|(refine wI (fun hq=>?_) (fun hq=>?_) <;> try simp only [zA,zE,zD,zJ,zB,zI,wK,wL] at hq)|refine wA ?_|refine wB ?_|refine wC ?_|refine wD ?_|refine wE ?_)|((with_reducible refine wN ?_ ?_);focus exact needA)|(refine FCall.pure (hj) ⟨Ln.sameB _ rfl,Ln.sameB _ rfl,Ln.sameB _ rfl,Ln.sameB _ rfl,True.intro⟩ rfl ?_)|(refine Fits.in64 (show -9223372036854775808 ≤ g (L.getD k 0) + 1 ∧ g (L.getD k 0) + 1 ≤ 9223372036854775807 by omega) ?_)|(refine FIdx.nat (show L.getD k 0 < n by omega) ?_)|(refine Need.mk (show L.getD k 0 < n by omega) ?_)|(refine FApp.share (Need.mk (by omega) (Need.mk ?_ ?_)))|(with_reducible refine wP ?_)))
     all_goals (try conv=>whnf)
     ·have hcn:=cntU_upd (g:=g) (p:=p) (v:=g (L.getD k 0) + 1) (by assumption) (by omega) hlt
      have hpush:=hB.push hlt (by assumption) hq
      have hbp:=bnd_push (v:=g (L.getD k 0) + 1) hbd hlt (by assumption) (by omega) (by omega)
      refine ⟨⟨p + 1,k + 1,updI g p (g (L.getD k 0) + 1),L ++ [p],⟨hlt,⟨l ++ [p],drop_sn hqd,hpush⟩,no_push hno (by omega),by rw [len_sn];omega,(fun h=>by cases h),by rw [len_sn];have hM2:cntU g n + (L.length - k) = M0:=hM;show _ + (L.length + 1 - k) = _;omega,by rw [len_sn];show k ≤ _;omega,hbp⟩,by show n - (p + 1) < n - p;omega,[0,1],?_,⟨Ln.A,Ln.A,Ln.A,Ln.oslE rfl (by rw [len_sn];omega),Ln.A,Ln.A,True.intro⟩⟩⟩
      exact wO rfl rfl rfl (wV rfl LnB.setG (wV rfl (LnB.rowE (by rw [len_sn];omega) (fun i hi o ho=>row_sn (by omega) (by rw [len_sn] at hi;omega) ho)) wX))
     ·have hcn:=cntU_upd (g:=g) (p:=p) (v:=g (L.getD k 0) + 1) (by assumption) (by omega) hlt
      have hpush:=hB.push hlt (by assumption) hq
      have hbp:=bnd_push (v:=g (L.getD k 0) + 1) hbd hlt (by assumption) (by omega) (by omega)
      have hdl:(L.drop k).length = L.length - k:=List.length_drop
      have hnl:(L.drop k ++ [p]).length - 0 = L.length - k + (0 + 1):=by rw [len_sn,hdl];omega
      refine ⟨⟨p + 1,1,updI g p (g (L.getD k 0) + 1),L.drop k ++ [p],⟨hlt,⟨l ++ [p],by show L.drop k ++ [p] = _;rw [hqd];rfl,hpush⟩,no_push hno (by omega),by rw [len_sn,hdl];omega,(fun h=>by cases h),by rw [len_sn,hdl];have hM2:cntU g n + (L.length - k) = M0:=hM;show _ + (L.length - k + 1 - 0) = _;omega,Nat.zero_le _,hbp⟩,by show n - (p + 1) < n - p;omega,[0,2],?_,⟨Ln.A,Ln.A,Ln.A,Ln.osl0E rfl hnl.symm,Ln.A,Ln.A,True.intro⟩⟩⟩
      exact wO rfl rfl rfl (wV rfl LnB.setG (wV rfl (LnB.rowE (by rw [len_sn,hdl];omega) (fun i hi o ho=>row_dr (by rw [len_sn,hdl] at hi;omega) ho)) wX))
     ·refine ⟨⟨p + 1,k + 1,g,L,⟨hlt,⟨l,hqd,hB⟩,no_step hno (.inl hq),hL,(fun h=>by cases h),hM,hle,hbd⟩,by show n - (p + 1) < n - p;omega,[0,1],Cut.A,⟨Ln.A,Ln.A,Ln.A,Ln.oslE rfl rfl,Ln.A,Ln.A,True.intro⟩⟩⟩
     ·refine ⟨⟨p + 1,k + 1,g,L,⟨hlt,⟨l,hqd,hB⟩,no_step hno (.inr hq),hL,(fun h=>by cases h),hM,hle,hbd⟩,by show n - (p + 1) < n - p;omega,[0,1],Cut.A,⟨Ln.A,Ln.A,Ln.A,Ln.oslE rfl rfl,Ln.A,Ln.A,True.intro⟩⟩⟩
   ·have hpn:p = n:=by omega
    subst hpn
    have hpop:=hB.pop (fun y hy hRy=>hno y hy hRy)
    rcases e with _|k
    ·have hL1:=h0 rfl
     subst hL1
     have hl0:l = []:=by have hq2:[j.to.toNat] = h :: l:=hq;injection hq2 with _ e;exact e.symm
     subst hl0
     (repeat' ((try conv=>whnf);first|(with_reducible first|refine wT ?_|refine wF ?_|(refine wI (fun hq=>?_) (fun hq=>?_) <;> try simp only [zA,zE,zD,zJ,zB,zI,wK,wL] at hq)|refine wA ?_|refine wB ?_|refine wC ?_|refine wD ?_|refine wE ?_)|((with_reducible refine wN ?_ ?_);focus exact needA)|(with_reducible refine wG ?_)|(with_reducible refine wP ?_)))
     all_goals (try conv=>whnf)
     (exact ⟨⟨0,g,[],⟨hpop,by show 0 + cntU g p ≤ _;omega,fun _=>.inl rfl,Nat.zero_le _,hbd⟩,by have h1:cntU g p + 1 = M0:=hM;have h2:=hM0;show cntU g p + 0 < _;omega,[0],Cut.A,allA⟩⟩)
    ·have q1:k < L.length:=q1
     have q3:L.drop (k + 1) = l:=q3
     (repeat' ((try conv=>whnf);first|(with_reducible first|refine wT ?_|refine wF ?_|(refine wI (fun hq=>?_) (fun hq=>?_) <;> try simp only [zA,zE,zD,zJ,zB,zI,wK,wL] at hq)|refine wA ?_|refine wB ?_|refine wC ?_|refine wD ?_|refine wE ?_)|((with_reducible refine wN ?_ ?_);focus exact needA)|(with_reducible refine wG ?_)|(with_reducible refine wP ?_)))
     all_goals (try conv=>whnf)
     refine ⟨⟨k + 2,g,L,⟨by show BInv _ _ _ g (L.drop (k + 1));rw [q3];exact hpop,hL,(fun h=>by cases h),by show k + 1 ≤ _;omega,hbd⟩,by have h1:cntU g p + (L.length - k) = M0:=hM;have h2:=hM0;show cntU g p + (L.length - (k + 1)) < _;omega,[0,1],Cut.A,⟨Ln.A,Ln.A,Ln.A,Ln.oslE rfl (by omega),True.intro⟩⟩⟩
  ·(repeat' ((try conv=>whnf);first|(with_reducible first|refine wT ?_|refine wF ?_|(refine wI (fun hq=>?_) (fun hq=>?_) <;> try simp only [zA,zE,zD,zJ,zB,zI,wK,wL] at hq)|refine wA ?_|refine wB ?_|refine wC ?_|refine wD ?_|refine wE ?_)|((with_reducible refine wN ?_ ?_);focus exact needA)|(with_reducible refine wG ?_)|(with_reducible refine wP ?_)))
   all_goals (try conv=>whnf)
   refine FLoop.of4 (ACalls.mono _) (fun (p e:Nat) (g:Nat → Int) (L:List Nat)=>[(0,pTask f c j x),(1,AU s),(5,.own 0 n),(6,match e with|0=>one0 j.to.toNat|k + 1=>.osl 1 1 k (L.length - k)),(34,AI n),(35,AI p)]) (fun p e g L=>match e with
    | 0=>[rowG n g]
    | _ + 1=>[rowG n g,rowN L]) (fun p e g L=>FI n R j.to.toNat h M0 p e g L) (fun p e g L=>n - p) 0 (k + 1) g L ⟨⟨Nat.zero_le _,⟨l,hq,hB⟩,fun y hy=>by omega,hL,(fun h=>by cases h),hM0,hle,hbd⟩,[0,1],Cut.A,⟨Ln.A,Ln.A,Ln.A,Ln.oslE rfl rfl,Ln.A,Ln.A,True.intro⟩⟩ ?_
   rintro p e g L ⟨hp,⟨l,hq,hB⟩,hno,hL,h0,hM,hle,hbd⟩
   have hcu:=cntU_le g n
   obtain ⟨q1,q2,q3,q4⟩:=drop_c hq
   have hh:=hB.mem h (by simp)
   by_cases hlt:p < n
   ·rcases e with _|k
    ·have hL1:=h0 rfl
     subst hL1
     have hht:h = j.to.toNat:=q2.symm
     subst hht
     have hgs:=hB.start
     have hj:=joined_ok f c j x s j.to.toNat p hc (by omega) (by omega)
     rw [hR] at hj
     have hl0:l = []:=by have hq2:[j.to.toNat] = j.to.toNat :: l:=hq;injection hq2 with _ e;exact e.symm
     subst hl0
     (repeat' ((try conv=>whnf);first|(with_reducible first|refine wT ?_|refine wF ?_|(refine wI (fun hq=>?_) (fun hq=>?_) <;> try simp only [zA,zE,zD,zJ,zB,zI,wK,wL] at hq)|refine wA ?_|refine wB ?_|refine wC ?_|refine wD ?_|refine wE ?_)|((with_reducible refine wN ?_ ?_);focus exact needA)|(with_reducible refine wG ?_)|(refine FCall.pure (hj) ⟨Ln.sameB _ rfl,Ln.sameB _ rfl,Ln.sameB _ rfl,Ln.sameB _ rfl,True.intro⟩ rfl ?_)|(with_reducible refine wP ?_)))
     all_goals (try conv=>whnf)
     ·have hcn:=cntU_upd (g:=g) (p:=p) (v:=g j.to.toNat + 1) (by assumption) (by omega) hlt
      have hpush:=hB.push hlt (by assumption) hq
      have hbp:=bnd_push (v:=g j.to.toNat + 1) hbd hlt (by assumption) (by omega) (by have:=hbd _ hh.1;omega)
      refine ⟨⟨p + 1,1,updI g p (g j.to.toNat + 1),[j.to.toNat,p],⟨hlt,⟨[p],rfl,hpush⟩,no_push hno (by omega),by show 2 + _ ≤ _;have:1 + cntU g n ≤ n + 1:=hL;omega,(fun h=>by cases h),by show _ + 2 = _;have:cntU g n + 1 = M0:=hM;omega,Nat.zero_le _,hbp⟩,by show n - (p + 1) < n - p;omega,[0,1],?_,⟨Ln.A,Ln.A,Ln.A,Ln.osl0E rfl rfl,Ln.A,Ln.A,True.intro⟩⟩⟩
      exact wO rfl rfl rfl (wV rfl LnB.setG (wV rfl (LnB.app (fun k hk o ho=>by obtain rfl:k = 0:=(by omega);rfl) (fun o ho=>rfl)) wX))
     ·(exact ⟨⟨(p + 1),0,g,[j.to.toNat],⟨hlt,⟨[],rfl,hB⟩,no_step hno (.inl hq),hL,fun _=>rfl,hM,Nat.zero_le _,hbd⟩,by show n - (p + 1) < n - p;omega,[0],Cut.A,allA⟩⟩)
     ·(exact ⟨⟨(p + 1),0,g,[j.to.toNat],⟨hlt,⟨[],rfl,hB⟩,no_step hno (.inr hq),hL,fun _=>rfl,hM,Nat.zero_le _,hbd⟩,by show n - (p + 1) < n - p;omega,[0],Cut.A,allA⟩⟩)
    ·have q1:k < L.length:=q1
     have q2:L.getD k 0 = h:=q2
     have q4:L.length = k + 1 + l.length:=q4
     have hqd:L.drop k = h :: l:=hq
     subst q2
     have hj:=joined_ok f c j x s (L.getD k 0) p hc (by have:=hh.1;omega) (by omega)
     rw [hR] at hj
     have hhb:=hbd _ hh.1
     have hq5:L.length - k = l.length + 1:=by have:=q4;omega
     (repeat' ((try conv=>whnf);first|(with_reducible first|refine wT ?_|refine wF ?_|(refine wI (fun hq=>?_) (fun hq=>?_) <;> try simp only [zA,zE,zD,zJ,zB,zI,wK,wL] at hq)|refine wA ?_|refine wB ?_|refine wC ?_|refine wD ?_|refine wE ?_)|((with_reducible refine wN ?_ ?_);focus exact needA)|(refine FCall.pure (hj) ⟨Ln.sameB _ rfl,Ln.sameB _ rfl,Ln.sameB _ rfl,Ln.sameB _ rfl,True.intro⟩ rfl ?_)|(refine Fits.in64 (show -9223372036854775808 ≤ g (L.getD k 0) + 1 ∧ g (L.getD k 0) + 1 ≤ 9223372036854775807 by omega) ?_)|(refine FIdx.nat (show L.getD k 0 < n by omega) ?_)|(refine Need.mk (show L.getD k 0 < n by omega) ?_)|(refine FApp.share (Need.mk (by omega) (Need.mk ?_ ?_)))|(with_reducible refine wP ?_)))
     all_goals (try conv=>whnf)
     ·have hcn:=cntU_upd (g:=g) (p:=p) (v:=g (L.getD k 0) + 1) (by assumption) (by omega) hlt
      have hpush:=hB.push hlt (by assumption) hq
      have hbp:=bnd_push (v:=g (L.getD k 0) + 1) hbd hlt (by assumption) (by omega) (by omega)
      refine ⟨⟨p + 1,k + 1,updI g p (g (L.getD k 0) + 1),L ++ [p],⟨hlt,⟨l ++ [p],drop_sn hqd,hpush⟩,no_push hno (by omega),by rw [len_sn];omega,(fun h=>by cases h),by rw [len_sn];have hM2:cntU g n + (L.length - k) = M0:=hM;show _ + (L.length + 1 - k) = _;omega,by rw [len_sn];show k ≤ _;omega,hbp⟩,by show n - (p + 1) < n - p;omega,[0,1],?_,⟨Ln.A,Ln.A,Ln.A,Ln.oslE rfl (by rw [len_sn];omega),Ln.A,Ln.A,True.intro⟩⟩⟩
      exact wO rfl rfl rfl (wV rfl LnB.setG (wV rfl (LnB.rowE (by rw [len_sn];omega) (fun i hi o ho=>row_sn (by omega) (by rw [len_sn] at hi;omega) ho)) wX))
     ·have hcn:=cntU_upd (g:=g) (p:=p) (v:=g (L.getD k 0) + 1) (by assumption) (by omega) hlt
      have hpush:=hB.push hlt (by assumption) hq
      have hbp:=bnd_push (v:=g (L.getD k 0) + 1) hbd hlt (by assumption) (by omega) (by omega)
      have hdl:(L.drop k).length = L.length - k:=List.length_drop
      have hnl:(L.drop k ++ [p]).length - 0 = L.length - k + (0 + 1):=by rw [len_sn,hdl];omega
      refine ⟨⟨p + 1,1,updI g p (g (L.getD k 0) + 1),L.drop k ++ [p],⟨hlt,⟨l ++ [p],by show L.drop k ++ [p] = _;rw [hqd];rfl,hpush⟩,no_push hno (by omega),by rw [len_sn,hdl];omega,(fun h=>by cases h),by rw [len_sn,hdl];have hM2:cntU g n + (L.length - k) = M0:=hM;show _ + (L.length - k + 1 - 0) = _;omega,Nat.zero_le _,hbp⟩,by show n - (p + 1) < n - p;omega,[0,2],?_,⟨Ln.A,Ln.A,Ln.A,Ln.osl0E rfl hnl.symm,Ln.A,Ln.A,True.intro⟩⟩⟩
      exact wO rfl rfl rfl (wV rfl LnB.setG (wV rfl (LnB.rowE (by rw [len_sn,hdl];omega) (fun i hi o ho=>row_dr (by rw [len_sn,hdl] at hi;omega) ho)) wX))
     ·refine ⟨⟨p + 1,k + 1,g,L,⟨hlt,⟨l,hqd,hB⟩,no_step hno (.inl hq),hL,(fun h=>by cases h),hM,hle,hbd⟩,by show n - (p + 1) < n - p;omega,[0,1],Cut.A,⟨Ln.A,Ln.A,Ln.A,Ln.oslE rfl rfl,Ln.A,Ln.A,True.intro⟩⟩⟩
     ·refine ⟨⟨p + 1,k + 1,g,L,⟨hlt,⟨l,hqd,hB⟩,no_step hno (.inr hq),hL,(fun h=>by cases h),hM,hle,hbd⟩,by show n - (p + 1) < n - p;omega,[0,1],Cut.A,⟨Ln.A,Ln.A,Ln.A,Ln.oslE rfl rfl,Ln.A,Ln.A,True.intro⟩⟩⟩
   ·have hpn:p = n:=by omega
    subst hpn
    have hpop:=hB.pop (fun y hy hRy=>hno y hy hRy)
    rcases e with _|k
    ·have hL1:=h0 rfl
     subst hL1
     have hl0:l = []:=by have hq2:[j.to.toNat] = h :: l:=hq;injection hq2 with _ e;exact e.symm
     subst hl0
     (repeat' ((try conv=>whnf);first|(with_reducible first|refine wT ?_|refine wF ?_|(refine wI (fun hq=>?_) (fun hq=>?_) <;> try simp only [zA,zE,zD,zJ,zB,zI,wK,wL] at hq)|refine wA ?_|refine wB ?_|refine wC ?_|refine wD ?_|refine wE ?_)|((with_reducible refine wN ?_ ?_);focus exact needA)|(with_reducible refine wG ?_)|(with_reducible refine wP ?_)))
     all_goals (try conv=>whnf)
     (exact ⟨⟨0,g,[],⟨hpop,by show 0 + cntU g p ≤ _;omega,fun _=>.inl rfl,Nat.zero_le _,hbd⟩,by have h1:cntU g p + 1 = M0:=hM;have h2:=hM0;show cntU g p + 0 < _;omega,[0],Cut.A,allA⟩⟩)
    ·have q1:k < L.length:=q1
     have q3:L.drop (k + 1) = l:=q3
     (repeat' ((try conv=>whnf);first|(with_reducible first|refine wT ?_|refine wF ?_|(refine wI (fun hq=>?_) (fun hq=>?_) <;> try simp only [zA,zE,zD,zJ,zB,zI,wK,wL] at hq)|refine wA ?_|refine wB ?_|refine wC ?_|refine wD ?_|refine wE ?_)|((with_reducible refine wN ?_ ?_);focus exact needA)|(with_reducible refine wG ?_)|(with_reducible refine wP ?_)))
     all_goals (try conv=>whnf)
     refine ⟨⟨k + 2,g,L,⟨by show BInv _ _ _ g (L.drop (k + 1));rw [q3];exact hpop,hL,(fun h=>by cases h),by show k + 1 ≤ _;omega,hbd⟩,by have h1:cntU g p + (L.length - k) = M0:=hM;have h2:=hM0;show cntU g p + (L.length - (k + 1)) < _;omega,[0,1],Cut.A,⟨Ln.A,Ln.A,Ln.A,Ln.oslE rfl (by omega),True.intro⟩⟩⟩
end Go.Proofs.Ytdipcdallenmkaa

namespace Go.Proofs.Ytdipcdallenmkaa
open Go.RowKit

set_option maxHeartbeats 4000000
set_option maxRecDepth 100000
theorem pbroken_ok (f:CFl) (c:Crew) (j:Job) (s:Nat) (hc:c.ok = true) (hj:Job.ok c j = true) (hs:s < 256):ACall Try.prog 41 [pTask f c j (lawOf c j),AU s] [] (fun r h=>r = AU (brokenT c j s) ∧ h = []):=by
 obtain ⟨d1,d2,d3,d4,d5⟩:=crew_d hc
 obtain ⟨j1,j2,j3,j4,j5,j6,j7⟩:=job_d hj
 obtain ⟨n,hn⟩:∃ n:Nat,c.langs = n:=⟨c.langs.toNat,by omega⟩
 have hnn:c.langs.toNat = n:=by omega
 have hml:=memb_len c s
 have hfar:=far_ok f c j (lawOf c j) s n j.to.toNat hc hn (by omega) (by omega)
 (refine fcall_of mixed Try.func41 rfl (by decide) (hs:={ ord:=[(4,[(0,[]),(1,[]),(2,[]),(3,[0]),(4,[]),(5,[])]),(6,[(0,[]),(2,[]),(3,[]),(4,[]),(5,[]),(6,[]),(7,[]),(8,[]),(9,[]),(10,[]),(11,[]),(12,[]),(1,[2,6,7,11]),(13,[])]),(10,[(0,[]),(1,[]),(3,[]),(4,[]),(5,[]),(6,[]),(7,[]),(2,[3,7]),(8,[]),(9,[]),(10,[])])] }) ?k (ac:=?ac) ?c (rs:=?rs) ?r ?l ?H;(case k=>kernel_rfl);(case c=>(conv=>(lhs;cbv)));(case r=>(conv=>(lhs;cbv)));(case l=>exact Nat.le_of_ble_eq_true rfl))
 (repeat' ((try conv=>whnf);first|(with_reducible first|refine wT ?_|refine wF ?_|(refine wI (fun hq=>?_) (fun hq=>?_) <;> try simp only [zA,zE,zD,zJ,zB,zI,wK,wL] at hq)|refine wA ?_|refine wB ?_|refine wC ?_|refine wD ?_|refine wE ?_)|((with_reducible refine wN ?_ ?_);focus exact needA)|(with_reducible refine wG ?_)|(refine FCall.pure ((mem_ok _ _ _ _ _)) ⟨Ln.sameB _ rfl,Ln.sameB _ rfl,True.intro⟩ rfl ?_)|(with_reducible refine wP ?_)))
 all_goals (try conv=>whnf)
 refine FRange.of (ACalls.mono _) (X:=Nat × Bool) (memb c s).length (fun k=>[AI (((memb c s).getD k 0:Nat):Int),.agg 6 (cPerson (f.pf ((memb c s).getD k 0)) (c.people.getD ((memb c s).getD k 0) ps0))]) (fun y=>[(1,AU s),(2,.ptr 0 0),(4,.ptr 1 0),(5,.ptr 2 0),(10,fMem f c j (lawOf c j) s)]) (fun y=>[.box 1 (ofL [pTask f c j (lawOf c j)]),.box 1 (ofL [AU y.1]),.box 1 (ofL [.bool y.2])])
  (fun k y=>soloT c j s = y.1 ||| orL (((memb c s).drop k).map fun i=>alone3 (c.people.getD i ps0) j) ∧ y.1 < 8 ∧ deafT c s = (y.2 || ((memb c s).drop k).any fun i=>(c.people.getD i ps0).deaf)) (0,false) ⟨⟨by rw [List.drop_zero,Nat.zero_or];rfl,by decide,rfl⟩,[0,1,2],Cut.A,allA⟩ rfl rfl (mem_it f c j (lawOf c j) s d2) (fun _ _=>rfl) ?round ?done
 case round =>
  rintro k ⟨v,d⟩ hk ⟨hV,hv,hd⟩
  change soloT c j s = v ||| _ at hV
  change v < 8 at hv
  change deafT c s = (d || _) at hd
  obtain ⟨g1,g2⟩:=memb_get hk
  have hok:=d4 _ g1
  have hal:=alone3_lt (c.people.getD ((memb c s).getD k 0) ps0) j
  have hor:=or8 hv hal
  rw [drop_eq 0 hk,List.map_cons,orL,← Nat.or_assoc] at hV
  rw [drop_eq 0 hk,List.any_cons,← Bool.or_assoc] at hd
  dsimp only
  (repeat' ((try conv=>whnf);first|(with_reducible first|refine wT ?_|refine wF ?_|(refine wI (fun hq=>?_) (fun hq=>?_) <;> try simp only [zA,zE,zD,zJ,zB,zI,wK,wL] at hq)|refine wA ?_|refine wB ?_|refine wC ?_|refine wD ?_|refine wE ?_)|((with_reducible refine wN ?_ ?_);focus exact needA)|(with_reducible first|refine FBit.hasT rfl (by assumption) ?_|refine FBit.hasF rfl (by assumption) ?_|refine FBit.shrN rfl (by omega) ?_|refine FBit.half rfl ?_|refine FBit.shl1 rfl (by omega) ?_|refine Fits.inU (by omega) ?_|refine FBit.shrNI rfl (by omega) ?_|refine FBit.shrIN rfl (by omega) (by omega) ?_|refine FBit.shrI rfl (by omega) (by omega) ?_|refine FBit.shl1I rfl (by omega) ?_)|(with_reducible refine FBit.has rfl (fun hq=>?_) (fun hq=>?_))|(with_reducible first|refine FBit.and1 rfl ?_|refine FBit.andN rfl (by omega) (by omega) ?_|refine FBit.orN rfl (by omega) (by omega) ?_|refine FBit.andNotN rfl (by omega) (by omega) ?_)|(with_reducible refine wG ?_)|(refine FCall.pure ((alone_ok f c j (lawOf c j) _ _ hok hj)) ⟨Ln.sameB _ rfl,Ln.sameB _ rfl,True.intro⟩ rfl ?_)|(with_reducible refine wP ?_)))
  all_goals (try conv=>whnf)
  ·subst hq
   (refine ⟨⟨(v ||| alone3 (c.people.getD ((memb c s).getD k 0) ps0) j,true),⟨hV,hor,hd⟩,[0,1,2],Cut.A,allA⟩⟩)
  ·subst hq
   (refine ⟨⟨(v ||| alone3 (c.people.getD ((memb c s).getD k 0) ps0) j,(c.people.getD ((memb c s).getD k 0) ps0).deaf),⟨hV,hor,by rw [Bool.false_or] at hd;exact hd⟩,[0,1,2],Cut.A,allA⟩⟩)
 case done =>
  rintro ⟨v,d⟩ ⟨hV,hv,hd⟩
  rw [List.drop_length] at hV hd
  change v < 8 at hv
  have hV:soloT c j s = v:=by rw [hV];simp [orL]
  have hd:deafT c s = d:=by rw [hd];simp
  have q8:=or64 (show v < 64 by omega) (show 8 < 64 by decide)
  have q16:=or64 (show v < 64 by omega) (show 16 < 64 by decide)
  have q32:=or64 (show v < 64 by omega) (show 32 < 64 by decide)
  have q816:=or64 q8 (show 16 < 64 by decide)
  have hdl:(distL n (relT c s (lawOf c j).level) j.to.toNat).length = n:=by simp [distL]
  have hdg:(distL n (relT c s (lawOf c j).level) j.to.toNat).getD j.fr.toNat 0 = dist n (relT c s (lawOf c j).level) j.fr.toNat j.to.toNat:=by
   rw [distL,getD_range (by omega)]
   exact dist_back (rel_sym c s _) (by omega) (by omega)
  clear hn
  dsimp only
  (repeat' ((try conv=>whnf);first|(with_reducible first|refine wT ?_|refine wF ?_|(refine wI (fun hq=>?_) (fun hq=>?_) <;> try simp only [zA,zE,zD,zJ,zB,zI,wK,wL] at hq)|refine wA ?_|refine wB ?_|refine wC ?_|refine wD ?_|refine wE ?_)|((with_reducible refine wN ?_ ?_);focus exact needA)|(with_reducible first|refine FBit.hasT rfl (by assumption) ?_|refine FBit.hasF rfl (by assumption) ?_|refine FBit.shrN rfl (by omega) ?_|refine FBit.half rfl ?_|refine FBit.shl1 rfl (by omega) ?_|refine Fits.inU (by omega) ?_|refine FBit.shrNI rfl (by omega) ?_|refine FBit.shrIN rfl (by omega) (by omega) ?_|refine FBit.shrI rfl (by omega) (by omega) ?_|refine FBit.shl1I rfl (by omega) ?_)|(with_reducible refine FBit.has rfl (fun hq=>?_) (fun hq=>?_))|(with_reducible first|refine FBit.and1 rfl ?_|refine FBit.andN rfl (by omega) (by omega) ?_|refine FBit.orN rfl (by omega) (by omega) ?_|refine FBit.andNotN rfl (by omega) (by omega) ?_)|(with_reducible refine wG ?_)|(refine FCall.pure ((psize_ok _ hs)) ⟨Ln.sameB _ rfl,True.intro⟩ rfl ?_)|(refine FCall.pure (hfar) ⟨Ln.sameB _ rfl,Ln.sameB _ rfl,True.intro⟩ rfl ?_)|(first|refine FBit.orI rfl rfl (b:=8) rfl (by omega) (by omega) ?_|refine FBit.orI rfl rfl (b:=16) rfl (by omega) (by omega) ?_|refine FBit.orI rfl rfl (b:=32) rfl (by omega) (by omega) ?_)|(with_reducible refine wP ?_)))
  all_goals (try conv=>whnf)
  all_goals
   (refine ⟨⟨_,[],[],Cut.nil _,Ln.sameB _ rfl,?_,rfl⟩⟩)
   refine congrArg (fun n:Nat=>AU n) ?_
   first
    | (refine Eq.trans ?_ (brokenT_eq (n:=n) (a:=true) (b:=true) (d:=true) hnn hV hd (by first|exact decide_eq_true (by assumption)|exact decide_eq_false (fun h=>h (by assumption))|fail) (by first|exact bAnd_tt (by assumption) (by assumption)|exact bAnd_tf (by assumption) (by assumption)|exact bAnd_f (by assumption)|fail) (by first|exact decide_eq_true (by omega)|exact decide_eq_false (by omega)|fail)).symm;simp;done)
    | (refine Eq.trans ?_ (brokenT_eq (n:=n) (a:=true) (b:=true) (d:=false) hnn hV hd (by first|exact decide_eq_true (by assumption)|exact decide_eq_false (fun h=>h (by assumption))|fail) (by first|exact bAnd_tt (by assumption) (by assumption)|exact bAnd_tf (by assumption) (by assumption)|exact bAnd_f (by assumption)|fail) (by first|exact decide_eq_true (by omega)|exact decide_eq_false (by omega)|fail)).symm;simp;done)
    | (refine Eq.trans ?_ (brokenT_eq (n:=n) (a:=true) (b:=false) (d:=true) hnn hV hd (by first|exact decide_eq_true (by assumption)|exact decide_eq_false (fun h=>h (by assumption))|fail) (by first|exact bAnd_tt (by assumption) (by assumption)|exact bAnd_tf (by assumption) (by assumption)|exact bAnd_f (by assumption)|fail) (by first|exact decide_eq_true (by omega)|exact decide_eq_false (by omega)|fail)).symm;simp;done)
    | (refine Eq.trans ?_ (brokenT_eq (n:=n) (a:=true) (b:=false) (d:=false) hnn hV hd (by first|exact decide_eq_true (by assumption)|exact decide_eq_false (fun h=>h (by assumption))|fail) (by first|exact bAnd_tt (by assumption) (by assumption)|exact bAnd_tf (by assumption) (by assumption)|exact bAnd_f (by assumption)|fail) (by first|exact decide_eq_true (by omega)|exact decide_eq_false (by omega)|fail)).symm;simp;done)
    | (refine Eq.trans ?_ (brokenT_eq (n:=n) (a:=false) (b:=true) (d:=true) hnn hV hd (by first|exact decide_eq_true (by assumption)|exact decide_eq_false (fun h=>h (by assumption))|fail) (by first|exact bAnd_tt (by assumption) (by assumption)|exact bAnd_tf (by assumption) (by assumption)|exact bAnd_f (by assumption)|fail) (by first|exact decide_eq_true (by omega)|exact decide_eq_false (by omega)|fail)).symm;simp;done)
    | (refine Eq.trans ?_ (brokenT_eq (n:=n) (a:=false) (b:=true) (d:=false) hnn hV hd (by first|exact decide_eq_true (by assumption)|exact decide_eq_false (fun h=>h (by assumption))|fail) (by first|exact bAnd_tt (by assumption) (by assumption)|exact bAnd_tf (by assumption) (by assumption)|exact bAnd_f (by assumption)|fail) (by first|exact decide_eq_true (by omega)|exact decide_eq_false (by omega)|fail)).symm;simp;done)
    | (refine Eq.trans ?_ (brokenT_eq (n:=n) (a:=false) (b:=false) (d:=true) hnn hV hd (by first|exact decide_eq_true (by assumption)|exact decide_eq_false (fun h=>h (by assumption))|fail) (by first|exact bAnd_tt (by assumption) (by assumption)|exact bAnd_tf (by assumption) (by assumption)|exact bAnd_f (by assumption)|fail) (by first|exact decide_eq_true (by omega)|exact decide_eq_false (by omega)|fail)).symm;simp;done)
    | (refine Eq.trans ?_ (brokenT_eq (n:=n) (a:=false) (b:=false) (d:=false) hnn hV hd (by first|exact decide_eq_true (by assumption)|exact decide_eq_false (fun h=>h (by assumption))|fail) (by first|exact bAnd_tt (by assumption) (by assumption)|exact bAnd_tf (by assumption) (by assumption)|exact bAnd_f (by assumption)|fail) (by first|exact decide_eq_true (by omega)|exact decide_eq_false (by omega)|fail)).symm;simp;done)
end Go.Proofs.Ytdipcdallenmkaa

namespace Go.Proofs.Ytdipcdallenmkaa
open Go.RowKit

set_option maxHeartbeats 4000000
set_option maxRecDepth 100000
theorem broken_y (f:CFl) (c:Crew) (j:Job) (m:Int) (h0:checkT c j = 0):ACall Try.prog 17 [aCrew f c,aJob j,AI m] [] (fun r h=>r = .tup 2 (ofL [AI (brokenE c j m).1,AI (brokenE c j m).2]) ∧ h = []):=by
 have ht:=team_y f c j m h0
 (refine fcall_of mixed Try.func17 rfl (by decide) (hs:={}) ?k (ac:=?ac) ?c (rs:=?rs) ?r ?l ?H;(case k=>kernel_rfl);(case c=>(conv=>(lhs;cbv)));(case r=>(conv=>(lhs;cbv)));(case l=>exact Nat.le_of_ble_eq_true rfl))
 (repeat' ((try conv=>whnf);first|(with_reducible first|refine wT ?_|refine wF ?_|(refine wI (fun hq=>?_) (fun hq=>?_) <;> try simp only [zA,zE,zD,zJ,zB,zI,wK,wL] at hq)|refine wA ?_|refine wB ?_|refine wC ?_|refine wD ?_|refine wE ?_)|((with_reducible refine wN ?_ ?_);focus exact needA)|(with_reducible refine wG ?_)|(refine FCall.pure (ht) ⟨Ln.sameB _ rfl,Ln.sameB _ rfl,Ln.sameB _ rfl,True.intro⟩ rfl ?_)|(with_reducible refine wP ?_)))
 all_goals (try conv=>whnf)
 ·(refine ⟨⟨_,[],[],Cut.nil _,Ln.sameB _ rfl,?_,rfl⟩⟩)
  unfold brokenE;rw [if_neg hq];rfl
 ·obtain ⟨hc,hj,k0,k1⟩:=checkTm_0 hq
  have hp:=pow_le (crew_d hc).2.1
  obtain ⟨s,rfl⟩:∃ s:Nat,m = s:=⟨m.toNat,by omega⟩
  have hbl:=broken_lt c j s
  (repeat' ((try conv=>whnf);first|(with_reducible first|refine wT ?_|refine wF ?_|(refine wI (fun hq=>?_) (fun hq=>?_) <;> try simp only [zA,zE,zD,zJ,zB,zI,wK,wL] at hq)|refine wA ?_|refine wB ?_|refine wC ?_|refine wD ?_|refine wE ?_)|((with_reducible refine wN ?_ ?_);focus exact needA)|(with_reducible first|refine FBit.hasT rfl (by assumption) ?_|refine FBit.hasF rfl (by assumption) ?_|refine FBit.shrN rfl (by omega) ?_|refine FBit.half rfl ?_|refine FBit.shl1 rfl (by omega) ?_|refine Fits.inU (by omega) ?_|refine FBit.shrNI rfl (by omega) ?_|refine FBit.shrIN rfl (by omega) (by omega) ?_|refine FBit.shrI rfl (by omega) (by omega) ?_|refine FBit.shl1I rfl (by omega) ?_)|(with_reducible refine FBit.has rfl (fun hq=>?_) (fun hq=>?_))|(with_reducible first|refine FBit.and1 rfl ?_|refine FBit.andN rfl (by omega) (by omega) ?_|refine FBit.orN rfl (by omega) (by omega) ?_|refine FBit.andNotN rfl (by omega) (by omega) ?_)|(with_reducible refine wG ?_)|(refine FCall.pure ((pbroken_ok f c j s hc hj (by omega))) ⟨Ln.sameB _ rfl,Ln.sameB _ rfl,True.intro⟩ rfl ?_)|(with_reducible refine wP ?_)))
  all_goals (try conv=>whnf)
  all_goals
   (refine ⟨⟨_,[],[],Cut.nil _,Ln.sameB _ rfl,?_,rfl⟩⟩)
   unfold brokenE;rw [if_pos hq];rfl
theorem broken_n (f:CFl) (c:Crew) (j:Job) (m:Int) (h0:checkT c j ≠ 0):ACall Try.prog 17 [aCrew f c,aJob j,AI m] [] (fun r h=>r = .tup 2 (ofL [AI (brokenE c j m).1,AI (brokenE c j m).2]) ∧ h = []):=by
 have ht:=team_n f c j m h0
 have hne:checkTm c j m ≠ 0:=by rw [checkTm_c h0];exact h0
 (refine fcall_of mixed Try.func17 rfl (by decide) (hs:={}) ?k (ac:=?ac) ?c (rs:=?rs) ?r ?l ?H;(case k=>kernel_rfl);(case c=>(conv=>(lhs;cbv)));(case r=>(conv=>(lhs;cbv)));(case l=>exact Nat.le_of_ble_eq_true rfl))
 (repeat' ((try conv=>whnf);first|(with_reducible first|refine wT ?_|refine wF ?_|(refine wI (fun hq=>?_) (fun hq=>?_) <;> try simp only [zA,zE,zD,zJ,zB,zI,wK,wL] at hq)|refine wA ?_|refine wB ?_|refine wC ?_|refine wD ?_|refine wE ?_)|((with_reducible refine wN ?_ ?_);focus exact needA)|(with_reducible refine wG ?_)|(refine FCall.pure (ht) ⟨Ln.sameB _ rfl,Ln.sameB _ rfl,Ln.sameB _ rfl,True.intro⟩ rfl ?_)|(with_reducible refine wP ?_)))
 all_goals (try conv=>whnf)
 (refine ⟨⟨_,[],[],Cut.nil _,Ln.sameB _ rfl,?_,rfl⟩⟩)
 unfold brokenE;rw [if_neg hne];rfl
theorem broken_ok (f:CFl) (c:Crew) (j:Job) (m:Int):ACall Try.prog 17 [aCrew f c,aJob j,AI m] [] (fun r h=>r = .tup 2 (ofL [AI (brokenE c j m).1,AI (brokenE c j m).2]) ∧ h = []):=by
 by_cases h0:checkT c j = 0
 ·exact broken_y f c j m h0
 ·exact broken_n f c j m h0
end Go.Proofs.Ytdipcdallenmkaa

namespace Go.Proofs.Ytdipcdallenmkaa
open Go.RowKit

theorem alone_may (p:Person) (j:Job):alone3 p j = 0 ↔ p.may j = true:=by
 unfold alone3 Person.may
 cases tiedT p j.client <;> cases p.fields.toNat.testBit j.field.toNat <;> cases p.clears.toNat.testBit j.kind.toNat <;> decide
set_option maxHeartbeats 4000000
set_option maxRecDepth 100000
theorem may_n (f:CFl) (c:Crew) (j:Job) (h0:checkT c j ≠ 0):ACall Try.prog 26 [aCrew f c,aJob j] [] (fun r h=>r = .tup 2 (ofL [outI (mayE c j),AI (checkT c j)]) ∧ h = []):=by
 (refine fcall_of mixed Try.func26 rfl (by decide) (hs:={}) ?k (ac:=?ac) ?c (rs:=?rs) ?r ?l ?H;(case k=>kernel_rfl);(case c=>(conv=>(lhs;cbv)));(case r=>(conv=>(lhs;cbv)));(case l=>exact Nat.le_of_ble_eq_true rfl))
 (repeat' ((try conv=>whnf);first|(with_reducible first|refine wT ?_|refine wF ?_|(refine wI (fun hq=>?_) (fun hq=>?_) <;> try simp only [zA,zE,zD,zJ,zB,zI,wK,wL] at hq)|refine wA ?_|refine wB ?_|refine wC ?_|refine wD ?_|refine wE ?_)|((with_reducible refine wN ?_ ?_);focus exact needA)|(with_reducible refine wG ?_)|(refine FCall.pure ((open_n _ _ _ h0)) ⟨Ln.sameB _ rfl,Ln.sameB _ rfl,True.intro⟩ rfl ?_)|(with_reducible refine wP ?_)))
 all_goals (try conv=>whnf)
 refine ⟨⟨.tup 2 (ofL [outI [],AI (checkT c j)]),[],[],Cut.nil _,Ln.A,?_,rfl⟩⟩
 unfold mayE;rw [if_neg h0]
theorem may_y (f:CFl) (c:Crew) (j:Job) (h0:checkT c j = 0):ACall Try.prog 26 [aCrew f c,aJob j] [] (fun r h=>r = .tup 2 (ofL [outI (mayE c j),AI (checkT c j)]) ∧ h = []):=by
 obtain ⟨hc,hj⟩:=checkT_0.1 h0
 obtain ⟨d1,d2,d3,d4,d5⟩:=crew_d hc
 have hmE:mayE c j = mayL c j:=by unfold mayE;rw [if_pos h0]
 rw [hmE,h0]
 (refine fcall_of mixed Try.func26 rfl (by decide) (hs:={}) ?k (ac:=?ac) ?c (rs:=?rs) ?r ?l ?H;(case k=>kernel_rfl);(case c=>(conv=>(lhs;cbv)));(case r=>(conv=>(lhs;cbv)));(case l=>exact Nat.le_of_ble_eq_true rfl))
 (repeat' ((try conv=>whnf);first|(with_reducible first|refine wT ?_|refine wF ?_|(refine wI (fun hq=>?_) (fun hq=>?_) <;> try simp only [zA,zE,zD,zJ,zB,zI,wK,wL] at hq)|refine wA ?_|refine wB ?_|refine wC ?_|refine wD ?_|refine wE ?_)|((with_reducible refine wN ?_ ?_);focus exact needA)|(with_reducible refine wG ?_)|(refine FCall.pure ((open_y _ _ _ h0)) ⟨Ln.sameB _ rfl,Ln.sameB _ rfl,True.intro⟩ rfl ?_)|(with_reducible refine wP ?_)))
 all_goals (try conv=>whnf)
 refine FLoop.of (ACalls.mono _) (X:=Nat × Nat × List Int) (fun x=>[(6,pTask f c j (lawOf c j)),(8,match x.2.1 with|0=>nilS|m + 1=>.own 0 (m + 1)),(21,aPeople f.zp f.ep f.pf c.people),(22,AI c.people.length),(23,AI x.1)]) (fun x=>match x.2.1 with
  | 0=>[]
  | m + 1=>[rowI (m + 1) x.2.2]) (fun x=>x.1 ≤ c.people.length ∧ x.2.1 = x.2.2.length ∧ x.2.2 ++ mayF c j x.1 = mayL c j ∧ x.2.1 ≤ x.1) (fun x=>c.people.length - x.1) (0,0,[]) ⟨⟨Nat.zero_le _,rfl,rfl,Nat.le_refl _⟩,[],Cut.A,allA⟩ ?_
 rintro ⟨i,m,l⟩ ⟨hi,hm,hl,hmi⟩
 change i ≤ c.people.length at hi
 change m = l.length at hm
 change l ++ mayF c j i = mayL c j at hl
 change m ≤ i at hmi
 dsimp only
 have hml:m + 1 = (l ++ [(i:Int)]).length:=by rw [List.length_append,hm];rfl
 by_cases hlt:i < c.people.length
 ·by_cases hk:(c.people.getD i ps0).may j = true
  ·have hs2:(l ++ [(i:Int)]) ++ mayF c j (i + 1) = mayL c j:=by rw [List.append_assoc,List.singleton_append,← mayF_yes hlt hk];exact hl
   have ha0:=(alone_may _ _).2 hk
   rcases m with _|m
   ·obtain rfl:l = []:=List.length_eq_zero_iff.1 hm.symm
    (repeat' ((try conv=>whnf);first|(with_reducible first|refine wT ?_|refine wF ?_|(refine wI (fun hq=>?_) (fun hq=>?_) <;> try simp only [zA,zE,zD,zJ,zB,zI,wK,wL] at hq)|refine wA ?_|refine wB ?_|refine wC ?_|refine wD ?_|refine wE ?_)|((with_reducible refine wN ?_ ?_);focus exact needA)|(with_reducible refine wG ?_)|(refine FCall.pure ((alone_ok f c j (lawOf c j) _ _ (d4 i (by omega)) hj)) ⟨Ln.sameB _ rfl,Ln.sameB _ rfl,True.intro⟩ rfl ?_)|(with_reducible refine wP ?_)))
    all_goals (try conv=>whnf)
    (exact ⟨⟨(i + 1,1,[] ++ [(i:Int)]),⟨hlt,hml,hs2,Nat.succ_le_succ hmi⟩,by show _ - (i + 1) < _ - i;omega,[1],(by (refine wO rfl rfl rfl ?_;repeat (first|exact wX|(refine wV rfl (by first|exact LnB.rowS|exact LnB.app (fun k hk=>absurd hk (Nat.not_lt_zero k)) (fun _ _=>rfl)|exact LnB.A) ?_)|(refine CutL.gone (Nat.lt_of_lt_of_le (Nat.lt_succ_self _) (Nat.le_of_ble_eq_true rfl)) ?_)))),allA⟩⟩)
   ·(repeat' ((try conv=>whnf);first|(with_reducible first|refine wT ?_|refine wF ?_|(refine wI (fun hq=>?_) (fun hq=>?_) <;> try simp only [zA,zE,zD,zJ,zB,zI,wK,wL] at hq)|refine wA ?_|refine wB ?_|refine wC ?_|refine wD ?_|refine wE ?_)|((with_reducible refine wN ?_ ?_);focus exact needA)|(with_reducible refine wG ?_)|(refine FCall.pure ((alone_ok f c j (lawOf c j) _ _ (d4 i (by omega)) hj)) ⟨Ln.sameB _ rfl,Ln.sameB _ rfl,True.intro⟩ rfl ?_)|(with_reducible refine wP ?_)))
    all_goals (try conv=>whnf)
    (exact ⟨⟨(i + 1,m + 1 + 1,l ++ [(i:Int)]),⟨hlt,hml,hs2,Nat.succ_le_succ hmi⟩,by show _ - (i + 1) < _ - i;omega,[2],(by (refine wO rfl rfl rfl ?_;repeat (first|exact wX|(refine wV rfl (by first|exact LnB.rowS|exact LnB.app (fun k hk o ho=>int_eq (by rw [getD_snoc,if_pos (by omega)])) (fun o ho=>by show AI _ = AI _;exact int_eq (by rw [getD_snoc,if_neg (by omega),if_pos (by omega)]))|exact LnB.A) ?_)|(refine CutL.gone (Nat.lt_of_lt_of_le (Nat.lt_succ_self _) (Nat.le_of_ble_eq_true rfl)) ?_)))),allA⟩⟩)
  ·have hk:=Bool.eq_false_iff.2 hk
   have hs2:l ++ mayF c j (i + 1) = mayL c j:=by rw [← mayF_no hlt hk];exact hl
   have ha0:alone3 (c.people.getD i ps0) j ≠ 0:=fun h=>by have:=(alone_may _ _).1 h;rw [hk] at this;cases this
   rcases m with _|m
   ·(repeat' ((try conv=>whnf);first|(with_reducible first|refine wT ?_|refine wF ?_|(refine wI (fun hq=>?_) (fun hq=>?_) <;> try simp only [zA,zE,zD,zJ,zB,zI,wK,wL] at hq)|refine wA ?_|refine wB ?_|refine wC ?_|refine wD ?_|refine wE ?_)|((with_reducible refine wN ?_ ?_);focus exact needA)|(with_reducible refine wG ?_)|(refine FCall.pure ((alone_ok f c j (lawOf c j) _ _ (d4 i (by omega)) hj)) ⟨Ln.sameB _ rfl,Ln.sameB _ rfl,True.intro⟩ rfl ?_)|(with_reducible refine wP ?_)))
    all_goals (try conv=>whnf)
    (exact ⟨⟨(i + 1,0,l),⟨hlt,hm,hs2,Nat.le_succ_of_le hmi⟩,by show _ - (i + 1) < _ - i;omega,[],Cut.A,allA⟩⟩)
   ·(repeat' ((try conv=>whnf);first|(with_reducible first|refine wT ?_|refine wF ?_|(refine wI (fun hq=>?_) (fun hq=>?_) <;> try simp only [zA,zE,zD,zJ,zB,zI,wK,wL] at hq)|refine wA ?_|refine wB ?_|refine wC ?_|refine wD ?_|refine wE ?_)|((with_reducible refine wN ?_ ?_);focus exact needA)|(with_reducible refine wG ?_)|(refine FCall.pure ((alone_ok f c j (lawOf c j) _ _ (d4 i (by omega)) hj)) ⟨Ln.sameB _ rfl,Ln.sameB _ rfl,True.intro⟩ rfl ?_)|(with_reducible refine wP ?_)))
    all_goals (try conv=>whnf)
    (exact ⟨⟨(i + 1,m + 1,l),⟨hlt,hm,hs2,Nat.le_succ_of_le hmi⟩,by show _ - (i + 1) < _ - i;omega,[0],Cut.A,allA⟩⟩)
 ·have hE:mayL c j = l:=by rw [← hl,mayF_end (by omega),List.append_nil]
  rcases m with _|m
  ·obtain rfl:l = []:=List.length_eq_zero_iff.1 hm.symm
   (repeat' ((try conv=>whnf);first|(with_reducible first|refine wT ?_|refine wF ?_|(refine wI (fun hq=>?_) (fun hq=>?_) <;> try simp only [zA,zE,zD,zJ,zB,zI,wK,wL] at hq)|refine wA ?_|refine wB ?_|refine wC ?_|refine wD ?_|refine wE ?_)|((with_reducible refine wN ?_ ?_);focus exact needA)|(with_reducible refine wG ?_)|(refine FCall.pure ((alone_ok f c j (lawOf c j) _ _ (d4 i (by omega)) hj)) ⟨Ln.sameB _ rfl,Ln.sameB _ rfl,True.intro⟩ rfl ?_)|(with_reducible refine wP ?_)))
   all_goals (try conv=>whnf)
   rw [hE]
   exact ⟨⟨.tup 2 (ofL [outI [],AI 0]),[],[],Cut.nil _,Ln.A,rfl,rfl⟩⟩
  ·(repeat' ((try conv=>whnf);first|(with_reducible first|refine wT ?_|refine wF ?_|(refine wI (fun hq=>?_) (fun hq=>?_) <;> try simp only [zA,zE,zD,zJ,zB,zI,wK,wL] at hq)|refine wA ?_|refine wB ?_|refine wC ?_|refine wD ?_|refine wE ?_)|((with_reducible refine wN ?_ ?_);focus exact needA)|(with_reducible refine wG ?_)|(refine FCall.pure ((alone_ok f c j (lawOf c j) _ _ (d4 i (by omega)) hj)) ⟨Ln.sameB _ rfl,Ln.sameB _ rfl,True.intro⟩ rfl ?_)|(with_reducible refine wP ?_)))
   all_goals (try conv=>whnf)
   rw [hE]
   exact ⟨⟨.tup 2 (ofL [outI l,AI 0]),[],[],Cut.nil _,Ln.tupN ⟨⟨True.intro,Ln.out (goneB rfl) rfl (Nat.le_refl _) hm (fun _ _ _ _=>rfl)⟩,Ln.A⟩,rfl,rfl⟩⟩
theorem may_ok (f:CFl) (c:Crew) (j:Job):ACall Try.prog 26 [aCrew f c,aJob j] [] (fun r h=>r = .tup 2 (ofL [outI (mayE c j),AI (checkT c j)]) ∧ h = []):=by
 by_cases h0:checkT c j = 0
 ·exact may_y f c j h0
 ·exact may_n f c j h0
end Go.Proofs.Ytdipcdallenmkaa

namespace Go.Proofs.Ytdipcdallenmkaa
open Go.RowKit

abbrev mTeams (f:CFl) (c:Crew) (j:Job):AV:=.mv 39 1 (ofL [pTask f c j (lawOf c j)])
set_option maxHeartbeats 4000000
set_option maxRecDepth 100000
theorem pteam_n (f:CFl) (c:Crew) (j:Job) (h0:checkT c j ≠ 0):ACall Try.prog 12 [aCrew f c,aJob j] [] (fun r h=>r = .tup 3 (ofL [AI (teamE c j).1,AI (teamE c j).2.1,AI (teamE c j).2.2]) ∧ h = []):=by
 (refine fcall_of mixed Try.func12 rfl (by decide) (hs:={ ord:=[(11,[(0,[]),(1,[]),(2,[1]),(3,[]),(4,[])])] }) ?k (ac:=?ac) ?c (rs:=?rs) ?r ?l ?H;(case k=>kernel_rfl);(case c=>(conv=>(lhs;cbv)));(case r=>(conv=>(lhs;cbv)));(case l=>exact Nat.le_of_ble_eq_true rfl))
 (repeat' ((try conv=>whnf);first|(with_reducible first|refine wT ?_|refine wF ?_|(refine wI (fun hq=>?_) (fun hq=>?_) <;> try simp only [zA,zE,zD,zJ,zB,zI,wK,wL] at hq)|refine wA ?_|refine wB ?_|refine wC ?_|refine wD ?_|refine wE ?_)|((with_reducible refine wN ?_ ?_);focus exact needA)|(with_reducible refine wG ?_)|(refine FCall.pure ((open_n _ _ _ h0)) ⟨Ln.sameB _ rfl,Ln.sameB _ rfl,True.intro⟩ rfl ?_)|(with_reducible refine wP ?_)))
 all_goals (try conv=>whnf)
 (refine ⟨⟨_,[],[],Cut.nil _,Ln.sameB _ rfl,?_,rfl⟩⟩)
 unfold teamE;rw [if_neg h0];rfl
theorem pteam_y (f:CFl) (c:Crew) (j:Job) (h0:checkT c j = 0):ACall Try.prog 12 [aCrew f c,aJob j] [] (fun r h=>r = .tup 3 (ofL [AI (teamE c j).1,AI (teamE c j).2.1,AI (teamE c j).2.2]) ∧ h = []):=by
 obtain ⟨hc,hj⟩:=checkT_0.1 h0
 obtain ⟨d1,d2,d3,d4,d5⟩:=crew_d hc
 have hp:=pow_le d2
 have hpp:0 < 2 ^ c.people.length:=Nat.two_pow_pos _
 obtain ⟨N,hN⟩:∃ N,N + 1 = 2 ^ c.people.length:=⟨2 ^ c.people.length - 1,by omega⟩
 have hbe:bestT c j = teamS c j N:=by unfold bestT;rw [← hN];rfl
 (refine fcall_of mixed Try.func12 rfl (by decide) (hs:={ ord:=[(11,[(0,[]),(1,[]),(2,[1]),(3,[]),(4,[])])] }) ?k (ac:=?ac) ?c (rs:=?rs) ?r ?l ?H;(case k=>kernel_rfl);(case c=>(conv=>(lhs;cbv)));(case r=>(conv=>(lhs;cbv)));(case l=>exact Nat.le_of_ble_eq_true rfl))
 (repeat' ((try conv=>whnf);first|(with_reducible first|refine wT ?_|refine wF ?_|(refine wI (fun hq=>?_) (fun hq=>?_) <;> try simp only [zA,zE,zD,zJ,zB,zI,wK,wL] at hq)|refine wA ?_|refine wB ?_|refine wC ?_|refine wD ?_|refine wE ?_)|((with_reducible refine wN ?_ ?_);focus exact needA)|(with_reducible refine wG ?_)|(refine FCall.pure ((open_y _ _ _ h0)) ⟨Ln.sameB _ rfl,Ln.sameB _ rfl,True.intro⟩ rfl ?_)|(with_reducible refine wP ?_)))
 all_goals (try conv=>whnf)
 refine FRange.ofM (ACalls.mono _) (X:=Nat × Int) N (fun k=>[AU (k + 1)]) (fun y=>[(4,.ptr 0 0),(5,.ptr 1 0),(6,AI 0),(7,.ptr 2 0),(20,mTeams f c j)]) (fun y=>[.box 1 (ofL [AI y.1]),.box 1 (ofL [AI y.2]),.box 1 (ofL [pTask f c j (lawOf c j)])])
  (fun k y=>teamS c j k = y ∧ y.1 ≤ k) (0,0) ⟨⟨rfl,Nat.le_refl _⟩,[2,3,4],Cut.A,allA⟩ rfl rfl (teams_it f c j (lawOf c j) _ N rfl d2 hN) (fun _ _=>rfl) ?round ?done
 case round =>
  rintro k ⟨m,n⟩ hk ⟨hx,hm⟩
  change m ≤ k at hm
  have hst:teamS c j (k + 1) = stepTm c j (k + 1) (m,n):=by rw [← hx];rfl
  have hft:brokenT c j (k + 1) = 0 → fitsT c j (k + 1) = true:=fun h=>by unfold fitsT;rw [h];simp
  have hff:brokenT c j (k + 1) ≠ 0 → fitsT c j (k + 1) = false:=fun h=>by unfold fitsT;simp [h]
  dsimp only
  (repeat' ((try conv=>whnf);first|(with_reducible first|refine wT ?_|refine wF ?_|(refine wI (fun hq=>?_) (fun hq=>?_) <;> try simp only [zA,zE,zD,zJ,zB,zI,wK,wL] at hq)|refine wA ?_|refine wB ?_|refine wC ?_|refine wD ?_|refine wE ?_)|((with_reducible refine wN ?_ ?_);focus exact needA)|(with_reducible first|refine FBit.hasT rfl (by assumption) ?_|refine FBit.hasF rfl (by assumption) ?_|refine FBit.shrN rfl (by omega) ?_|refine FBit.half rfl ?_|refine FBit.shl1 rfl (by omega) ?_|refine Fits.inU (by omega) ?_|refine FBit.shrNI rfl (by omega) ?_|refine FBit.shrIN rfl (by omega) (by omega) ?_|refine FBit.shrI rfl (by omega) (by omega) ?_|refine FBit.shl1I rfl (by omega) ?_)|(with_reducible refine FBit.has rfl (fun hq=>?_) (fun hq=>?_))|(with_reducible first|refine FBit.and1 rfl ?_|refine FBit.andN rfl (by omega) (by omega) ?_|refine FBit.orN rfl (by omega) (by omega) ?_|refine FBit.andNotN rfl (by omega) (by omega) ?_)|(with_reducible refine wG ?_)|(refine FCall.pure ((pfee_ok _ _ _ _ _ hc)) ⟨Ln.sameB _ rfl,Ln.sameB _ rfl,True.intro⟩ rfl ?_)|(refine FCall.pure ((pbroken_ok _ _ _ _ hc hj (by omega))) ⟨Ln.sameB _ rfl,Ln.sameB _ rfl,True.intro⟩ rfl ?_)|(with_reducible refine wP ?_)))
  all_goals (try conv=>whnf)
  ·(refine ⟨⟨((k + 1),feeT c (k + 1)),⟨by rw [hst];exact stepTm_yes (hft (by omega)) (.inl (by omega)),Nat.le_refl _⟩,[0,1,2],Cut.A,allA⟩⟩)
  ·(refine ⟨⟨((k + 1),feeT c (k + 1)),⟨by rw [hst];exact stepTm_yes (hft (by omega)) (.inr (by omega)),Nat.le_refl _⟩,[0,1,2],Cut.A,allA⟩⟩)
  ·(refine ⟨⟨(m,n),⟨by rw [hst];exact stepTm_no2 (by omega) (by omega),Nat.le_succ_of_le hm⟩,[0,1,2],Cut.A,allA⟩⟩)
  ·(refine ⟨⟨(m,n),⟨by rw [hst];exact stepTm_no (hff (by omega)),Nat.le_succ_of_le hm⟩,[0,1,2],Cut.A,allA⟩⟩)
 case done =>
  rintro ⟨m,n⟩ ⟨hx,hm⟩
  dsimp only
  (repeat' ((try conv=>whnf);first|(with_reducible first|refine wT ?_|refine wF ?_|(refine wI (fun hq=>?_) (fun hq=>?_) <;> try simp only [zA,zE,zD,zJ,zB,zI,wK,wL] at hq)|refine wA ?_|refine wB ?_|refine wC ?_|refine wD ?_|refine wE ?_)|((with_reducible refine wN ?_ ?_);focus exact needA)|(with_reducible first|refine FBit.hasT rfl (by assumption) ?_|refine FBit.hasF rfl (by assumption) ?_|refine FBit.shrN rfl (by omega) ?_|refine FBit.half rfl ?_|refine FBit.shl1 rfl (by omega) ?_|refine Fits.inU (by omega) ?_|refine FBit.shrNI rfl (by omega) ?_|refine FBit.shrIN rfl (by omega) (by omega) ?_|refine FBit.shrI rfl (by omega) (by omega) ?_|refine FBit.shl1I rfl (by omega) ?_)|(with_reducible refine FBit.has rfl (fun hq=>?_) (fun hq=>?_))|(with_reducible first|refine FBit.and1 rfl ?_|refine FBit.andN rfl (by omega) (by omega) ?_|refine FBit.orN rfl (by omega) (by omega) ?_|refine FBit.andNotN rfl (by omega) (by omega) ?_)|(with_reducible refine wG ?_)|(with_reducible refine wP ?_)))
  all_goals (try conv=>whnf)
  ·(refine ⟨⟨_,[],[],Cut.nil _,Ln.sameB _ rfl,?_,rfl⟩⟩)
   unfold teamE;rw [if_pos h0,hbe,hx,if_pos (by show m = 0;omega)];rfl
  ·(refine ⟨⟨_,[],[],Cut.nil _,Ln.sameB _ rfl,?_,rfl⟩⟩)
   unfold teamE;rw [if_pos h0,hbe,hx,if_neg (by show m ≠ 0;omega)];rfl
theorem pteam_ok (f:CFl) (c:Crew) (j:Job):ACall Try.prog 12 [aCrew f c,aJob j] [] (fun r h=>r = .tup 3 (ofL [AI (teamE c j).1,AI (teamE c j).2.1,AI (teamE c j).2.2]) ∧ h = []):=by
 by_cases h0:checkT c j = 0
 ·exact pteam_y f c j h0
 ·exact pteam_n f c j h0
end Go.Proofs.Ytdipcdallenmkaa

namespace Go.Proofs.Ytdipcdallenmkaa
open Go.RowKit

theorem best_spec (c:Crew) (j:Job):∀ t,((teamS c j t).1 = 0 ∧ ∀ u,1 ≤ u → u ≤ t → fitsT c j u = false) ∨ (1 ≤ (teamS c j t).1 ∧ (teamS c j t).1 ≤ t ∧ fitsT c j (teamS c j t).1 = true ∧ (teamS c j t).2 = feeT c (teamS c j t).1 ∧ ∀ u,1 ≤ u → u ≤ t → fitsT c j u = true → feeT c (teamS c j t).1 < feeT c u ∨ (feeT c (teamS c j t).1 = feeT c u ∧ (teamS c j t).1 ≤ u))
 | 0=>.inl ⟨rfl,fun u h1 h2=>by omega⟩
 | t + 1=>by
  have ih:=best_spec c j t
  rw [teamS]
  generalize teamS c j t = x at ih
  obtain ⟨m,n⟩:=x
  cases hf:fitsT c j (t + 1)
  ·rw [stepTm_no hf]
   rcases ih with ⟨h1,h2⟩|⟨h1,h2,h3,h4,h5⟩
   ·refine .inl ⟨h1,fun u k1 k2=>?_⟩
    rcases Nat.eq_or_lt_of_le k2 with e|e
    ·subst e;exact hf
    ·exact h2 u k1 (by omega)
   ·refine .inr ⟨h1,Nat.le_succ_of_le h2,h3,h4,fun u k1 k2 k3=>?_⟩
    rcases Nat.eq_or_lt_of_le k2 with e|e
    ·subst e;rw [hf] at k3;cases k3
    ·exact h5 u k1 (by omega) k3
  ·rcases ih with ⟨h1,h2⟩|⟨h1,h2,h3,h4,h5⟩
   ·rw [stepTm_yes hf (.inl h1)]
    refine .inr ⟨Nat.succ_le_succ (Nat.zero_le _),Nat.le_refl _,hf,rfl,fun u k1 k2 k3=>?_⟩
    rcases Nat.eq_or_lt_of_le k2 with e|e
    ·subst e;exact .inr ⟨rfl,Nat.le_refl _⟩
    ·rw [h2 u k1 (by omega)] at k3;cases k3
   ·change 1 ≤ m at h1
    change m ≤ t at h2
    change fitsT c j m = true at h3
    change n = feeT c m at h4
    change ∀ u,1 ≤ u → u ≤ t → fitsT c j u = true → feeT c m < feeT c u ∨ (feeT c m = feeT c u ∧ m ≤ u) at h5
    by_cases hlt:feeT c (t + 1) < n
    ·rw [stepTm_yes hf (.inr hlt)]
     refine .inr ⟨Nat.succ_le_succ (Nat.zero_le _),Nat.le_refl _,hf,rfl,fun u k1 k2 k3=>?_⟩
     show feeT c (t + 1) < feeT c u ∨ (feeT c (t + 1) = feeT c u ∧ t + 1 ≤ u)
     rcases Nat.eq_or_lt_of_le k2 with e|e
     ·subst e;exact .inr ⟨rfl,Nat.le_refl _⟩
     ·have:=h5 u k1 (by omega) k3;omega
    ·rw [stepTm_no2 (by omega) (by omega)]
     refine .inr ⟨h1,Nat.le_succ_of_le h2,h3,h4,fun u k1 k2 k3=>?_⟩
     show feeT c m < feeT c u ∨ (feeT c m = feeT c u ∧ m ≤ u)
     rcases Nat.eq_or_lt_of_le k2 with e|e
     ·subst e;omega
     ·exact h5 u k1 (by omega) k3
theorem best_two (c:Crew) (j:Job):((bestT c j).1 = 0 ∧ ∀ u,1 ≤ u → u < 2 ^ c.people.length → fitsT c j u = false) ∨ (1 ≤ (bestT c j).1 ∧ (bestT c j).1 < 2 ^ c.people.length ∧ fitsT c j (bestT c j).1 = true ∧ (bestT c j).2 = feeT c (bestT c j).1 ∧ ∀ u,1 ≤ u → u < 2 ^ c.people.length → fitsT c j u = true → feeT c (bestT c j).1 < feeT c u ∨ (feeT c (bestT c j).1 = feeT c u ∧ (bestT c j).1 ≤ u)):=by
 have hp:0 < 2 ^ c.people.length:=Nat.two_pow_pos _
 unfold bestT
 rcases best_spec c j (2 ^ c.people.length - 1) with ⟨h1,h2⟩|⟨h1,h2,h3,h4,h5⟩
 ·exact .inl ⟨h1,fun u k1 k2=>h2 u k1 (by omega)⟩
 ·exact .inr ⟨h1,by omega,h3,h4,fun u k1 k2=>h5 u k1 (by omega)⟩
theorem fits_b {c:Crew} {j:Job} {t:Nat}:fitsT c j t = true ↔ 0 < t ∧ brokenT c j t = 0:=by simp [fitsT]
theorem or_zero {a b:Nat} (h:a ||| b = 0):a = 0 ∧ b = 0:=by
 constructor
 ·have:=@Nat.left_le_or a b;omega
 ·have:=@Nat.right_le_or a b;omega
theorem orL_zero : ∀ {l:List Nat},orL l = 0 → ∀ x ∈ l,x = 0
 | [],_,x,hx=>by cases hx
 | y :: l,h,x,hx=>by
  rw [orL] at h
  obtain ⟨a,b⟩:=or_zero h
  rcases List.mem_cons.1 hx with rfl|hx
  ·exact a
  ·exact orL_zero b x hx
theorem mem_memb {c:Crew} {s k:Nat}:k ∈ memb c s ↔ k < c.people.length ∧ s.testBit k = true:=by simp [memb]
theorem alone_zero {p:Person} {j:Job}:alone3 p j = 0 ↔ p.may j = true:=by
 unfold alone3 Person.may
 cases tiedT p j.client <;> cases p.fields.toNat.testBit j.field.toNat <;> cases p.clears.toNat.testBit j.kind.toNat <;> decide
theorem solo_zero {c:Crew} {j:Job} {s:Nat}:soloT c j s = 0 ↔ ∀ k,k < c.people.length → s.testBit k = true → (c.people.getD k ps0).may j = true:=by
 constructor
 ·intro h k hk hb
  exact alone_zero.1 (orL_zero h _ (List.mem_map.2 ⟨k,mem_memb.2 ⟨hk,hb⟩,rfl⟩))
 ·intro h
  have:∀ l:List Nat,(∀ x ∈ l,x = 0) → orL l = 0:=by
   intro l
   induction l with
   | nil=>intro _;rfl
   | cons x l ih =>
    intro hl
    rw [orL,hl x (by simp),ih fun y hy=>hl y (by simp [hy])];rfl
  refine this _ fun x hx=>?_
  obtain ⟨k,hk,rfl⟩:=List.mem_map.1 hx
  obtain ⟨h1,h2⟩:=mem_memb.1 hk
  exact alone_zero.2 (h k h1 h2)
theorem broken_zero {c:Crew} {j:Job} {s:Nat}:brokenT c j s = 0 ↔ soloT c j s = 0 ∧ (pop s:Int) = max j.size (lawOf c j).size ∧ ((lawOf c j).deaf = true → deafT c s = true) ∧ 0 ≤ dist c.langs.toNat (relT c s (lawOf c j).level) j.fr.toNat j.to.toNat:=by
 unfold brokenT
 constructor
 ·intro h
  obtain ⟨h,h4⟩:=or_zero h
  obtain ⟨h,h3⟩:=or_zero h
  obtain ⟨h1,h2⟩:=or_zero h
  refine ⟨h1,?_,?_,?_⟩
  ·split at h2
   ·cases h2
   ·rename_i h;exact Decidable.not_not.1 h
  ·intro hd
   split at h3
   ·cases h3
   ·rename_i h
    rw [hd] at h
    simpa using h
  ·split at h4
   ·cases h4
   ·omega
 ·rintro ⟨h1,h2,h3,h4⟩
  rw [h1,if_neg (by omega),if_neg (by
   cases hd:(lawOf c j).deaf
   ·simp
   ·rw [h3 hd];simp),if_neg (by omega)];rfl
/-- A set of numbers from a list. -/
def setL (l:List Int):Nat:=orL (l.map fun x=>2 ^ x.toNat)
theorem setL_bit {l:List Int} {k:Nat}:(setL l).testBit k = true ↔ ∃ x ∈ l,x.toNat = k:=by
 unfold setL
 induction l with
 | nil=>simp [orL]
 | cons x l ih =>
  simp only [List.map_cons,orL,Nat.testBit_or,Bool.or_eq_true,ih,List.mem_cons]
  constructor
  ·rintro (h|⟨y,h1,h2⟩)
   ·rw [Nat.testBit_two_pow] at h
    exact ⟨x,.inl rfl,by simpa using h⟩
   ·exact ⟨y,.inr h1,h2⟩
  ·rintro ⟨y,rfl|h1,h2⟩
   ·left;rw [h2,Nat.testBit_two_pow];simp
   ·exact .inr ⟨y,h1,h2⟩
theorem setL_snoc {l:List Int} {x:Int}:setL (l ++ [x]) = setL l ||| 2 ^ x.toNat:=by
 unfold setL
 induction l with
 | nil=>simp [orL]
 | cons y l ih=>simp only [List.cons_append,List.map_cons,orL,ih,Nat.or_assoc]
theorem setL_lt {l:List Int} {n:Nat} (h:∀ x ∈ l,x.toNat < n):setL l < 2 ^ n:=by
 unfold setL
 induction l with
 | nil=>exact Nat.two_pow_pos _
 | cons y l ih =>
  simp only [List.map_cons,orL]
  exact Nat.or_lt_two_pow (Nat.pow_lt_pow_right (by decide) (h y (by simp))) (ih fun x hx=>h x (by simp [hx]))
theorem sdiff_zero {a b:Nat} (h:∀ k,a.testBit k = true → b.testBit k = true):sdiff a b = 0:=by
 apply Nat.eq_of_testBit_eq
 intro k
 rw [testBit_sdiff,Nat.zero_testBit]
 cases ha:a.testBit k
 ·rfl
 ·rw [h k ha];rfl
theorem may_mem {c:Crew} {j:Job} {x:Int}:x ∈ mayL c j ↔ ∃ k:Nat,x = k ∧ k < c.people.length ∧ (c.people.getD k ps0).may j = true:=by
 unfold mayL
 simp only [List.mem_map,List.mem_filter,List.mem_range]
 constructor
 ·rintro ⟨k,⟨h1,h2⟩,rfl⟩;exact ⟨k,rfl,h1,h2⟩
 ·rintro ⟨k,rfl,h1,h2⟩;exact ⟨k,⟨h1,h2⟩,rfl⟩
theorem may_len {c:Crew} {j:Job}:(mayL c j).length ≤ c.people.length:=by
 have:=List.length_filter_le (fun i=>(c.people.getD i ps0).may j) (List.range c.people.length)
 simpa [mayL] using this
theorem team_in_may {c:Crew} {j:Job} {s:Nat} (h:brokenT c j s = 0) (hs:s < 2 ^ c.people.length):sdiff s (setL (mayL c j)) = 0:=by
 refine sdiff_zero fun k hk=>setL_bit.2 ⟨(k:Int),may_mem.2 ⟨k,rfl,?_⟩,rfl⟩
 have hkn:k < c.people.length:=by
  rcases Nat.lt_or_ge k c.people.length with h|h
  ·exact h
  ·have:=Nat.testBit_lt_two_pow (Nat.lt_of_lt_of_le hs (Nat.pow_le_pow_right (by decide) h))
   rw [this] at hk;cases hk
 exact ⟨hkn,solo_zero.1 (broken_zero.1 h).1 k hkn hk⟩
/-- The fewest rules. -/
theorem why_spec (c:Crew) (j:Job):∀ r,(whyS c j r = none ∧ ∀ u,u < r → keptT c j u = true) ∨ ∃ b,whyS c j r = some b ∧ b < r ∧ keptT c j b = false ∧ ∀ u,u < r → keptT c j u = false → pop b < pop u ∨ (pop b = pop u ∧ b ≤ u)
 | 0=>.inl ⟨rfl,fun u hu=>by omega⟩
 | r + 1=>by
  rw [whyS]
  rcases why_spec c j r with ⟨h1,h2⟩|⟨b,h1,h2,h3,h4⟩
  ·rw [h1]
   cases hk:keptT c j r
   ·refine .inr ⟨r,rfl,by omega,hk,fun u hu hku=>?_⟩
    rcases Nat.eq_or_lt_of_le (Nat.le_of_lt_succ hu) with e|e
    ·subst e;exact .inr ⟨rfl,Nat.le_refl _⟩
    ·rw [h2 u e] at hku;cases hku
   ·refine .inl ⟨rfl,fun u hu=>?_⟩
    rcases Nat.eq_or_lt_of_le (Nat.le_of_lt_succ hu) with e|e
    ·subst e;exact hk
    ·exact h2 u e
  ·rw [h1]
   cases hk:keptT c j r
   ·by_cases hp:pop r < pop b
    ·refine .inr ⟨r,by simp [hp],by omega,hk,fun u hu hku=>?_⟩
     rcases Nat.eq_or_lt_of_le (Nat.le_of_lt_succ hu) with e|e
     ·subst e;exact .inr ⟨rfl,Nat.le_refl _⟩
     ·have:=h4 u e hku;omega
    ·refine .inr ⟨b,by simp [hp],by omega,h3,fun u hu hku=>?_⟩
     rcases Nat.eq_or_lt_of_le (Nat.le_of_lt_succ hu) with e|e
     ·subst e;omega
     ·exact h4 u e hku
   ·refine .inr ⟨b,by simp,by omega,h3,fun u hu hku=>?_⟩
    rcases Nat.eq_or_lt_of_le (Nat.le_of_lt_succ hu) with e|e
    ·subst e;rw [hk] at hku;cases hku
    ·exact h4 u e hku
theorem pop_less : ∀ r:Nat,r < 64 → ∀ i:Nat,i < 6 → r.testBit i = true → pop (sdiff r (2 ^ i)) < pop r:=by
 have:∀ r:_root_.Fin 64,∀ i:_root_.Fin 6,r.val.testBit i.val = true → pop (sdiff r.val (2 ^ i.val)) < pop r.val:=by decide +kernel
 exact fun r hr i hi=>this ⟨r,hr⟩ ⟨i,hi⟩
theorem and63 {n:Nat} (h:n < 64):n &&& 63 = n:=by
 rw [show (63:Nat) = 2 ^ 6 - 1 by decide,Nat.and_two_pow_sub_one_eq_mod];exact Nat.mod_eq_of_lt h
theorem why_two (c:Crew) (j:Job):((bestT c j).1 ≠ 0 ∧ whyS c j 64 = none) ∨ ((bestT c j).1 = 0 ∧ ∃ b,whyS c j 64 = some b ∧ b < 64 ∧ (∀ u,1 ≤ u → u < 2 ^ c.people.length → brokenT c j u &&& b ≠ 0) ∧ (∀ i,i < 6 → b.testBit i = true → keptT c j (sdiff b (2 ^ i)) = true) ∧ ∀ u,u < 64 → keptT c j u = false → pop b < pop u ∨ (pop b = pop u ∧ b ≤ u)):=by
 rcases best_two c j with ⟨h1,h2⟩|⟨h1,h2,h3,h4,h5⟩
 ·right
  refine ⟨h1,?_⟩
  rcases why_spec c j 64 with ⟨k1,k2⟩|⟨b,k1,k2,k3,k4⟩
  ·exfalso
   obtain ⟨t,t1,t2,t3⟩:=kept_iff.1 (k2 63 (by decide))
   rw [and63 (broken_lt c j t)] at t3
   have:=h2 t t1 t2
   rw [fits_b.2 ⟨by omega,t3⟩] at this;cases this
  ·refine ⟨b,k1,k2,fun u u1 u2 h=>?_,fun i hi hb=>?_,k4⟩
   ·rw [kept_iff.2 ⟨u,u1,u2,h⟩] at k3;cases k3
   ·cases hk:keptT c j (sdiff b (2 ^ i))
    ·have hl:=pop_less b k2 i hi hb
     have:=k4 (sdiff b (2 ^ i)) (sdiff_lt (n:=6) k2) hk
     omega
    ·rfl
 ·left
  refine ⟨by omega,?_⟩
  have hb:=(fits_b.1 h3).2
  have hk:∀ r,keptT c j r = true:=fun r=>kept_iff.2 ⟨_,h1,h2,by rw [hb,Nat.zero_and]⟩
  rcases why_spec c j 64 with ⟨k1,_⟩|⟨b,_,_,k3,_⟩
  ·exact k1
  ·rw [hk] at k3;cases k3
/-- Who is in each team that fits. -/
theorem vit_spec (c:Crew) (j:Job) (k:Nat):∀ t,(vitS c j t).1.testBit k = true ↔ k < c.people.length ∧ ∀ u,1 ≤ u → u ≤ t → fitsT c j u = true → u.testBit k = true
 | 0=>by
  rw [vitS,Nat.testBit_two_pow_sub_one]
  simp only [decide_eq_true_eq]
  exact ⟨fun h=>⟨h,fun u h1 h2=>by omega⟩,fun h=>h.1⟩
 | t + 1=>by
  rw [vitS]
  have ih:=vit_spec c j k t
  split
  ·rename_i hf
   rw [Nat.testBit_and,Bool.and_eq_true,ih]
   constructor
   ·rintro ⟨⟨h1,h2⟩,h3⟩
    refine ⟨h1,fun u u1 u2 u3=>?_⟩
    rcases Nat.eq_or_lt_of_le u2 with e|e
    ·subst e;exact h3
    ·exact h2 u u1 (by omega) u3
   ·rintro ⟨h1,h2⟩
    exact ⟨⟨h1,fun u u1 u2=>h2 u u1 (by omega)⟩,h2 (t + 1) (by omega) (Nat.le_refl _) hf⟩
  ·rename_i hf
   rw [ih]
   constructor
   ·rintro ⟨h1,h2⟩
    refine ⟨h1,fun u u1 u2 u3=>?_⟩
    rcases Nat.eq_or_lt_of_le u2 with e|e
    ·subst e;exact absurd u3 hf
    ·exact h2 u u1 (by omega) u3
   ·rintro ⟨h1,h2⟩
    exact ⟨h1,fun u u1 u2=>h2 u u1 (by omega)⟩
theorem vit_bit {c:Crew} {j:Job} {k:Nat}:(vitT c j).testBit k = true ↔ k < c.people.length ∧ ∀ u,1 ≤ u → u < 2 ^ c.people.length → fitsT c j u = true → u.testBit k = true:=by
 have hp:0 < 2 ^ c.people.length:=Nat.two_pow_pos _
 unfold vitT
 rw [vit_spec]
 constructor
 ·rintro ⟨h1,h2⟩;exact ⟨h1,fun u u1 u2=>h2 u u1 (by omega)⟩
 ·rintro ⟨h1,h2⟩;exact ⟨h1,fun u u1 u2=>h2 u u1 (by omega)⟩
end Go.Proofs.Ytdipcdallenmkaa

namespace Go.Proofs.Ytdipcdallenmkaa
open Go.RowKit

/-- How many of the first teams do not keep just these rules. -/
noncomputable def cntT (c:Crew) (j:Job):Nat → Nat → Nat
 | 0,_=>0
 | t + 1,b=>if b = brokenT c j (t + 1) then cntT c j t b + 1 else cntT c j t b
theorem cntT_le {c:Crew} {j:Job} {b:Nat}:∀ t,cntT c j t b ≤ t
 | 0=>Nat.le_refl _
 | t + 1=>by
  have:=cntT_le (c:=c) (j:=j) (b:=b) t
  rw [cntT];split <;> omega
theorem cntT_pos {c:Crew} {j:Job} {b:Nat}:∀ t,0 < cntT c j t b ↔ ∃ u,1 ≤ u ∧ u ≤ t ∧ brokenT c j u = b
 | 0=>by simp only [cntT];constructor;(· intro h;omega);(· rintro ⟨u,h1,h2,_⟩;omega)
 | t + 1=>by
  have ih:=cntT_pos (c:=c) (j:=j) (b:=b) t
  rw [cntT]
  split
  ·rename_i h;exact ⟨fun _=>⟨t + 1,by omega,by omega,h.symm⟩,fun _=>by omega⟩
  ·rename_i h
   rw [ih]
   constructor
   ·rintro ⟨u,h1,h2,h3⟩;exact ⟨u,h1,by omega,h3⟩
   ·rintro ⟨u,h1,h2,h3⟩
    rcases Nat.eq_or_lt_of_le h2 with e|e
    ·subst e;exact absurd h3.symm h
    ·exact ⟨u,h1,by omega,h3⟩
/-- The search over all sets of rules: the best of the first ones. -/
noncomputable def whyP (c:Crew) (j:Job) (r:Nat):Nat:=(whyS c j r).getD 63
theorem kept_cnt {c:Crew} {j:Job} {r N:Nat} (hN:N + 1 = 2 ^ c.people.length):keptT c j r = true ↔ ∃ b,b < 64 ∧ 0 < cntT c j N b ∧ r &&& b = 0:=by
 rw [kept_iff]
 constructor
 ·rintro ⟨t,h1,h2,h3⟩
  exact ⟨brokenT c j t,broken_lt c j t,(cntT_pos N).2 ⟨t,h1,by omega,rfl⟩,by rw [Nat.and_comm];exact h3⟩
 ·rintro ⟨b,h1,h2,h3⟩
  obtain ⟨u,k1,k2,k3⟩:=(cntT_pos N).1 h2
  exact ⟨u,k1,by omega,by rw [k3,Nat.and_comm];exact h3⟩
theorem pop63 : ∀ r,r < 63 → pop r < 6:=by
 have:∀ r:_root_.Fin 63,pop r.val < 6:=by decide +kernel
 exact fun r h=>this ⟨r,h⟩
theorem whyS_lt (c:Crew) (j:Job) (r b:Nat) (h:whyS c j r = some b):b < r:=by
 rcases why_spec c j r with ⟨h1,_⟩|⟨b2,h1,h2,_⟩
 ·rw [h1] at h;cases h
 ·rw [h1] at h;injection h with h;omega
theorem whyP_lt (c:Crew) (j:Job) (r:Nat):whyP c j r < 64 ∨ whyP c j r < r:=by
 unfold whyP
 cases h:whyS c j r with
 | none=>left;decide
 | some b=>right;exact whyS_lt c j r b h
theorem whyP_kept {c:Crew} {j:Job} {r:Nat} (h:keptT c j r = true):whyP c j (r + 1) = whyP c j r:=by
 unfold whyP;rw [whyS,h];rfl
theorem whyP_yes {c:Crew} {j:Job} {r:Nat} (hr:r < 63) (h:keptT c j r = false) (k:pop r < pop (whyP c j r)):whyP c j (r + 1) = r:=by
 unfold whyP at *
 rw [whyS,h]
 cases hs:whyS c j r with
 | none=>rfl
 | some b =>
  rw [hs] at k
  have k:pop r < pop b:=k
  simp [k]
theorem whyP_no {c:Crew} {j:Job} {r:Nat} (hr:r < 63) (h:keptT c j r = false) (k:pop (whyP c j r) ≤ pop r):whyP c j (r + 1) = whyP c j r:=by
 unfold whyP at *
 rw [whyS,h]
 cases hs:whyS c j r with
 | none =>
  rw [hs] at k
  have:=pop63 r hr
  have k:pop 63 ≤ pop r:=k
  have:pop 63 = 6:=by decide
  omega
 | some b =>
  rw [hs] at k
  have k:pop b ≤ pop r:=k
  simp [show ¬ pop r < pop b by omega]
theorem whyE_p {c:Crew} {j:Job} (h0:checkT c j = 0) (h:keptT c j 63 = false):whyE c j = ((whyP c j 63:Int),0):=by
 unfold whyE whyP
 rw [if_pos h0,whyS,h]
 cases hs:whyS c j 63 with
 | none=>rfl
 | some b =>
  have hb:=whyS_lt c j 63 b hs
  have:=pop63 b hb
  have:pop 63 = 6:=by decide
  simp [show ¬ pop 63 < pop b by omega]
set_option maxHeartbeats 4000000
set_option maxRecDepth 100000
theorem pwhy_n (f:CFl) (c:Crew) (j:Job) (h0:checkT c j ≠ 0):ACall Try.prog 15 [aCrew f c,aJob j] [] (fun r h=>r = .tup 2 (ofL [AI (whyE c j).1,AI (whyE c j).2]) ∧ h = []):=by
 (refine fcall_of mixed Try.func15 rfl (by decide) (hs:={}) ?k (ac:=?ac) ?c (rs:=?rs) ?r ?l ?H;(case k=>kernel_rfl);(case c=>(conv=>(lhs;cbv)));(case r=>(conv=>(lhs;cbv)));(case l=>exact Nat.le_of_ble_eq_true rfl))
 (repeat' ((try conv=>whnf);first|(with_reducible first|refine wT ?_|refine wF ?_|(refine wI (fun hq=>?_) (fun hq=>?_) <;> try simp only [zA,zE,zD,zJ,zB,zI,wK,wL] at hq)|refine wA ?_|refine wB ?_|refine wC ?_|refine wD ?_|refine wE ?_)|((with_reducible refine wN ?_ ?_);focus exact needA)|(with_reducible refine wG ?_)|(refine FCall.pure ((open_n _ _ _ h0)) ⟨Ln.sameB _ rfl,Ln.sameB _ rfl,True.intro⟩ rfl ?_)|(with_reducible refine wP ?_)))
 all_goals (try conv=>whnf)
 (refine ⟨⟨_,[],[],Cut.nil _,Ln.sameB _ rfl,?_,rfl⟩⟩)
 unfold whyE;rw [if_neg h0];rfl
theorem pwhy_y (f:CFl) (c:Crew) (j:Job) (h0:checkT c j = 0):ACall Try.prog 15 [aCrew f c,aJob j] [] (fun r h=>r = .tup 2 (ofL [AI (whyE c j).1,AI (whyE c j).2]) ∧ h = []):=by
 obtain ⟨hc,hj⟩:=checkT_0.1 h0
 obtain ⟨d1,d2,d3,d4,d5⟩:=crew_d hc
 have hp:=pow_le d2
 have hpp:0 < 2 ^ c.people.length:=Nat.two_pow_pos _
 obtain ⟨N,hN⟩:∃ N,N + 1 = 2 ^ c.people.length:=⟨2 ^ c.people.length - 1,by omega⟩
 (refine fcall_of mixed Try.func15 rfl (by decide) (hs:={}) ?k (ac:=?ac) ?c (rs:=?rs) ?r ?l ?H;(case k=>kernel_rfl);(case c=>(conv=>(lhs;cbv)));(case r=>(conv=>(lhs;cbv)));(case l=>exact Nat.le_of_ble_eq_true rfl))
 (repeat' ((try conv=>whnf);first|(with_reducible first|refine wT ?_|refine wF ?_|(refine wI (fun hq=>?_) (fun hq=>?_) <;> try simp only [zA,zE,zD,zJ,zB,zI,wK,wL] at hq)|refine wA ?_|refine wB ?_|refine wC ?_|refine wD ?_|refine wE ?_)|((with_reducible refine wN ?_ ?_);focus exact needA)|(with_reducible first|refine FBit.hasT rfl (by assumption) ?_|refine FBit.hasF rfl (by assumption) ?_|refine FBit.shrN rfl (by omega) ?_|refine FBit.half rfl ?_|refine FBit.shl1 rfl (by omega) ?_|refine Fits.inU (by omega) ?_|refine FBit.shrNI rfl (by omega) ?_|refine FBit.shrIN rfl (by omega) (by omega) ?_|refine FBit.shrI rfl (by omega) (by omega) ?_|refine FBit.shl1I rfl (by omega) ?_)|(with_reducible refine FBit.has rfl (fun hq=>?_) (fun hq=>?_))|(with_reducible first|refine FBit.and1 rfl ?_|refine FBit.andN rfl (by omega) (by omega) ?_|refine FBit.orN rfl (by omega) (by omega) ?_|refine FBit.andNotN rfl (by omega) (by omega) ?_)|(with_reducible refine wG ?_)|(refine FCall.pure ((open_y _ _ _ h0)) ⟨Ln.sameB _ rfl,Ln.sameB _ rfl,True.intro⟩ rfl ?_)|(with_reducible refine wP ?_)))
 all_goals (try conv=>whnf)
 refine FRange.ofM (ACalls.mono _) (X:=Nat) N (fun k=>[AU (k + 1)]) (fun y=>[(6,.ptr 0 0),(8,.rp 1 1 0 0),(24,mTeams f c j)]) (fun y=>[.box 1 (ofL [pTask f c j (lawOf c j)]),.row 64 1 (fun k _=>AI (cntT c j y k))])
  (fun k y=>k = y) 0 ⟨rfl,[2,3],wO rfl rfl rfl (wV rfl LnB.A (wV rfl (LnB.rowE (Nat.le_refl _) (fun _ _ _ _=>rfl)) wX)),allA⟩ rfl rfl (teams_it f c j (lawOf c j) _ N rfl d2 hN) (fun _ _=>rfl) ?round ?done
 case round =>
  rintro k y hk rfl
  have hb:=broken_lt c j (k + 1)
  have hle:=cntT_le (c:=c) (j:=j) (b:=brokenT c j (k + 1)) k
  have cntR:∀ b o:Nat,AI (cntT c j (k + 1) b) = updRm (fun k1 x=>AI (cntT c j k k1)) (brokenT c j (k + 1)) (fun _=>AI ((cntT c j k (brokenT c j (k + 1)):Int) + 1)) b o:=fun b o=>by
   simp only [updRm,cntT]
   by_cases h:b = brokenT c j (k + 1)
   ·subst h;rw [if_pos rfl,if_pos rfl];exact int_eq (by omega)
   ·rw [if_neg h,if_neg h]

  (repeat' ((try conv=>whnf);first|(with_reducible first|refine wT ?_|refine wF ?_|(refine wI (fun hq=>?_) (fun hq=>?_) <;> try simp only [zA,zE,zD,zJ,zB,zI,wK,wL] at hq)|refine wA ?_|refine wB ?_|refine wC ?_|refine wD ?_|refine wE ?_)|((with_reducible refine wN ?_ ?_);focus exact needA)|(with_reducible first|refine FBit.hasT rfl (by assumption) ?_|refine FBit.hasF rfl (by assumption) ?_|refine FBit.shrN rfl (by omega) ?_|refine FBit.half rfl ?_|refine FBit.shl1 rfl (by omega) ?_|refine Fits.inU (by omega) ?_|refine FBit.shrNI rfl (by omega) ?_|refine FBit.shrIN rfl (by omega) (by omega) ?_|refine FBit.shrI rfl (by omega) (by omega) ?_|refine FBit.shl1I rfl (by omega) ?_)|(with_reducible refine FBit.has rfl (fun hq=>?_) (fun hq=>?_))|(with_reducible first|refine FBit.and1 rfl ?_|refine FBit.andN rfl (by omega) (by omega) ?_|refine FBit.orN rfl (by omega) (by omega) ?_|refine FBit.andNotN rfl (by omega) (by omega) ?_)|(with_reducible refine wG ?_)|(refine FCall.pure ((pbroken_ok _ _ _ _ hc hj (by omega))) ⟨Ln.sameB _ rfl,Ln.sameB _ rfl,True.intro⟩ rfl ?_)|(with_reducible refine wP ?_)))
  all_goals (try conv=>whnf)
  (exact ⟨⟨(k + 1),rfl,[0,1],(by (refine wO rfl rfl rfl ?_;repeat (first|exact wX|(refine wV rfl (by first|exact LnB.rowS|exact LnB.rowE (Nat.le_refl _) (fun b hb o ho=>cntR b o)|exact LnB.A) ?_)|(refine CutL.gone (Nat.lt_of_lt_of_le (Nat.lt_succ_self _) (Nat.le_of_ble_eq_true rfl)) ?_)))),allA⟩⟩)
 case done =>
  rintro y rfl
  have hc0:=cntT_pos (c:=c) (j:=j) (b:=0) N
  (repeat' ((try conv=>whnf);first|(with_reducible first|refine wT ?_|refine wF ?_|(refine wI (fun hq=>?_) (fun hq=>?_) <;> try simp only [zA,zE,zD,zJ,zB,zI,wK,wL] at hq)|refine wA ?_|refine wB ?_|refine wC ?_|refine wD ?_|refine wE ?_)|((with_reducible refine wN ?_ ?_);focus exact needA)|(with_reducible first|refine FBit.hasT rfl (by assumption) ?_|refine FBit.hasF rfl (by assumption) ?_|refine FBit.shrN rfl (by omega) ?_|refine FBit.half rfl ?_|refine FBit.shl1 rfl (by omega) ?_|refine Fits.inU (by omega) ?_|refine FBit.shrNI rfl (by omega) ?_|refine FBit.shrIN rfl (by omega) (by omega) ?_|refine FBit.shrI rfl (by omega) (by omega) ?_|refine FBit.shl1I rfl (by omega) ?_)|(with_reducible refine FBit.has rfl (fun hq=>?_) (fun hq=>?_))|(with_reducible first|refine FBit.and1 rfl ?_|refine FBit.andN rfl (by omega) (by omega) ?_|refine FBit.orN rfl (by omega) (by omega) ?_|refine FBit.andNotN rfl (by omega) (by omega) ?_)|(with_reducible refine wG ?_)|(with_reducible refine wP ?_)))
  all_goals (try conv=>whnf)
  all_goals rw [show (0:Int).toNat = 0 from rfl] at hq
  ·(refine ⟨⟨_,[],[],Cut.nil _,Ln.sameB _ rfl,?_,rfl⟩⟩)
   have hk:∀ r,keptT c j r = true:=fun r=>(kept_cnt hN).2 ⟨0,by decide,by omega,Nat.and_zero r⟩
   have hw:∀ r,whyS c j r = none:=fun r=>by
    induction r with
    | zero=>rfl
    | succ r ih=>rw [whyS,hk r,ih];rfl
   unfold whyE;rw [if_pos h0,hw];rfl
  ·have hk63:keptT c j 63 = false:=Bool.eq_false_iff.2 fun h=>by
    obtain ⟨b,h1,h2,h3⟩:=(kept_cnt hN).1 h
    have hb0:b = 0:=by
     have e:63 &&& b = b % 2 ^ 6:=by rw [Nat.and_comm];exact Nat.and_two_pow_sub_one_eq_mod b 6
     rw [e] at h3;omega
    subst hb0
    omega
   have hE:whyE c j = ((whyP c j 63:Int),0):=whyE_p h0 hk63
   rw [hE]
   refine FLoop.of (ACalls.mono _) (X:=Nat) (fun r=>[(8,.rp 0 1 0 0),(10,AU (whyP c j r)),(36,AU 63),(37,AU r)]) (fun _=>[.row 64 1 (fun k _=>AI (cntT c j N k))]) (fun r=>r ≤ 63) (fun r=>63 - r) 0 ⟨Nat.zero_le _,[1],Cut.A,allA⟩ ?_
   intro r hr
   have hpl:=whyP_lt c j r
   by_cases hlt:r < 63
   ·(repeat' ((try conv=>whnf);first|(with_reducible first|refine wT ?_|refine wF ?_|(refine wI (fun hq=>?_) (fun hq=>?_) <;> try simp only [zA,zE,zD,zJ,zB,zI,wK,wL] at hq)|refine wA ?_|refine wB ?_|refine wC ?_|refine wD ?_|refine wE ?_)|((with_reducible refine wN ?_ ?_);focus exact needA)|(with_reducible first|refine FBit.hasT rfl (by assumption) ?_|refine FBit.hasF rfl (by assumption) ?_|refine FBit.shrN rfl (by omega) ?_|refine FBit.half rfl ?_|refine FBit.shl1 rfl (by omega) ?_|refine Fits.inU (by omega) ?_|refine FBit.shrNI rfl (by omega) ?_|refine FBit.shrIN rfl (by omega) (by omega) ?_|refine FBit.shrI rfl (by omega) (by omega) ?_|refine FBit.shl1I rfl (by omega) ?_)|(with_reducible refine FBit.has rfl (fun hq=>?_) (fun hq=>?_))|(with_reducible first|refine FBit.and1 rfl ?_|refine FBit.andN rfl (by omega) (by omega) ?_|refine FBit.orN rfl (by omega) (by omega) ?_|refine FBit.andNotN rfl (by omega) (by omega) ?_)|(with_reducible refine wG ?_)|(with_reducible refine wP ?_)))
    all_goals (try conv=>whnf)
    refine FLoop.of (ACalls.mono _) (X:=Nat) (fun q=>[(8,.rp 0 1 0 0),(10,AU (whyP c j r)),(11,AU r),(36,AU 63),(37,AU r),(40,.agg 64 (fun k=>AI (cntT c j N k))),(41,AI q)]) (fun _=>[.row 64 1 (fun k _=>AI (cntT c j N k))]) (fun q=>q ≤ 64 ∧ ∀ b,b < q → ¬ (0 < cntT c j N b ∧ r &&& b = 0)) (fun q=>64 - q) 0 ⟨⟨Nat.zero_le _,fun b hb=>by omega⟩,[0],Cut.A,?vals⟩ ?_
    case vals=>exact ⟨Ln.A,Ln.A,Ln.A,Ln.A,Ln.A,Ln.agg _ _ _ (fun i hi=>by rw [tab_get hi,Nat.zero_add];exact Ln.A),Ln.A,True.intro⟩
    rintro q ⟨hq1,hno⟩
    by_cases hql:q < 64
    ·(repeat' ((try conv=>whnf);first|(with_reducible first|refine wT ?_|refine wF ?_|(refine wI (fun hq=>?_) (fun hq=>?_) <;> try simp only [zA,zE,zD,zJ,zB,zI,wK,wL] at hq)|refine wA ?_|refine wB ?_|refine wC ?_|refine wD ?_|refine wE ?_)|((with_reducible refine wN ?_ ?_);focus exact needA)|(with_reducible first|refine FBit.hasT rfl (by assumption) ?_|refine FBit.hasF rfl (by assumption) ?_|refine FBit.shrN rfl (by omega) ?_|refine FBit.half rfl ?_|refine FBit.shl1 rfl (by omega) ?_|refine Fits.inU (by omega) ?_|refine FBit.shrNI rfl (by omega) ?_|refine FBit.shrIN rfl (by omega) (by omega) ?_|refine FBit.shrI rfl (by omega) (by omega) ?_|refine FBit.shl1I rfl (by omega) ?_)|(with_reducible refine FBit.has rfl (fun hq=>?_) (fun hq=>?_))|(with_reducible first|refine FBit.and1 rfl ?_|refine FBit.andN rfl (by omega) (by omega) ?_|refine FBit.orN rfl (by omega) (by omega) ?_|refine FBit.andNotN rfl (by omega) (by omega) ?_)|(with_reducible refine wG ?_)|(refine FBit.andN rfl (by omega) (by omega) ?_)|(with_reducible refine wP ?_)))
     all_goals (try conv=>whnf)
     all_goals simp only [Nat.mul_one] at *
     ·have hwk:=whyP_kept (c:=c) (j:=j) (r:=r) ((kept_cnt hN).2 ⟨q,hql,by omega,by omega⟩)
      (exact ⟨⟨(r + 1),(show r + 1 ≤ 63 by omega),by show _ < _;omega,[0],Cut.A,allA⟩⟩)
     ·(exact ⟨⟨(q + 1),⟨hql,fun b hb=>by by_cases e:b = q;(· subst e;omega);exact hno b (by omega)⟩,by show _ < _;omega,[0],Cut.A,allA⟩⟩)
     ·(exact ⟨⟨(q + 1),⟨hql,fun b hb=>by by_cases e:b = q;(· subst e;omega);exact hno b (by omega)⟩,by show _ < _;omega,[0],Cut.A,allA⟩⟩)
    ·obtain rfl:q = 64:=by omega
     have hkr:keptT c j r = false:=Bool.eq_false_iff.2 fun h=>by
      obtain ⟨b,h1,h2,h3⟩:=(kept_cnt hN).1 h
      exact hno b h1 ⟨h2,h3⟩
     (repeat' ((try conv=>whnf);first|(with_reducible first|refine wT ?_|refine wF ?_|(refine wI (fun hq=>?_) (fun hq=>?_) <;> try simp only [zA,zE,zD,zJ,zB,zI,wK,wL] at hq)|refine wA ?_|refine wB ?_|refine wC ?_|refine wD ?_|refine wE ?_)|((with_reducible refine wN ?_ ?_);focus exact needA)|(with_reducible first|refine FBit.hasT rfl (by assumption) ?_|refine FBit.hasF rfl (by assumption) ?_|refine FBit.shrN rfl (by omega) ?_|refine FBit.half rfl ?_|refine FBit.shl1 rfl (by omega) ?_|refine Fits.inU (by omega) ?_|refine FBit.shrNI rfl (by omega) ?_|refine FBit.shrIN rfl (by omega) (by omega) ?_|refine FBit.shrI rfl (by omega) (by omega) ?_|refine FBit.shl1I rfl (by omega) ?_)|(with_reducible refine FBit.has rfl (fun hq=>?_) (fun hq=>?_))|(with_reducible first|refine FBit.and1 rfl ?_|refine FBit.andN rfl (by omega) (by omega) ?_|refine FBit.orN rfl (by omega) (by omega) ?_|refine FBit.andNotN rfl (by omega) (by omega) ?_)|(with_reducible refine wG ?_)|(refine FCall.pure ((psize_ok r (by omega))) ⟨Ln.sameB _ rfl,True.intro⟩ rfl ?_)|(refine FCall.pure ((psize_ok (whyP c j r) (by omega))) ⟨Ln.sameB _ rfl,True.intro⟩ rfl ?_)|(with_reducible refine wP ?_)))
     all_goals (try conv=>whnf)
     ·have hwk:=whyP_yes (c:=c) (j:=j) (r:=r) hlt hkr (by omega)
      (exact ⟨⟨(r + 1),(show r + 1 ≤ 63 by omega),by show _ < _;omega,[0],Cut.A,allA⟩⟩)
     ·have hwk:=whyP_no (c:=c) (j:=j) (r:=r) hlt hkr (by omega)
      (exact ⟨⟨(r + 1),(show r + 1 ≤ 63 by omega),by show _ < _;omega,[0],Cut.A,allA⟩⟩)
   ·obtain rfl:r = 63:=by omega
    (repeat' ((try conv=>whnf);first|(with_reducible first|refine wT ?_|refine wF ?_|(refine wI (fun hq=>?_) (fun hq=>?_) <;> try simp only [zA,zE,zD,zJ,zB,zI,wK,wL] at hq)|refine wA ?_|refine wB ?_|refine wC ?_|refine wD ?_|refine wE ?_)|((with_reducible refine wN ?_ ?_);focus exact needA)|(with_reducible first|refine FBit.hasT rfl (by assumption) ?_|refine FBit.hasF rfl (by assumption) ?_|refine FBit.shrN rfl (by omega) ?_|refine FBit.half rfl ?_|refine FBit.shl1 rfl (by omega) ?_|refine Fits.inU (by omega) ?_|refine FBit.shrNI rfl (by omega) ?_|refine FBit.shrIN rfl (by omega) (by omega) ?_|refine FBit.shrI rfl (by omega) (by omega) ?_|refine FBit.shl1I rfl (by omega) ?_)|(with_reducible refine FBit.has rfl (fun hq=>?_) (fun hq=>?_))|(with_reducible first|refine FBit.and1 rfl ?_|refine FBit.andN rfl (by omega) (by omega) ?_|refine FBit.orN rfl (by omega) (by omega) ?_|refine FBit.andNotN rfl (by omega) (by omega) ?_)|(with_reducible refine wG ?_)|(with_reducible refine wP ?_)))
    all_goals (try conv=>whnf)
    all_goals (refine ⟨⟨_,[],[],Cut.nil _,Ln.sameB _ rfl,?_,rfl⟩⟩)
    all_goals rfl
theorem pwhy_ok (f:CFl) (c:Crew) (j:Job):ACall Try.prog 15 [aCrew f c,aJob j] [] (fun r h=>r = .tup 2 (ofL [AI (whyE c j).1,AI (whyE c j).2]) ∧ h = []):=by
 by_cases h0:checkT c j = 0
 ·exact pwhy_y f c j h0
 ·exact pwhy_n f c j h0
end Go.Proofs.Ytdipcdallenmkaa

namespace Go.Proofs.Ytdipcdallenmkaa
open Go.RowKit

set_option maxHeartbeats 4000000
set_option maxRecDepth 100000
theorem pchain_n (f:CFl) (c:Crew) (j:Job) (m:Int) (h0:checkT c j ≠ 0):ACall Try.prog 21 [aCrew f c,aJob j,AI m] [] (fun r h=>r = .tup 2 (ofL [outI (chainE c j m).1,AI (chainE c j m).2]) ∧ h = []):=by
 have ht:=team_n f c j m h0
 have hne:checkTm c j m ≠ 0:=by rw [checkTm_c h0];exact h0
 (refine fcall_of mixed Try.func21 rfl (by decide) (hs:={}) ?k (ac:=?ac) ?c (rs:=?rs) ?r ?l ?H;(case k=>kernel_rfl);(case c=>(conv=>(lhs;cbv)));(case r=>(conv=>(lhs;cbv)));(case l=>exact Nat.le_of_ble_eq_true rfl))
 (repeat' ((try conv=>whnf);first|(with_reducible first|refine wT ?_|refine wF ?_|(refine wI (fun hq=>?_) (fun hq=>?_) <;> try simp only [zA,zE,zD,zJ,zB,zI,wK,wL] at hq)|refine wA ?_|refine wB ?_|refine wC ?_|refine wD ?_|refine wE ?_)|((with_reducible refine wN ?_ ?_);focus exact needA)|(with_reducible refine wG ?_)|(refine FCall.pure (ht) ⟨Ln.sameB _ rfl,Ln.sameB _ rfl,Ln.sameB _ rfl,True.intro⟩ rfl ?_)|(with_reducible refine wP ?_)))
 all_goals (try conv=>whnf)
 have hcE:chainE c j m = ([],checkTm c j m):=by unfold chainE;rw [if_neg hne]
 rw [hcE]
 exact ⟨⟨.tup 2 (ofL [outI [],AI (checkTm c j m)]),[],[],Cut.nil _,Ln.A,rfl,rfl⟩⟩
theorem pchain_y (f:CFl) (c:Crew) (j:Job) (m:Int) (h0:checkT c j = 0):ACall Try.prog 21 [aCrew f c,aJob j,AI m] [] (fun r h=>r = .tup 2 (ofL [outI (chainE c j m).1,AI (chainE c j m).2]) ∧ h = []):=by
 have ht:=team_y f c j m h0
 (refine fcall_of mixed Try.func21 rfl (by decide) (hs:={}) ?k (ac:=?ac) ?c (rs:=?rs) ?r ?l ?H;(case k=>kernel_rfl);(case c=>(conv=>(lhs;cbv)));(case r=>(conv=>(lhs;cbv)));(case l=>exact Nat.le_of_ble_eq_true rfl))
 (repeat' ((try conv=>whnf);first|(with_reducible first|refine wT ?_|refine wF ?_|(refine wI (fun hq=>?_) (fun hq=>?_) <;> try simp only [zA,zE,zD,zJ,zB,zI,wK,wL] at hq)|refine wA ?_|refine wB ?_|refine wC ?_|refine wD ?_|refine wE ?_)|((with_reducible refine wN ?_ ?_);focus exact needA)|(with_reducible refine wG ?_)|(refine FCall.pure (ht) ⟨Ln.sameB _ rfl,Ln.sameB _ rfl,Ln.sameB _ rfl,True.intro⟩ rfl ?_)|(with_reducible refine wP ?_)))
 all_goals (try conv=>whnf)
 ·have hcE:chainE c j m = ([],checkTm c j m):=by unfold chainE;rw [if_neg hq]
  rw [hcE]
  exact ⟨⟨.tup 2 (ofL [outI [],AI (checkTm c j m)]),[],[],Cut.nil _,Ln.A,rfl,rfl⟩⟩
 ·obtain ⟨hc,hj,h0,h1⟩:=checkTm_0 hq
  obtain ⟨s,rfl⟩:∃ s:Nat,m = s:=⟨m.toNat,by omega⟩
  have hq0:=hq
  obtain ⟨d1,d2,d3,d4,d5⟩:=crew_d hc
  have hp:=pow_le d2
  have hs:s < 256:=by omega
  clear hq h0 h1
  obtain ⟨j1,j2,j3,j4,j5,j6,j7⟩:=job_d hj
  obtain ⟨n,hn⟩:∃ n:Nat,c.langs = n:=⟨c.langs.toNat,by omega⟩
  have hnn:c.langs.toNat = n:=by omega
  obtain ⟨a,ha⟩:∃ a:Nat,j.fr = a:=⟨j.fr.toNat,by omega⟩
  obtain ⟨b,hb⟩:∃ b:Nat,j.to = b:=⟨j.to.toNat,by omega⟩
  have haa:j.fr.toNat = a:=by omega
  have hbb:j.to.toNat = b:=by omega
  have hdl:∀ {x:Nat},(distL n (relT c s (lawOf c j).level) x).length = n:=by simp [distL]
  have hdg:∀ {x:Nat},x < n → (distL n (relT c s (lawOf c j).level) b).getD x 0 = dist n (relT c s (lawOf c j).level) b x:=fun h=>getD_range h
  have hB:backT c j s = dist n (relT c s (lawOf c j).level) b:=by unfold backT relOf;rw [hnn,hbb]
  have hga:=hdg (x:=a) (by omega)
  have hbl:=hdl (x:=b)
  have hfar:=far_ok f c j (lawOf c j) s n b hc hn hb (by omega)
  (repeat' ((try conv=>whnf);first|(with_reducible first|refine wT ?_|refine wF ?_|(refine wI (fun hq=>?_) (fun hq=>?_) <;> try simp only [zA,zE,zD,zJ,zB,zI,wK,wL] at hq)|refine wA ?_|refine wB ?_|refine wC ?_|refine wD ?_|refine wE ?_)|((with_reducible refine wN ?_ ?_);focus exact needA)|(with_reducible first|refine FBit.hasT rfl (by assumption) ?_|refine FBit.hasF rfl (by assumption) ?_|refine FBit.shrN rfl (by omega) ?_|refine FBit.half rfl ?_|refine FBit.shl1 rfl (by omega) ?_|refine Fits.inU (by omega) ?_|refine FBit.shrNI rfl (by omega) ?_|refine FBit.shrIN rfl (by omega) (by omega) ?_|refine FBit.shrI rfl (by omega) (by omega) ?_|refine FBit.shl1I rfl (by omega) ?_)|(with_reducible refine FBit.has rfl (fun hq=>?_) (fun hq=>?_))|(with_reducible first|refine FBit.and1 rfl ?_|refine FBit.andN rfl (by omega) (by omega) ?_|refine FBit.orN rfl (by omega) (by omega) ?_|refine FBit.andNotN rfl (by omega) (by omega) ?_)|(with_reducible refine wG ?_)|(refine FCall.pure (hfar) ⟨Ln.sameB _ rfl,Ln.sameB _ rfl,True.intro⟩ rfl ?_)|(with_reducible refine wP ?_)))
  all_goals (try conv=>whnf)
  ·have hneg:dist n (relT c s (lawOf c j).level) b a < 0:=by rw [← hga,← haa];exact hq
   have hcE:chainE c j s = ([],3):=by unfold chainE;rw [if_pos hq0,if_pos (by rw [Int.toNat_natCast,hB,haa];exact hneg)]
   rw [hcE]
   exact ⟨⟨.tup 2 (ofL [outI [],AI 3]),[],[],Cut.nil _,Ln.A,rfl,rfl⟩⟩
  ·rw [haa,hga] at hq
   obtain ⟨k,hk⟩:∃ k:Nat,dist n (relT c s (lawOf c j).level) b a = k:=⟨(dist n (relT c s (lawOf c j).level) b a).toNat,by omega⟩
   have hjn:∀ x y:Nat,x < n → y < n → ACall Try.prog 47 [pTask f c j (lawOf c j),AU s,AI x,AI y] [] (fun r h=>r = .bool (relT c s (lawOf c j).level x y) ∧ h = []):=fun x y hx hy=>joined_ok f c j (lawOf c j) s x y hc (by omega) (by omega)
   generalize hR:relT c s (lawOf c j).level = R at *
   have hRs:∀ a b,R a b = R b a:=fun a b=>by rw [← hR];exact rel_sym _ _ _ _ _
   have hcE:chainE c j s = ((a:Int) :: chainL n R (dist n R b) k a,0):=by
    unfold chainE
    rw [if_pos hq0,if_neg (by rw [Int.toNat_natCast,hB,haa];omega)]
    unfold chainT
    rw [Int.toNat_natCast,hB,haa,hk,hnn,ha]
    unfold relOf
    rw [hR];rfl
   rw [hcE]
   generalize hW:(a:Int) :: chainL n R (dist n R b) k a = W
   have hkn:=dist_lt (R:=R) (a:=b) (b:=a) (n:=n) (by omega)
   refine FLoop.of4 (ACalls.mono _) (fun (e k m:Nat) (l:List Int)=>[(2,AI s),(4,.ptr 0 0),(8,pTask f c j (lawOf c j)),(10,aInts false false (distL n R b)),(11,match m with|0=>aInts false true [(a:Int)]|m + 1=>.own 1 (m + 2)),(12,AI e)]) (fun e k m l=>match m with
    | 0=>[.box 6 (cJob j)]
    | m + 1=>[.box 6 (cJob j),rowI (m + 2) l]) (fun e k m l=>e < n ∧ dist n R b e = k ∧ m + 1 = l.length ∧ l ++ chainL n R (dist n R b) k e = W ∧ m + k < n ∧ (m = 0 → e = a ∧ l = [(a:Int)])) (fun e k m l=>k) a k 0 [(a:Int)] ⟨⟨by omega,hk,rfl,hW,by omega,fun _=>⟨rfl,rfl⟩⟩,[1],Cut.A,?vals⟩ ?_
   case vals=>exact ⟨Ln.A,Ln.A,Ln.A,Ln.A,Ln.sl _ _ _ _ _ _ _ (fun _=>rfl) (fun k hk o ho=>by obtain rfl:k = 0:=(by omega);rw [← ha];rfl),Ln.A,True.intro⟩
   rintro e k m l ⟨he,hke,hml,hl,hmk,hm0⟩
   have hge:=hdg he
   by_cases hab:e = b
   ·subst hab
    rw [dist_self] at hke
    obtain rfl:k = 0:=by omega
    rw [chainL,List.append_nil] at hl
    rcases m with _|m
    ·have:=(hm0 rfl).1;omega
    ·(repeat' ((try conv=>whnf);first|(with_reducible first|refine wT ?_|refine wF ?_|(refine wI (fun hq=>?_) (fun hq=>?_) <;> try simp only [zA,zE,zD,zJ,zB,zI,wK,wL] at hq)|refine wA ?_|refine wB ?_|refine wC ?_|refine wD ?_|refine wE ?_)|((with_reducible refine wN ?_ ?_);focus exact needA)|(with_reducible first|refine FBit.hasT rfl (by assumption) ?_|refine FBit.hasF rfl (by assumption) ?_|refine FBit.shrN rfl (by omega) ?_|refine FBit.half rfl ?_|refine FBit.shl1 rfl (by omega) ?_|refine Fits.inU (by omega) ?_|refine FBit.shrNI rfl (by omega) ?_|refine FBit.shrIN rfl (by omega) (by omega) ?_|refine FBit.shrI rfl (by omega) (by omega) ?_|refine FBit.shl1I rfl (by omega) ?_)|(with_reducible refine FBit.has rfl (fun hq=>?_) (fun hq=>?_))|(with_reducible first|refine FBit.and1 rfl ?_|refine FBit.andN rfl (by omega) (by omega) ?_|refine FBit.orN rfl (by omega) (by omega) ?_|refine FBit.andNotN rfl (by omega) (by omega) ?_)|(with_reducible refine wG ?_)|(with_reducible refine wP ?_)))
     all_goals (try conv=>whnf)
     rw [← hl]
     exact ⟨⟨.tup 2 (ofL [outI l,AI 0]),[],[],Cut.nil _,Ln.tupN ⟨⟨True.intro,Ln.out (goneB rfl) rfl (Nat.le_refl _) hml (fun _ _ _ _=>rfl)⟩,Ln.A⟩,rfl,rfl⟩⟩
   ·obtain ⟨k,rfl⟩:∃ k',k = k' + 1:=⟨k - 1,by
     have h0:dist n R b e ≠ 0:=fun h=>hab (dist_zero h).symm
     omega⟩
    rcases m with _|m
    ·obtain ⟨hea,hla⟩:=hm0 rfl
     subst hla
     (repeat' ((try conv=>whnf);first|(with_reducible first|refine wT ?_|refine wF ?_|(refine wI (fun hq=>?_) (fun hq=>?_) <;> try simp only [zA,zE,zD,zJ,zB,zI,wK,wL] at hq)|refine wA ?_|refine wB ?_|refine wC ?_|refine wD ?_|refine wE ?_)|((with_reducible refine wN ?_ ?_);focus exact needA)|(with_reducible first|refine FBit.hasT rfl (by assumption) ?_|refine FBit.hasF rfl (by assumption) ?_|refine FBit.shrN rfl (by omega) ?_|refine FBit.half rfl ?_|refine FBit.shl1 rfl (by omega) ?_|refine Fits.inU (by omega) ?_|refine FBit.shrNI rfl (by omega) ?_|refine FBit.shrIN rfl (by omega) (by omega) ?_|refine FBit.shrI rfl (by omega) (by omega) ?_|refine FBit.shl1I rfl (by omega) ?_)|(with_reducible refine FBit.has rfl (fun hq=>?_) (fun hq=>?_))|(with_reducible first|refine FBit.and1 rfl ?_|refine FBit.andN rfl (by omega) (by omega) ?_|refine FBit.orN rfl (by omega) (by omega) ?_|refine FBit.andNotN rfl (by omega) (by omega) ?_)|(with_reducible refine wG ?_)|(with_reducible refine wP ?_)))
     all_goals (try conv=>whnf)
     refine FLoop.of (ACalls.mono _) (X:=Nat) (fun q=>[(2,AI s),(4,.ptr 0 0),(8,pTask f c j (lawOf c j)),(10,aInts false false (distL n R b)),(11,aInts false true [(a:Int)]),(12,AI e),(44,aInts false false (distL n R b)),(45,AI n),(46,AI q)]) (fun _=>[.box 6 (cJob j)]) (fun q=>q ≤ n ∧ ∀ x,x < q → ¬ (dist n R b x = dist n R b e - 1 ∧ R e x = true)) (fun q=>n - q) 0 ⟨⟨Nat.zero_le _,fun x hx=>by omega⟩,[0],Cut.A,allA⟩ ?_
     rintro q ⟨hq1,hno⟩
     by_cases hql:q < n
     ·have hgq:=hdg hql
      have hjc:=hjn e q he hql
      (repeat' ((try conv=>whnf);first|(with_reducible first|refine wT ?_|refine wF ?_|(refine wI (fun hq=>?_) (fun hq=>?_) <;> try simp only [zA,zE,zD,zJ,zB,zI,wK,wL] at hq)|refine wA ?_|refine wB ?_|refine wC ?_|refine wD ?_|refine wE ?_)|((with_reducible refine wN ?_ ?_);focus exact needA)|(with_reducible first|refine FBit.hasT rfl (by assumption) ?_|refine FBit.hasF rfl (by assumption) ?_|refine FBit.shrN rfl (by omega) ?_|refine FBit.half rfl ?_|refine FBit.shl1 rfl (by omega) ?_|refine Fits.inU (by omega) ?_|refine FBit.shrNI rfl (by omega) ?_|refine FBit.shrIN rfl (by omega) (by omega) ?_|refine FBit.shrI rfl (by omega) (by omega) ?_|refine FBit.shl1I rfl (by omega) ?_)|(with_reducible refine FBit.has rfl (fun hq=>?_) (fun hq=>?_))|(with_reducible first|refine FBit.and1 rfl ?_|refine FBit.andN rfl (by omega) (by omega) ?_|refine FBit.orN rfl (by omega) (by omega) ?_|refine FBit.andNotN rfl (by omega) (by omega) ?_)|(with_reducible refine wG ?_)|(refine FCall.pure (hjc) ⟨Ln.sameB _ rfl,Ln.sameB _ rfl,Ln.sameB _ rfl,Ln.sameB _ rfl,True.intro⟩ rfl ?_)|(with_reducible refine wP ?_)))
      all_goals (try conv=>whnf)
      ·have hyes:R e q = true:=hq
       have hdq:dist n R b q = dist n R b e - 1:=by omega
       have hnx:=nextT_eq (D:=dist n R b) hql hno hdq hyes
       have hdk:dist n R b q = k:=by omega
       have hl2:[(a:Int)] ++ [(q:Int)] ++ chainL n R (dist n R b) k q = W:=by rw [← hl,chainL,hnx,List.append_assoc];rfl
       (exact ⟨⟨q,k,1,([(a:Int)] ++ [(q:Int)]),⟨hql,hdk,rfl,hl2,by omega,fun h=>by cases h⟩,by show k < k + 1;omega,[0,1],(by (refine wO rfl rfl rfl ?_;repeat (first|exact wX|(refine wV rfl (by first|exact LnB.rowS|exact LnB.app (fun k hk o ho=>by obtain rfl:k = 0:=(by omega);rfl) (fun o ho=>rfl)|exact LnB.A) ?_)|(refine CutL.gone (Nat.lt_of_lt_of_le (Nat.lt_succ_self _) (Nat.le_of_ble_eq_true rfl)) ?_)))),allA⟩⟩)
      ·(exact ⟨⟨(q + 1),⟨hql,fun x hx=>by by_cases e':x = q;(· subst e';intro h;rw [hq] at h;cases h.2);exact hno x (by omega)⟩,by show _ < _;omega,[0],Cut.A,allA⟩⟩)
      ·(exact ⟨⟨(q + 1),⟨hql,fun x hx=>by by_cases e':x = q;(· subst e';intro h;omega);exact hno x (by omega)⟩,by show _ < _;omega,[0],Cut.A,allA⟩⟩)
     ·exfalso
      obtain ⟨x,hx1,hx2,hx3⟩:=next_ex (n:=n) hRs (t:=b) (a:=e) (by omega)
      exact hno x (by omega) ⟨hx2,hx3⟩
    ·(repeat' ((try conv=>whnf);first|(with_reducible first|refine wT ?_|refine wF ?_|(refine wI (fun hq=>?_) (fun hq=>?_) <;> try simp only [zA,zE,zD,zJ,zB,zI,wK,wL] at hq)|refine wA ?_|refine wB ?_|refine wC ?_|refine wD ?_|refine wE ?_)|((with_reducible refine wN ?_ ?_);focus exact needA)|(with_reducible first|refine FBit.hasT rfl (by assumption) ?_|refine FBit.hasF rfl (by assumption) ?_|refine FBit.shrN rfl (by omega) ?_|refine FBit.half rfl ?_|refine FBit.shl1 rfl (by omega) ?_|refine Fits.inU (by omega) ?_|refine FBit.shrNI rfl (by omega) ?_|refine FBit.shrIN rfl (by omega) (by omega) ?_|refine FBit.shrI rfl (by omega) (by omega) ?_|refine FBit.shl1I rfl (by omega) ?_)|(with_reducible refine FBit.has rfl (fun hq=>?_) (fun hq=>?_))|(with_reducible first|refine FBit.and1 rfl ?_|refine FBit.andN rfl (by omega) (by omega) ?_|refine FBit.orN rfl (by omega) (by omega) ?_|refine FBit.andNotN rfl (by omega) (by omega) ?_)|(with_reducible refine wG ?_)|(with_reducible refine wP ?_)))
     all_goals (try conv=>whnf)
     refine FLoop.of (ACalls.mono _) (X:=Nat) (fun q=>[(2,AI s),(4,.ptr 0 0),(8,pTask f c j (lawOf c j)),(10,aInts false false (distL n R b)),(11,.own 1 (m + 2)),(12,AI e),(44,aInts false false (distL n R b)),(45,AI n),(46,AI q)]) (fun _=>[.box 6 (cJob j),rowI (m + 2) l]) (fun q=>q ≤ n ∧ ∀ x,x < q → ¬ (dist n R b x = dist n R b e - 1 ∧ R e x = true)) (fun q=>n - q) 0 ⟨⟨Nat.zero_le _,fun x hx=>by omega⟩,[0,1],Cut.A,allA⟩ ?_
     rintro q ⟨hq1,hno⟩
     by_cases hql:q < n
     ·have hgq:=hdg hql
      have hjc:=hjn e q he hql
      (repeat' ((try conv=>whnf);first|(with_reducible first|refine wT ?_|refine wF ?_|(refine wI (fun hq=>?_) (fun hq=>?_) <;> try simp only [zA,zE,zD,zJ,zB,zI,wK,wL] at hq)|refine wA ?_|refine wB ?_|refine wC ?_|refine wD ?_|refine wE ?_)|((with_reducible refine wN ?_ ?_);focus exact needA)|(with_reducible first|refine FBit.hasT rfl (by assumption) ?_|refine FBit.hasF rfl (by assumption) ?_|refine FBit.shrN rfl (by omega) ?_|refine FBit.half rfl ?_|refine FBit.shl1 rfl (by omega) ?_|refine Fits.inU (by omega) ?_|refine FBit.shrNI rfl (by omega) ?_|refine FBit.shrIN rfl (by omega) (by omega) ?_|refine FBit.shrI rfl (by omega) (by omega) ?_|refine FBit.shl1I rfl (by omega) ?_)|(with_reducible refine FBit.has rfl (fun hq=>?_) (fun hq=>?_))|(with_reducible first|refine FBit.and1 rfl ?_|refine FBit.andN rfl (by omega) (by omega) ?_|refine FBit.orN rfl (by omega) (by omega) ?_|refine FBit.andNotN rfl (by omega) (by omega) ?_)|(with_reducible refine wG ?_)|(refine FCall.pure (hjc) ⟨Ln.sameB _ rfl,Ln.sameB _ rfl,Ln.sameB _ rfl,Ln.sameB _ rfl,True.intro⟩ rfl ?_)|(with_reducible refine wP ?_)))
      all_goals (try conv=>whnf)
      ·have hyes:R e q = true:=hq
       have hdq:dist n R b q = dist n R b e - 1:=by omega
       have hnx:=nextT_eq (D:=dist n R b) hql hno hdq hyes
       have hdk:dist n R b q = k:=by omega
       have hl2:l ++ [(q:Int)] ++ chainL n R (dist n R b) k q = W:=by rw [← hl,chainL,hnx,List.append_assoc];rfl
       (exact ⟨⟨q,k,(m + 2),(l ++ [(q:Int)]),⟨hql,hdk,by rw [List.length_append,← hml];rfl,hl2,by omega,fun h=>by cases h⟩,by show k < k + 1;omega,[0,2],(by (refine wO rfl rfl rfl ?_;repeat (first|exact wX|(refine wV rfl (by first|exact LnB.rowS|exact LnB.app (fun k hk o ho=>int_eq (by rw [getD_snoc,if_pos (by omega)])) (fun o ho=>by show AI _ = AI _;exact int_eq (by rw [getD_snoc,if_neg (by omega),if_pos (by omega)]))|exact LnB.A) ?_)|(refine CutL.gone (Nat.lt_of_lt_of_le (Nat.lt_succ_self _) (Nat.le_of_ble_eq_true rfl)) ?_)))),allA⟩⟩)
      ·(exact ⟨⟨(q + 1),⟨hql,fun x hx=>by by_cases e':x = q;(· subst e';intro h;rw [hq] at h;cases h.2);exact hno x (by omega)⟩,by show _ < _;omega,[0,1],Cut.A,allA⟩⟩)
      ·(exact ⟨⟨(q + 1),⟨hql,fun x hx=>by by_cases e':x = q;(· subst e';intro h;omega);exact hno x (by omega)⟩,by show _ < _;omega,[0,1],Cut.A,allA⟩⟩)
     ·exfalso
      obtain ⟨x,hx1,hx2,hx3⟩:=next_ex (n:=n) hRs (t:=b) (a:=e) (by omega)
      exact hno x (by omega) ⟨hx2,hx3⟩
theorem pchain_ok (f:CFl) (c:Crew) (j:Job) (m:Int):ACall Try.prog 21 [aCrew f c,aJob j,AI m] [] (fun r h=>r = .tup 2 (ofL [outI (chainE c j m).1,AI (chainE c j m).2]) ∧ h = []):=by
 by_cases h0:checkT c j = 0
 ·exact pchain_y f c j m h0
 ·exact pchain_n f c j m h0
end Go.Proofs.Ytdipcdallenmkaa
