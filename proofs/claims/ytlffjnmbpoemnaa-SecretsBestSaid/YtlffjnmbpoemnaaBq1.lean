/- Secrets: the reference's search for a way. / Secrets: own rows of rows; the steps of a way one by one. / Secrets: words for rows of own rows. / Secrets: the reference's moved, 1 row. / Secrets: the reference's moved, 2 rows. -/
import Derived.Test.YtlffjnmbpoemnaaBs8
set_option linter.unusedSimpArgs false
set_option linter.unusedVariables false
namespace Go.Proofs.Ytlffjnmbpoemnaa
open Go.RowKit

/-- What a search for a way gives. -/
def WayOut (g:Gr) (frm to:Nat) (v:AV) (h:List AB):Prop:=(v = nilS ∧ h = [] ∧ ∃ P,Bfs g frm P [] ∧ P to = []) ∨ ∃ (p:List (Nat × Int)) (k:Nat) (C:Chn g frm p),p.length = k + 2 ∧ (p.head C.ne).1 = to ∧ v = .own 0 (k + 2) ∧ h = [rowW p (k + 1)]
set_option maxHeartbeats 16000000
set_option maxRecDepth 100000
theorem refWay_ok (f:ShF) (s:Sheet) (hs:SheetOk s) (z em:Bool) (m:List Int) (hm:MaskOk s m) (r0 c0:Nat) (hr0:r0 < s.R) (hc0:c0 < s.C) (up:Bool) (x:Nat → Nat → Int) (hx:∀ r c,r < s.R → c < s.C → 0 ≤ x r c) (frm to:Nat) (hft:(up = true → frm = s.R + c0 ∧ to = r0) ∧ (up = false → frm = r0 ∧ to = s.R + c0)):ACall Try.prog 83 [aSh f s,aInts z em m,AI r0,AI c0,.bool up,aMat s.R s.C x] [] (fun v h=>WayOut (gRef s m r0 c0 x) frm to v h):=by
 have r4:=hs.r4
 have c4:=hs.c4
 have hml:=hm.len
 have cC:=columns_ok f s (by have:=hs.r1;omega)
 obtain ⟨N,hN⟩:∃ N,s.R + s.C = N:=⟨_,rfl⟩
 have hfN:frm < N:=by cases up <;> simp at hft <;> omega
 have htN:to < N:=by cases up <;> simp at hft <;> omega
 have hne:frm ≠ to:=by cases up <;> simp at hft <;> omega
 (refine fcall_of mixed Try.func83 rfl (by decide) (hs:={}) ?k (ac:=?ac) ?c (rs:=?rs) ?r ?l ?H;(case k=>kernel_rfl);(case c=>(conv=>(lhs;cbv)));(case r=>(conv=>(lhs;cbv)));(case l=>exact Nat.le_of_ble_eq_true rfl))
 apply cutG
 ·intro rest
  cases up
  all_goals
   simp only [Bool.true_eq_false,Bool.false_eq_true,false_implies,true_implies,true_and,and_true] at hft
   obtain ⟨hf1,hf2⟩:=hft
   (repeat' ((try conv=>whnf);first|(with_reducible first|refine wT ?_|refine wF ?_|(refine wI (fun hq=>?_) (fun hq=>?_) <;> try simp only [zA,zE,zD,zJ,zB,zI,wK,wL] at hq)|refine wA ?_|refine wB ?_|refine wC ?_|refine wD ?_|refine wE ?_)|((with_reducible refine wN ?_ ?_);focus exact needA)|(with_reducible refine wG ?_)|(refine FCall.pure (cC) ⟨Ln.sameB _ rfl,True.intro⟩ rfl ?_)|(with_reducible refine wP ?_)))
   all_goals (try conv=>whnf)
   exact FLoop.of (ACalls.mono _) (X:=Nat) (fun i=>[(1,aInts z em m),(2,AI r0),(3,AI c0),(5,aMat s.R s.C x),(13,AI s.R),(14,AI frm),(15,AI to),(16,.own 0 N),(17,AI i)]) (fun i=>[rowF N (fun k=>if k < i then -1 else 0)]) (fun i=>i ≤ N) (fun i=>N - i) 0 ⟨Nat.zero_le _,[1],wO rfl rfl rfl (wV rfl (LnB.rowE (by omega) fun k hk o ho=>by obtain rfl:o = 0:=(by omega);rfl) wX),⟨Ln.A,Ln.A,Ln.A,Ln.A,Ln.A,Ln.A,Ln.A,Ln.ownE rfl (by omega),Ln.A,True.intro⟩⟩ rest.h
 clear hft
 intro i hi
 by_cases hlt:i < N
 ·(repeat' ((try conv=>whnf);first|(with_reducible first|refine wT ?_|refine wF ?_|(refine wI (fun hq=>?_) (fun hq=>?_) <;> try simp only [zA,zE,zD,zJ,zB,zI,wK,wL] at hq)|refine wA ?_|refine wB ?_|refine wC ?_|refine wD ?_|refine wE ?_)|((with_reducible refine wN ?_ ?_);focus exact needA)|(with_reducible refine wG ?_)|(with_reducible refine wP ?_)))
  all_goals (try conv=>whnf)
  exact ⟨⟨i + 1,hlt,by show N - (i + 1) < N - i;omega,[0],wO rfl rfl rfl (wV rfl (LnB.rowE (Nat.le_refl _) fun k hk o ho=>by
   show AI _ = updRm _ _ _ k o
   simp only [updRm]
   by_cases ek:k = i
   ·subst ek;rw [if_pos rfl,if_pos (Nat.lt_succ_self k)];rfl
   ·rw [if_neg ek]
    by_cases hk2:k < i
    ·rw [if_pos hk2,if_pos (by omega)]
    ·rw [if_neg hk2,if_neg (by omega)]) wX),allA⟩⟩
 obtain rfl:N = i:=by omega
 (repeat' ((try conv=>whnf);first|(with_reducible first|refine wT ?_|refine wF ?_|(refine wI (fun hq=>?_) (fun hq=>?_) <;> try simp only [zA,zE,zD,zJ,zB,zI,wK,wL] at hq)|refine wA ?_|refine wB ?_|refine wC ?_|refine wD ?_|refine wE ?_)|((with_reducible refine wN ?_ ?_);focus exact needA)|(with_reducible refine wG ?_)|(with_reducible refine wP ?_)))
 all_goals (try conv=>whnf)
 refine FLoop.of3M (ACalls.mono _) (fun (e:Nat) (P:Pth) (L:List Nat)=>[(1,aInts z em m),(2,AI r0),(3,AI c0),(5,aMat s.R s.C x),(13,AI s.R),(14,AI frm),(15,AI to),(16,.own 0 N),(18,qV frm e L)]) (fun e P L=>befR P N :: qB e L) (fun e P L=>Bfs (gRef s m r0 c0 x) frm P (L.drop (e - 1)) ∧ L.length + unv P N ≤ N ∧ (e = 0 → L = [] ∨ L = [frm]) ∧ e - 1 ≤ L.length) (fun e P L=>unv P N + (L.length - (e - 1))) 0 (Pth.set (fun _=>[]) frm [(frm,1)]) [frm]
  ⟨⟨Bfs.begin (by show frm < s.R + s.C;omega) (by decide) (by decide),by
   have h1:=unv_push (P:=fun _=>[]) (q:=(frm,1)) (l:=[]) rfl hfN
   have h2:=unv_le (fun _=>([]:List (Nat × Int))) N
   show 1 + _ ≤ N
   omega,fun _=>.inr rfl,Nat.zero_le _⟩,[0],wO rfl rfl rfl (wV rfl (LnB.rowE (Nat.le_refl _) fun k hk o ho=>by
   show AI (befI (Pth.set (fun _=>[]) frm [(frm,1)] k)) = updRm _ _ _ k o
   simp only [updRm]
   by_cases ek:k = frm
   ·subst ek;rw [Pth.set_at,if_pos rfl];rfl
   ·rw [Pth.set_ne ek,if_neg ek,if_pos hk];rfl) wX),⟨Ln.A,Ln.A,Ln.A,Ln.A,Ln.A,Ln.A,Ln.A,Ln.A,Ln.sl _ _ _ _ _ _ _ (fun _=>rfl) (fun k hk o ho=>by obtain rfl:k = 0:=(by omega);obtain rfl:o = 0:=(by omega);rfl),True.intro⟩⟩ ?_
 rintro e P L n ⟨hB,hLu,h0,hle⟩ hμ
 have hcu:=unv_le P N
 rcases hq:L.drop (e - 1) with _|⟨h,l⟩
 ·rw [hq] at hB
  have hLe:L.length - (e - 1) = 0:=by rw [← List.length_drop,hq];rfl
  rcases e with _|k
  ·obtain rfl:L = []:=by rcases h0 rfl with h|h;exact h;rw [h] at hLe;cases hLe
   by_cases hPt:P to = []
   ·have hbt:befI (P to) = -1:=by rw [hPt];rfl
    (repeat' ((try conv=>whnf);first|(with_reducible first|refine wT ?_|refine wF ?_|(refine wI (fun hq=>?_) (fun hq=>?_) <;> try simp only [zA,zE,zD,zJ,zB,zI,wK,wL] at hq)|refine wA ?_|refine wB ?_|refine wC ?_|refine wD ?_|refine wE ?_)|((with_reducible refine wN ?_ ?_);focus exact needA)|(with_reducible refine wG ?_)|(with_reducible refine wP ?_)))
    all_goals (try conv=>whnf)
    exact ⟨⟨nilS,[],[],Cut.nil _,Ln.A,.inl ⟨rfl,rfl,P,hB,hPt⟩⟩⟩
   ·have hbt:0 ≤ befI (P to):=befI_nn.2 hPt
    have C:=hB.chn' hPt
    have hw0:atW (P to) 0 = to:=by obtain ⟨_,_,v,t,et,_⟩:=hB.tr to hPt;rw [et];rfl
    have hlen:0 < (P to).length:=List.length_pos_iff.2 hPt
    have hl1:(P to).length ≠ 1:=fun e1=>by
     have:=(chn_last C (i:=0) (by omega)).2 (by omega)
     rw [show ((P to).getD 0 (0,0)).1 = atW (P to) 0 from rfl,hw0] at this
     exact hne this.symm
    have hlm:(P to).length ≤ 1000:=by
     have h1:=C.nod
     have h2:((P to).map (·.1)).length ≤ (List.range N).length:=pig h1 fun y hy=>by
      obtain ⟨q,hq,rfl⟩:=List.mem_map.1 hy
      have:q.1 < s.R + s.C:=C.lt q hq
      exact List.mem_range.2 (by omega)
     rw [List.length_map,List.length_range] at h2
     omega
    (repeat' ((try conv=>whnf);first|(with_reducible first|refine wT ?_|refine wF ?_|(refine wI (fun hq=>?_) (fun hq=>?_) <;> try simp only [zA,zE,zD,zJ,zB,zI,wK,wL] at hq)|refine wA ?_|refine wB ?_|refine wC ?_|refine wD ?_|refine wE ?_)|((with_reducible refine wN ?_ ?_);focus exact needA)|(with_reducible refine wG ?_)|(with_reducible refine wP ?_)))
    all_goals (try conv=>whnf)
    refine FLoop.of (ACalls.mono _) (X:=Nat) (fun k=>[(14,AI frm),(16,.own 0 N),(23,match k with|0=>one0 to|k + 1=>.own 1 (k + 2)),(24,AI (atW (P to) k:Nat))]) (fun k=>match k with
     | 0=>[befR P N]
     | k + 1=>[befR P N,rowW (P to) (k + 1)]) (fun k=>k < (P to).length) (fun k=>(P to).length - k) 0 ⟨hlen,[0],Cut.A,⟨Ln.A,Ln.A,Ln.sl _ _ _ _ _ _ _ (fun _=>rfl) (fun k hk o ho=>by obtain rfl:k = 0:=(by omega);obtain rfl:o = 0:=(by omega);rfl),Ln.int (by rw [hw0]),True.intro⟩⟩ ?_
    intro k hk
    have hatN:=atW_lt C hk
    have hatN':atW (P to) k < s.R + s.C:=hatN
    have hlast:=chn_last C hk
    by_cases hl:k = (P to).length - 1
    ·have hat:atW (P to) k = frm:=hlast.2 hl
     rcases k with _|k
     ·exact absurd hl (by omega)
     ·(repeat' ((try conv=>whnf);first|(with_reducible first|refine wT ?_|refine wF ?_|(refine wI (fun hq=>?_) (fun hq=>?_) <;> try simp only [zA,zE,zD,zJ,zB,zI,wK,wL] at hq)|refine wA ?_|refine wB ?_|refine wC ?_|refine wD ?_|refine wE ?_)|((with_reducible refine wN ?_ ?_);focus exact needA)|(with_reducible refine wG ?_)|(with_reducible refine wP ?_)))
      all_goals (try conv=>whnf)
      exact ⟨⟨_,[rowW (P to) (k + 1)],[1],Cut.A,Ln.A,.inr ⟨P to,k,C,by omega,by obtain ⟨_,_,v,t,et,_⟩:=hB.tr to hPt;simp [et],rfl,rfl⟩⟩⟩
    ·have hat:atW (P to) k ≠ frm:=fun e1=>hl (hlast.1 e1)
     have hbe:=bef_at hB.toTree (k:=to) (i:=k) (by omega)
     rcases k with _|k
     ·(repeat' ((try conv=>whnf);first|(with_reducible first|refine wT ?_|refine wF ?_|(refine wI (fun hq=>?_) (fun hq=>?_) <;> try simp only [zA,zE,zD,zJ,zB,zI,wK,wL] at hq)|refine wA ?_|refine wB ?_|refine wC ?_|refine wD ?_|refine wE ?_)|((with_reducible refine wN ?_ ?_);focus exact needA)|(with_reducible refine wG ?_)|(with_reducible refine wP ?_)))
      all_goals (try conv=>whnf)
      exact ⟨⟨0 + 1,by omega,by show _ - (0 + 1) < _ - 0;omega,[0,1],wO rfl rfl rfl (wV rfl LnB.A (wV rfl (LnB.rowE (by omega) fun i hi o ho=>rowW_step (k:=0) hbe (fun i hi=>by obtain rfl:i = 0:=(by omega);show AI _ = AI ((atW (P to) 0:Nat):Int);rw [hw0]) hi ho) wX)),⟨Ln.A,Ln.A,Ln.A,Ln.int hbe,True.intro⟩⟩⟩
     ·(repeat' ((try conv=>whnf);first|(with_reducible first|refine wT ?_|refine wF ?_|(refine wI (fun hq=>?_) (fun hq=>?_) <;> try simp only [zA,zE,zD,zJ,zB,zI,wK,wL] at hq)|refine wA ?_|refine wB ?_|refine wC ?_|refine wD ?_|refine wE ?_)|((with_reducible refine wN ?_ ?_);focus exact needA)|(with_reducible refine wG ?_)|(with_reducible refine wP ?_)))
      all_goals (try conv=>whnf)
      exact ⟨⟨k + 1 + 1,by omega,by show _ - (k + 1 + 1) < _ - (k + 1);omega,[0,2],wO rfl rfl rfl (wV rfl LnB.A (wV rfl (LnB.rowE (by omega) fun i hi o ho=>rowW_step hbe (fun i hi=>rfl) hi ho) wX)),⟨Ln.A,Ln.A,Ln.A,Ln.int hbe,True.intro⟩⟩⟩
  ·have hk:L.length - k = 0:=hLe
   by_cases hPt:P to = []
   ·have hbt:befI (P to) = -1:=by rw [hPt];rfl
    (repeat' ((try conv=>whnf);first|(with_reducible first|refine wT ?_|refine wF ?_|(refine wI (fun hq=>?_) (fun hq=>?_) <;> try simp only [zA,zE,zD,zJ,zB,zI,wK,wL] at hq)|refine wA ?_|refine wB ?_|refine wC ?_|refine wD ?_|refine wE ?_)|((with_reducible refine wN ?_ ?_);focus exact needA)|(with_reducible refine wG ?_)|(with_reducible refine wP ?_)))
    all_goals (try conv=>whnf)
    exact ⟨⟨nilS,[],[],Cut.nil _,Ln.A,.inl ⟨rfl,rfl,P,hB,hPt⟩⟩⟩
   ·have hbt:0 ≤ befI (P to):=befI_nn.2 hPt
    have C:=hB.chn' hPt
    have hw0:atW (P to) 0 = to:=by obtain ⟨_,_,v,t,et,_⟩:=hB.tr to hPt;rw [et];rfl
    have hlen:0 < (P to).length:=List.length_pos_iff.2 hPt
    have hl1:(P to).length ≠ 1:=fun e1=>by
     have:=(chn_last C (i:=0) (by omega)).2 (by omega)
     rw [show ((P to).getD 0 (0,0)).1 = atW (P to) 0 from rfl,hw0] at this
     exact hne this.symm
    have hlm:(P to).length ≤ 1000:=by
     have h1:=C.nod
     have h2:((P to).map (·.1)).length ≤ (List.range N).length:=pig h1 fun y hy=>by
      obtain ⟨q,hq,rfl⟩:=List.mem_map.1 hy
      have:q.1 < s.R + s.C:=C.lt q hq
      exact List.mem_range.2 (by omega)
     rw [List.length_map,List.length_range] at h2
     omega
    (repeat' ((try conv=>whnf);first|(with_reducible first|refine wT ?_|refine wF ?_|(refine wI (fun hq=>?_) (fun hq=>?_) <;> try simp only [zA,zE,zD,zJ,zB,zI,wK,wL] at hq)|refine wA ?_|refine wB ?_|refine wC ?_|refine wD ?_|refine wE ?_)|((with_reducible refine wN ?_ ?_);focus exact needA)|(with_reducible refine wG ?_)|(with_reducible refine wP ?_)))
    all_goals (try conv=>whnf)
    refine FLoop.of (ACalls.mono _) (X:=Nat) (fun k=>[(14,AI frm),(16,.own 0 N),(23,match k with|0=>one0 to|k + 1=>.own 1 (k + 2)),(24,AI (atW (P to) k:Nat))]) (fun k=>match k with
     | 0=>[befR P N]
     | k + 1=>[befR P N,rowW (P to) (k + 1)]) (fun k=>k < (P to).length) (fun k=>(P to).length - k) 0 ⟨hlen,[0],Cut.A,⟨Ln.A,Ln.A,Ln.sl _ _ _ _ _ _ _ (fun _=>rfl) (fun k hk o ho=>by obtain rfl:k = 0:=(by omega);obtain rfl:o = 0:=(by omega);rfl),Ln.int (by rw [hw0]),True.intro⟩⟩ ?_
    intro k hk
    have hatN:=atW_lt C hk
    have hatN':atW (P to) k < s.R + s.C:=hatN
    have hlast:=chn_last C hk
    by_cases hl:k = (P to).length - 1
    ·have hat:atW (P to) k = frm:=hlast.2 hl
     rcases k with _|k
     ·exact absurd hl (by omega)
     ·(repeat' ((try conv=>whnf);first|(with_reducible first|refine wT ?_|refine wF ?_|(refine wI (fun hq=>?_) (fun hq=>?_) <;> try simp only [zA,zE,zD,zJ,zB,zI,wK,wL] at hq)|refine wA ?_|refine wB ?_|refine wC ?_|refine wD ?_|refine wE ?_)|((with_reducible refine wN ?_ ?_);focus exact needA)|(with_reducible refine wG ?_)|(with_reducible refine wP ?_)))
      all_goals (try conv=>whnf)
      exact ⟨⟨_,[rowW (P to) (k + 1)],[1],Cut.A,Ln.A,.inr ⟨P to,k,C,by omega,by obtain ⟨_,_,v,t,et,_⟩:=hB.tr to hPt;simp [et],rfl,rfl⟩⟩⟩
    ·have hat:atW (P to) k ≠ frm:=fun e1=>hl (hlast.1 e1)
     have hbe:=bef_at hB.toTree (k:=to) (i:=k) (by omega)
     rcases k with _|k
     ·(repeat' ((try conv=>whnf);first|(with_reducible first|refine wT ?_|refine wF ?_|(refine wI (fun hq=>?_) (fun hq=>?_) <;> try simp only [zA,zE,zD,zJ,zB,zI,wK,wL] at hq)|refine wA ?_|refine wB ?_|refine wC ?_|refine wD ?_|refine wE ?_)|((with_reducible refine wN ?_ ?_);focus exact needA)|(with_reducible refine wG ?_)|(with_reducible refine wP ?_)))
      all_goals (try conv=>whnf)
      exact ⟨⟨0 + 1,by omega,by show _ - (0 + 1) < _ - 0;omega,[0,1],wO rfl rfl rfl (wV rfl LnB.A (wV rfl (LnB.rowE (by omega) fun i hi o ho=>rowW_step (k:=0) hbe (fun i hi=>by obtain rfl:i = 0:=(by omega);show AI _ = AI ((atW (P to) 0:Nat):Int);rw [hw0]) hi ho) wX)),⟨Ln.A,Ln.A,Ln.A,Ln.int hbe,True.intro⟩⟩⟩
     ·(repeat' ((try conv=>whnf);first|(with_reducible first|refine wT ?_|refine wF ?_|(refine wI (fun hq=>?_) (fun hq=>?_) <;> try simp only [zA,zE,zD,zJ,zB,zI,wK,wL] at hq)|refine wA ?_|refine wB ?_|refine wC ?_|refine wD ?_|refine wE ?_)|((with_reducible refine wN ?_ ?_);focus exact needA)|(with_reducible refine wG ?_)|(with_reducible refine wP ?_)))
      all_goals (try conv=>whnf)
      exact ⟨⟨k + 1 + 1,by omega,by show _ - (k + 1 + 1) < _ - (k + 1);omega,[0,2],wO rfl rfl rfl (wV rfl LnB.A (wV rfl (LnB.rowE (by omega) fun i hi o ho=>rowW_step hbe (fun i hi=>rfl) hi ho) wX)),⟨Ln.A,Ln.A,Ln.A,Ln.int hbe,True.intro⟩⟩⟩
 ·rw [hq] at hB
  obtain ⟨q1,q2,q3,q4⟩:=drop_c hq
  obtain ⟨M0,hM0⟩:∃ M0,unv P N + l.length = M0:=⟨_,rfl⟩
  have hMn:M0 < n:=by have hμ2:unv P N + (L.length - (e - 1)) = n:=hμ;omega
  apply cutG
  ·intro rest
   rcases e with _|k
   ·obtain rfl:L = [frm]:=by
     rcases h0 rfl with h|h
     ·rw [h] at hq;cases hq
     ·exact h
    have hhf:h = frm:=q2.symm
    have hl0:l = []:=q3.symm
    subst hl0
    (repeat' ((try conv=>whnf);first|(with_reducible first|refine wT ?_|refine wF ?_|(refine wI (fun hq=>?_) (fun hq=>?_) <;> try simp only [zA,zE,zD,zJ,zB,zI,wK,wL] at hq)|refine wA ?_|refine wB ?_|refine wC ?_|refine wD ?_|refine wE ?_)|((with_reducible refine wN ?_ ?_);focus exact needA)|(with_reducible refine wG ?_)|(with_reducible refine wP ?_)))
    all_goals (try conv=>whnf)
    exact FLoop.of4 (ACalls.mono _) (fun (j e:Nat) (P:Pth) (L:List Nat)=>[(1,aInts z em m),(2,AI r0),(3,AI c0),(5,aMat s.R s.C x),(13,AI s.R),(14,AI frm),(15,AI to),(16,.own 0 N),(18,qW e L),(19,AI h),(20,AI j)]) (fun j e P L=>befR P N :: qB e L) (fun j e P L=>j ≤ N ∧ Bfs (gRef s m r0 c0 x) frm P (h :: L.drop (e - 1)) ∧ (∀ i,i < j → (gRef s m r0 c0 x).adj h i = true → P i ≠ []) ∧ L.length + unv P N ≤ N ∧ (e = 0 → L = []) ∧ unv P N + (L.length - (e - 1)) = M0 ∧ e - 1 ≤ L.length) (fun j e P L=>N - j) 0 0 P [] ⟨⟨Nat.zero_le _,hB,fun i hi=>absurd hi (Nat.not_lt_zero i),by show 0 + _ ≤ N;have hLu2:1 + unv P N ≤ N:=hLu;omega,fun _=>rfl,hM0,Nat.zero_le _⟩,[0],Cut.A,⟨Ln.A,Ln.A,Ln.A,Ln.A,Ln.A,Ln.A,Ln.A,Ln.A,Ln.slz _ _ _ _ _ _ _ (by decide),Ln.int (by rw [hhf]),Ln.A,True.intro⟩⟩ rest.h
   ·have q1:k < L.length:=q1
    have q3:L.drop (k + 1) = l:=q3
    have q2:L.getD k 0 = h:=q2
    have q4:L.length = k + 1 + l.length:=q4
    (repeat' ((try conv=>whnf);first|(with_reducible first|refine wT ?_|refine wF ?_|(refine wI (fun hq=>?_) (fun hq=>?_) <;> try simp only [zA,zE,zD,zJ,zB,zI,wK,wL] at hq)|refine wA ?_|refine wB ?_|refine wC ?_|refine wD ?_|refine wE ?_)|((with_reducible refine wN ?_ ?_);focus exact needA)|(with_reducible refine wG ?_)|(with_reducible refine wP ?_)))
    all_goals (try conv=>whnf)
    exact FLoop.of4 (ACalls.mono _) (fun (j e:Nat) (P:Pth) (L:List Nat)=>[(1,aInts z em m),(2,AI r0),(3,AI c0),(5,aMat s.R s.C x),(13,AI s.R),(14,AI frm),(15,AI to),(16,.own 0 N),(18,qW e L),(19,AI h),(20,AI j)]) (fun j e P L=>befR P N :: qB e L) (fun j e P L=>j ≤ N ∧ Bfs (gRef s m r0 c0 x) frm P (h :: L.drop (e - 1)) ∧ (∀ i,i < j → (gRef s m r0 c0 x).adj h i = true → P i ≠ []) ∧ L.length + unv P N ≤ N ∧ (e = 0 → L = []) ∧ unv P N + (L.length - (e - 1)) = M0 ∧ e - 1 ≤ L.length) (fun j e P L=>N - j) 0 (k + 2) P L ⟨⟨Nat.zero_le _,by show Bfs _ _ _ (h :: L.drop (k + 1));rw [q3];exact hB,fun i hi=>absurd hi (Nat.not_lt_zero i),hLu,(fun h=>by cases h),by show unv P N + (L.length - (k + 1)) = M0;omega,by show k + 1 ≤ _;omega⟩,[0,1],Cut.A,⟨Ln.A,Ln.A,Ln.A,Ln.A,Ln.A,Ln.A,Ln.A,Ln.A,Ln.oslE rfl (by omega),Ln.int (by rw [← q2];rfl),Ln.A,True.intro⟩⟩ rest.h
  clear hB hLu hle hM0 h0 hq q1 q2 q3 q4 hμ hcu
  rintro j e P L ⟨hj,hB,hno,hLu,hL0,hM,hle⟩
  have hh1:=hB.qs h List.mem_cons_self
  obtain ⟨hhN,_,w,u,hh0,hw1,_,_⟩:=hB.tr h hh1
  have hhN':h < s.R + s.C:=hhN
  have hun:=unv_le P N
  have hmd:∀ r,r < s.R → 0 ≤ m.getD r 0:=fun r hr=>(hm.bd r hr).1
  by_cases hlt:j < N
  ·have hjN:j < (gRef s m r0 c0 x).N:=by show j < s.R + s.C;omega
   rcases e with _|k
   ·have hLe:L = []:=hL0 rfl
    subst hLe
    (repeat' ((try conv=>whnf);first|(with_reducible first|refine FCond.t rfl ?_|refine FCond.f rfl ?_)|((with_reducible refine FCond.uT (fun hq=>?_));rw [hq];(with_reducible refine FCond.t rfl ?_);clear hq)|((with_reducible refine FCond.uF (fun hq=>?_));rw [hq];(with_reducible refine FCond.f rfl ?_);clear hq)|((with_reducible refine wJ (fun hq=>?_) (fun hq=>?_)) <;> (rw [hq];(with_reducible first|refine FCond.t rfl ?_|refine FCond.f rfl ?_);(try simp only [zA,zE,zD,zJ,zB,zI,wK,wL] at hq)))|(with_reducible first|refine wA ?_|refine wB ?_|refine wC ?_|refine wD ?_|refine wE ?_)|((with_reducible refine wN ?_ ?_);focus exact needA)|(with_reducible refine wG ?_)|(refine FCall.pure (has_int _ _ (by exact hmd _ (by omega)) (by omega)) ⟨Ln.sameB _ rfl,Ln.sameB _ rfl,True.intro⟩ rfl ?_)|(with_reducible refine wP ?_)))
    all_goals (try conv=>whnf)
    all_goals
     first
      | (refine ⟨⟨j + 1,0,P,[],⟨hlt,hB,no_next hno ?_,hLu,hL0,hM,hle⟩,?_,[0],Cut.A,⟨Ln.A,Ln.A,Ln.A,Ln.A,Ln.A,Ln.A,Ln.A,Ln.A,Ln.slz _ _ _ _ _ _ _ (by decide),Ln.A,Ln.A,True.intro⟩⟩⟩;(focus ((intro ha hP);(have hb:befI (P j) = -1:=(by rw [hP];rfl));(rcases adj_ref ha with ⟨a1,a2,a3,a4⟩|⟨a1,a2,a3,a4,a5⟩) <;> (first|omega|(simp_all;done)|fail)));(show N - (j + 1) < N - j);omega)
      | (
        have hPj:P j = []:=by
         cases hPe:P j with
         | nil=>rfl
         | cons a b=>exfalso;have hb:=befI_nn.2 (show P j ≠ [] by rw [hPe];simp);omega
        obtain ⟨hadj,hcap1⟩:(gRef s m r0 c0 x).adj h j = true ∧ 1 ≤ (gRef s m r0 c0 x).cap h j:=ref_adj (by
         rcases Nat.lt_or_ge h s.R with hx0|hx0
         ·first|(left;exact ⟨hx0,by omega,by assumption,by omega⟩)|(exfalso;omega)|fail
         ·first|(right;have hj2:j < s.R:=(by omega);have:=hx j ((h:Int) - s.R).toNat hj2 (by omega);exact ⟨hx0,hj2,by assumption,by omega,by omega⟩)|(exfalso;omega)|fail)
        have hpush:=hB.push (v:=1) hjN hPj hh0 hadj (Int.le_refl 1) hw1 hcap1
        have hunp:=unv_push (q:=(j,1)) (l:=P h) hPj (show j < N from hlt)
        first
         | exact ⟨⟨j + 1,1,P.set j ((j,1) :: P h),[j],⟨hlt,hpush,no_push' hno hPj,by show 1 + _ ≤ N;have hLu2:0 + unv P N ≤ N:=hLu;omega,(fun h=>by cases h),by show _ + (1 - 0) = M0;have hM2:unv P N + 0 = M0:=hM;omega,Nat.zero_le _⟩,by show N - (j + 1) < N - j;omega,[0,1],wO rfl rfl rfl (wV rfl (LnB.bef hh0) (wV rfl (LnB.rowE (Nat.le_refl _) fun i hi o ho=>by obtain rfl:i = 0:=(by have:i < 1:=hi;omega);rfl) wX)),⟨Ln.A,Ln.A,Ln.A,Ln.A,Ln.A,Ln.A,Ln.A,Ln.A,Ln.osl0E rfl rfl,Ln.A,Ln.A,True.intro⟩⟩⟩
         | fail
       )
      | fail
   ·have hle':k ≤ L.length:=hle
    (repeat' ((try conv=>whnf);first|(with_reducible first|refine FCond.t rfl ?_|refine FCond.f rfl ?_)|((with_reducible refine FCond.uT (fun hq=>?_));rw [hq];(with_reducible refine FCond.t rfl ?_);clear hq)|((with_reducible refine FCond.uF (fun hq=>?_));rw [hq];(with_reducible refine FCond.f rfl ?_);clear hq)|((with_reducible refine wJ (fun hq=>?_) (fun hq=>?_)) <;> (rw [hq];(with_reducible first|refine FCond.t rfl ?_|refine FCond.f rfl ?_);(try simp only [zA,zE,zD,zJ,zB,zI,wK,wL] at hq)))|(with_reducible first|refine wA ?_|refine wB ?_|refine wC ?_|refine wD ?_|refine wE ?_)|((with_reducible refine wN ?_ ?_);focus exact needA)|(refine FCall.pure (has_int _ _ (by exact hmd _ (by omega)) (by omega)) ⟨Ln.sameB _ rfl,Ln.sameB _ rfl,True.intro⟩ rfl ?_)|(refine FApp.share (Need.mk (by omega) (Need.mk ?_ ?_)))|(with_reducible refine wP ?_)))
    all_goals (try conv=>whnf)
    all_goals
     first
      | (refine ⟨⟨j + 1,k + 1,P,L,⟨hlt,hB,no_next hno ?_,hLu,hL0,hM,hle⟩,?_,[0,1],Cut.A,⟨Ln.A,Ln.A,Ln.A,Ln.A,Ln.A,Ln.A,Ln.A,Ln.A,Ln.oslE rfl rfl,Ln.A,Ln.A,True.intro⟩⟩⟩;(focus ((intro ha hP);(have hb:befI (P j) = -1:=(by rw [hP];rfl));(rcases adj_ref ha with ⟨a1,a2,a3,a4⟩|⟨a1,a2,a3,a4,a5⟩) <;> (first|omega|(simp_all;done)|fail)));(show N - (j + 1) < N - j);omega)
      | (
        have hPj:P j = []:=by
         cases hPe:P j with
         | nil=>rfl
         | cons a b=>exfalso;have hb:=befI_nn.2 (show P j ≠ [] by rw [hPe];simp);omega
        obtain ⟨hadj,hcap1⟩:(gRef s m r0 c0 x).adj h j = true ∧ 1 ≤ (gRef s m r0 c0 x).cap h j:=ref_adj (by
         rcases Nat.lt_or_ge h s.R with hx0|hx0
         ·first|(left;exact ⟨hx0,by omega,by assumption,by omega⟩)|(exfalso;omega)|fail
         ·first|(right;have hj2:j < s.R:=(by omega);have:=hx j ((h:Int) - s.R).toNat hj2 (by omega);exact ⟨hx0,hj2,by assumption,by omega,by omega⟩)|(exfalso;omega)|fail)
        have hpush:=hB.push (v:=1) hjN hPj hh0 hadj (Int.le_refl 1) hw1 hcap1
        have hunp:=unv_push (q:=(j,1)) (l:=P h) hPj (show j < N from hlt)
        first
         | exact ⟨⟨j + 1,k + 1,P.set j ((j,1) :: P h),L ++ [j],⟨hlt,by show Bfs _ _ _ (h :: (L ++ [j]).drop k);rw [drop_sn (show k ≤ L.length from hle) rfl];exact hpush,no_push' hno hPj,by rw [len_sn];omega,(fun h=>by cases h),by rw [len_sn];show _ + (L.length + 1 - k) = M0;have hM2:unv P N + (L.length - k) = M0:=hM;omega,by rw [len_sn];show k ≤ _;omega⟩,by show N - (j + 1) < N - j;omega,[0,1],wO rfl rfl rfl (wV rfl (LnB.bef hh0) (wV rfl (LnB.rowE (by rw [len_sn];omega) (fun i hi o ho=>row_sn hle (by rw [len_sn] at hi;omega) ho)) wX)),⟨Ln.A,Ln.A,Ln.A,Ln.A,Ln.A,Ln.A,Ln.A,Ln.A,Ln.oslE rfl (by rw [len_sn];omega),Ln.A,Ln.A,True.intro⟩⟩⟩
         | exact ⟨⟨j + 1,1,P.set j ((j,1) :: P h),L.drop k ++ [j],⟨hlt,hpush,no_push' hno hPj,by rw [len_sn,List.length_drop];omega,(fun h=>by cases h),by rw [len_sn,List.length_drop];have hM2:unv P N + (L.length - k) = M0:=hM;exact (show unv (P.set j ((j,1) :: P h)) N + (L.length - k + 1) = M0 by omega),Nat.zero_le _⟩,by show N - (j + 1) < N - j;omega,[0,2],wO rfl rfl rfl (wV rfl (LnB.bef hh0) (wV rfl (LnB.rowE (by rw [len_sn,List.length_drop];omega) (fun i hi o ho=>row_dr (by rw [len_sn,List.length_drop] at hi;omega) ho)) wX)),⟨Ln.A,Ln.A,Ln.A,Ln.A,Ln.A,Ln.A,Ln.A,Ln.A,Ln.osl0E rfl (show L.length - k + (0 + 1) = (L.drop k ++ [j]).length - 0 by rw [len_sn,List.length_drop];rfl),Ln.A,Ln.A,True.intro⟩⟩⟩
         | fail
       )
      | fail
  ·have hjE:j = N:=by omega
   have hpop:=hB.pop (fun i hi ha=>hno i (by have:i < s.R + s.C:=hi;omega) ha)
   rcases e with _|k
   ·have hLe:L = []:=hL0 rfl
    subst hLe
    (repeat' ((try conv=>whnf);first|(with_reducible first|refine wT ?_|refine wF ?_|(refine wI (fun hq=>?_) (fun hq=>?_) <;> try simp only [zA,zE,zD,zJ,zB,zI,wK,wL] at hq)|refine wA ?_|refine wB ?_|refine wC ?_|refine wD ?_|refine wE ?_)|((with_reducible refine wN ?_ ?_);focus exact needA)|(with_reducible refine wG ?_)|(with_reducible refine wP ?_)))
    all_goals (try conv=>whnf)
    exact ⟨⟨0,P,[],⟨hpop,by show 0 + unv P N ≤ N;omega,fun _=>.inl rfl,Nat.zero_le _⟩,by show unv P N + (0 - 0) < n;have hM2:unv P N + (0 - 0) = M0:=hM;omega,[0],Cut.A,⟨Ln.A,Ln.A,Ln.A,Ln.A,Ln.A,Ln.A,Ln.A,Ln.A,Ln.slz _ _ _ _ _ _ _ (by decide),True.intro⟩⟩⟩
   ·have hle':k ≤ L.length:=hle
    (repeat' ((try conv=>whnf);first|(with_reducible first|refine wT ?_|refine wF ?_|(refine wI (fun hq=>?_) (fun hq=>?_) <;> try simp only [zA,zE,zD,zJ,zB,zI,wK,wL] at hq)|refine wA ?_|refine wB ?_|refine wC ?_|refine wD ?_|refine wE ?_)|((with_reducible refine wN ?_ ?_);focus exact needA)|(with_reducible refine wG ?_)|(with_reducible refine wP ?_)))
    all_goals (try conv=>whnf)
    exact ⟨⟨k + 1,P,L,⟨hpop,hLu,(fun h=>by cases h),hle⟩,by show unv P N + (L.length - k) < n;have hM2:unv P N + (L.length - k) = M0:=hM;omega,[0,1],Cut.A,⟨Ln.A,Ln.A,Ln.A,Ln.A,Ln.A,Ln.A,Ln.A,Ln.A,Ln.oslE rfl rfl,True.intro⟩⟩⟩
end Go.Proofs.Ytlffjnmbpoemnaa

namespace Go.Proofs.Ytlffjnmbpoemnaa
open Go.RowKit

def matB (C:Nat) (x:Nat → Nat → Int):Nat → List AB
 | 0=>[]
 | 1=>[.rwg 1 1 (fun _ _=>.own 1 C),rowF C (x 0)]
 | 2=>[.rwg 2 1 (fun k _=>match k with|0=>.own 1 C|_=>.own 2 C),rowF C (x 0),rowF C (x 1)]
 | _=>[.rwg 3 1 (fun k _=>match k with|0=>.own 1 C|1=>.own 2 C|_=>.own 3 C),rowF C (x 0),rowF C (x 1),rowF C (x 2)]
def matV : Nat → AV
 | 0=>nilS
 | k + 1=>.own 0 (k + 1)
theorem appF {l:List Int} {z:Nat → Nat → AV} {k o:Nat} (ho:o < 1):AI (l.getD k 0) = appc 0 z (fun k _=>AI (l.getD k 0)) k o:=by
 simp only [appc]
 rw [if_neg (Nat.not_lt_zero k),Nat.sub_zero]
set_option maxHeartbeats 8000000
set_option maxRecDepth 100000
theorem copyOwn_ok (z e:Bool) (rz re:Nat → Bool) (l:List (List Int)) (C:Nat) (h0:1 ≤ l.length ∧ l.length ≤ 3) (hC:1 ≤ C ∧ C ≤ 4) (hl:∀ k,k < l.length → (l.getD k []).length = C):ACall Try.prog 40 [aRows z e rz re l] [] (fun v h=>v = .own 0 l.length ∧ h = matB C (at2 l) l.length):=by
 obtain ⟨C',rfl⟩:∃ C',C = C' + 1:=⟨C - 1,by omega⟩
 (refine fcall_of mixed Try.func40 rfl (by decide) (hs:={}) ?k (ac:=?ac) ?c (rs:=?rs) ?r ?l ?H;(case k=>kernel_rfl);(case c=>(conv=>(lhs;cbv)));(case r=>(conv=>(lhs;cbv)));(case l=>exact Nat.le_of_ble_eq_true rfl))
 (repeat' ((try conv=>whnf);first|(with_reducible first|refine wT ?_|refine wF ?_|(refine wI (fun hq=>?_) (fun hq=>?_) <;> try simp only [zA,zE,zD,zJ,zB,zI,wK,wL] at hq)|refine wA ?_|refine wB ?_|refine wC ?_|refine wD ?_|refine wE ?_)|((with_reducible refine wN ?_ ?_);focus exact needA)|(with_reducible refine wG ?_)|(with_reducible refine wP ?_)))
 all_goals (try conv=>whnf)
 refine FLoop.of (ACalls.mono _) (X:=Nat) (fun i=>[(0,aRows z e rz re l),(3,matV i),(4,AI i)]) (fun i=>matB (C' + 1) (at2 l) i) (fun i=>i ≤ l.length) (fun i=>l.length - i) 0 ⟨Nat.zero_le _,[],Cut.A,allA⟩ ?_
 intro i hi
 by_cases hlt:i < l.length
 ·have hli:=hl i hlt
  have i3:i = 0 ∨ i = 1 ∨ i = 2:=by omega
  have hrow:∀ {z:Nat → Nat → AV} {N:Nat} {σ:Nat → Nat → Prop} {Bp:Nat → Prop} {H:List AB},C' + 1 ≤ N → LnB σ Bp H (.row N 1 (appc 0 z fun k _=>AI ((l.getD i []).getD k 0))) (rowF (C' + 1) (at2 l i)):=fun hN=>LnB.rowE hN fun k hk o ho=>appF ho
  rcases i3 with rfl|rfl|rfl
  all_goals
   (repeat' ((try conv=>whnf);first|(with_reducible first|refine wT ?_|refine wF ?_|(refine wI (fun hq=>?_) (fun hq=>?_) <;> try simp only [zA,zE,zD,zJ,zB,zI,wK,wL] at hq)|refine wA ?_|refine wB ?_|refine wC ?_|refine wD ?_|refine wE ?_)|((with_reducible refine wN ?_ ?_);focus exact needA)|(with_reducible refine wG ?_)|(with_reducible refine wP ?_)))
   (try conv=>whnf)
   rw [hli]
   (repeat' ((try conv=>whnf);first|(with_reducible first|refine wT ?_|refine wF ?_|(refine wI (fun hq=>?_) (fun hq=>?_) <;> try simp only [zA,zE,zD,zJ,zB,zI,wK,wL] at hq)|refine wA ?_|refine wB ?_|refine wC ?_|refine wD ?_|refine wE ?_)|((with_reducible refine wN ?_ ?_);focus exact needA)|(with_reducible refine wG ?_)|(refine FOr.keep ?_)|(with_reducible refine wP ?_)))
   (try conv=>whnf)
  ·exact ⟨⟨0 + 1,hlt,by show _ - (0 + 1) < _ - 0;omega,[2,0],wO rfl rfl rfl (wV rfl (LnB.rwg1 (Ln.ownE rfl (by omega)) (by omega)) (wV rfl (hrow (show C' + 1 ≤ 0 + (C' + 1) by omega)) wX)),allA⟩⟩
  ·exact ⟨⟨1 + 1,hlt,by show _ - (1 + 1) < _ - 1;omega,[4,1,2],wO rfl rfl rfl (wV rfl (LnB.rwg2 (Ln.ownE rfl (by omega)) (Ln.ownE rfl (by omega)) (by omega)) (wV rfl LnB.A (wV rfl (hrow (show C' + 1 ≤ 0 + (C' + 1) by omega)) wX))),allA⟩⟩
  ·exact ⟨⟨2 + 1,hlt,by show _ - (2 + 1) < _ - 2;omega,[5,1,2,3],wO rfl rfl rfl (wV rfl (LnB.rwg3 (Ln.ownE rfl rfl) (Ln.ownE rfl rfl) (Ln.ownE rfl (Nat.zero_add (C' + 1))) (Nat.le_of_ble_eq_true rfl)) (wV rfl LnB.A (wV rfl LnB.A (wV rfl (hrow (show C' + 1 ≤ 0 + (C' + 1) by omega)) wX)))),allA⟩⟩
 ·have hiE:l.length = i:=by omega
  have i3:i = 1 ∨ i = 2 ∨ i = 3:=by omega
  rw [hiE]
  rcases i3 with rfl|rfl|rfl
  all_goals
   (repeat' ((try conv=>whnf);first|(with_reducible first|refine wT ?_|refine wF ?_|(refine wI (fun hq=>?_) (fun hq=>?_) <;> try simp only [zA,zE,zD,zJ,zB,zI,wK,wL] at hq)|refine wA ?_|refine wB ?_|refine wC ?_|refine wD ?_|refine wE ?_)|((with_reducible refine wN ?_ ?_);focus exact needA)|(with_reducible refine wG ?_)|(with_reducible refine wP ?_)))
   (try conv=>whnf)
  ·exact ⟨⟨_,matB (C' + 1) (at2 l) 1,[0,1],wO rfl rfl rfl (wV rfl (LnB.rwg1 (Ln.ownE rfl (by omega)) (by omega)) (wV rfl LnB.A wX)),Ln.A,rfl,rfl⟩⟩
  ·exact ⟨⟨_,matB (C' + 1) (at2 l) 2,[0,1,2],wO rfl rfl rfl (wV rfl (LnB.rwg2 (Ln.ownE rfl (by omega)) (Ln.ownE rfl (by omega)) (by omega)) (wV rfl LnB.A (wV rfl LnB.A wX))),Ln.A,rfl,rfl⟩⟩
  ·exact ⟨⟨_,matB (C' + 1) (at2 l) 3,[0,1,2,3],wO rfl rfl rfl (wV rfl (LnB.rwg3 (Ln.ownE rfl (by omega)) (Ln.ownE rfl (by omega)) (Ln.ownE rfl (by omega)) (by omega)) (wV rfl LnB.A (wV rfl LnB.A (wV rfl LnB.A wX)))),Ln.A,rfl,rfl⟩⟩
end Go.Proofs.Ytlffjnmbpoemnaa

namespace Go.Proofs.Ytlffjnmbpoemnaa
open Go.RowKit

/-- What the reference's moved gives: amounts that agree, in which the amount is the greatest, or the least. -/
def MovedOut (s:Sheet) (m:List Int) (r0 c0:Nat) (up:Bool) (v:AV) (h:List AB):Prop:=∃ y,Ag s m y ∧ (up = true → ∀ w,Ag s m w → w r0 c0 ≤ y r0 c0) ∧ (up = false → ∀ w,Ag s m w → y r0 c0 ≤ w r0 c0) ∧ v = aMat s.R s.C y ∧ h = []
/-- The changed amount behind the steps of a way. -/
def lastF (R:Nat) (p:List (Nat × Int)) (n:Nat) (x:Nat → Nat → Int) (r0 c0:Nat) (d:Int) (r c:Nat):Int:=if r = r0 ∧ c = c0 then doneF R p n x n r c + d else doneF R p n x n r c
theorem lastF_eq {R:Nat} {p:List (Nat × Int)} {x:Nat → Nat → Int} {r0 c0:Nat} {down:Bool} {n:Nat} (hn:p.length - 1 = n):lastF R p n x r0 c0 (if down then -1 else 1) = fun r c=>x r c + wayD down (nds R p) r0 c0 1 r c:=by
 funext r c
 unfold lastF wayD hit
 rw [← hn,doneF_all]
 by_cases h:r = r0 ∧ c = c0
 ·rw [if_pos h,if_pos h];omega
 ·rw [if_neg h,if_neg h];omega
end Go.Proofs.Ytlffjnmbpoemnaa

namespace Go.Proofs.Ytlffjnmbpoemnaa
open Go.RowKit

set_option maxHeartbeats 16000000
set_option maxRecDepth 100000
theorem moved1U (f:ShF) (s:Sheet) (hs:SheetOk s) (z e:Bool) (m:List Int) (hm:MaskOk s m) (r0 c0:Nat) (hr0:r0 < s.R) (hc0:c0 < s.C) (ho:outS m r0 c0 = true) (hR:s.R = 1):ACall Try.prog 77 [aSh f s,aInts z e m,AI r0,AI c0,.bool true] [] (fun v h=>MovedOut s m r0 c0 true v h):=by
 have c4:=hs.c4
 have hml:=hm.len
 have hR':s.amounts.length = 1:=hR
 have cp:=copyOwn_ok f.za f.ea f.rz f.re s.amounts s.C (by omega) ⟨hs.c1,hs.c4⟩ (fun k hk=>hs.row k hk)
 rw [hR'] at cp
 have cH:=has_int (m.getD r0 0) c0 (hm.bd r0 hr0).1 (by omega)
 rw [Int.toNat_natCast,show (m.getD r0 0).toNat.testBit c0 = true from ho] at cH
 (refine fcall_of mixed Try.func77 rfl (by decide) (hs:={}) ?k (ac:=?ac) ?c (rs:=?rs) ?r ?l ?H;(case k=>kernel_rfl);(case c=>(conv=>(lhs;cbv)));(case r=>(conv=>(lhs;cbv)));(case l=>exact Nat.le_of_ble_eq_true rfl))
 (repeat' ((try conv=>whnf);first|(with_reducible first|refine wT ?_|refine wF ?_|(refine wI (fun hq=>?_) (fun hq=>?_) <;> try simp only [zA,zE,zD,zJ,zB,zI,wK,wL] at hq)|refine wA ?_|refine wB ?_|refine wC ?_|refine wD ?_|refine wE ?_)|((with_reducible refine wN ?_ ?_);focus exact needA)|(with_reducible refine wG ?_)|((refine FCall.give [] [] (cp) rfl rfl True.intro ⟨Ln.A,True.intro⟩ ?_);rintro _ _ ⟨rfl,rfl⟩;(refine ⟨by first|exact Nat.le_of_ble_eq_true rfl|omega,.inl rfl,?_⟩))|(refine FCall.pure (cH) ⟨Ln.sameB _ rfl,Ln.sameB _ rfl,True.intro⟩ rfl ?_)|(with_reducible refine wP ?_)))
 all_goals (try conv=>whnf)
 refine FLoop.of (ACalls.mono _) (X:=Nat → Nat → Int) (fun x=>[(1,aInts z e m),(2,AI r0),(3,AI c0),(4,.bool true),(5,.ptr 0 0),(11,.own 1 1),(12,AI 1)]) (fun x=>[.box 3 (cSh f s),.rwg 1 1 (fun _ _=>.own 2 s.C),rowF s.C (x 0)]) (fun x=>Ag s m x) (fun x=>(40000 - x r0 c0).toNat) s.A ⟨Ag.self hs m,[0,1,2],(wO rfl rfl rfl (wV rfl LnB.A (wV rfl (LnB.rwg1 (Ln.ownE rfl rfl) (Nat.le_refl _)) (wV rfl LnB.A wX)))),allA⟩ ?_
 intro x hx
 have cW:=refWay_ok f s hs z e m hm r0 c0 hr0 hc0 true x hx.nn (s.R + c0) (r0) ⟨by simp,by simp⟩
 rw [show aMat s.R s.C x = aMat 1 s.C x by rw [hR]] at cW
 have hx40:∀ r c,r < s.R → c < s.C → 0 ≤ x r c ∧ x r c ≤ 40000:=fun r c hr hc=>⟨hx.nn r c hr hc,hx.le hs hr hc⟩
 (repeat' ((try conv=>whnf);first|(with_reducible first|refine wT ?_|refine wF ?_|(refine wI (fun hq=>?_) (fun hq=>?_) <;> try simp only [zA,zE,zD,zJ,zB,zI,wK,wL] at hq)|refine wA ?_|refine wB ?_|refine wC ?_|refine wD ?_|refine wE ?_)|((with_reducible refine wN ?_ ?_);focus exact needA)|(with_reducible refine wG ?_)|(with_reducible refine wP ?_)))
 all_goals (try conv=>whnf)
 refine FCall.give [] [1,2] cW rfl rfl True.intro ⟨Ln.A,Ln.A,Ln.A,Ln.A,Ln.A,Ln.mat (x:=x) (by decide) rfl (Nat.le_refl _) (below1 (Ln.pubE (by decide) rfl (Nat.le_refl _) rfl (fun _ _ _ _=>rfl))),True.intro⟩ ?_
 rintro _ _ (⟨rfl,rfl,P,hB,hPt⟩|⟨p,k,C,hl,hto,rfl,rfl⟩)
 ·refine ⟨Nat.zero_le _,.inr ⟨rfl,fun y hy=>by cases hy⟩,?_⟩
  have S:=hB.shut
  (repeat' ((try conv=>whnf);first|(with_reducible first|refine wT ?_|refine wF ?_|(refine wI (fun hq=>?_) (fun hq=>?_) <;> try simp only [zA,zE,zD,zJ,zB,zI,wK,wL] at hq)|refine wA ?_|refine wB ?_|refine wC ?_|refine wD ?_|refine wE ?_)|((with_reducible refine wN ?_ ?_);focus exact needA)|(with_reducible refine wG ?_)|(with_reducible refine wP ?_)))
  all_goals (try conv=>whnf)
  exact ⟨⟨aMat s.R s.C x,[],[],Cut.nil _,by rw [hR];exact Ln.mat (x:=x) (goneB rfl) rfl (Nat.le_refl _) (below1 (Ln.pubE (goneB rfl) rfl (Nat.le_refl _) rfl (fun _ _ _ _=>rfl))),x,hx,fun _=>S.hi_col rfl rfl hr0 hc0 rfl (by simp [hPt]) (by have:=shut_col hB;cases hP:P (s.R + c0) with|nil=>exact (this hP).elim|cons=>rfl) hx,(fun h=>by cases h),rfl,rfl⟩⟩
 ·refine ⟨Nat.zero_le _,.inr ⟨True.intro,flat_one (flat_row fun _ _=>True.intro)⟩,?_⟩
  have hl2:p.length - 1 = k + 1:=by omega
  have C:=C
  have hkk:k + 2 ≤ 1000:=by
   have h1:=C.nod
   have h2:(p.map (·.1)).length ≤ (List.range (s.R + s.C)).length:=pig h1 fun y hy=>by
    obtain ⟨q,hq,rfl⟩:=List.mem_map.1 hy
    have:q.1 < s.R + s.C:=C.lt q hq
    exact List.mem_range.2 (by omega)
   rw [List.length_map,List.length_range] at h2
   have:=hs.r4
   omega
  (repeat' ((try conv=>whnf);first|(with_reducible first|refine wT ?_|refine wF ?_|(refine wI (fun hq=>?_) (fun hq=>?_) <;> try simp only [zA,zE,zD,zJ,zB,zI,wK,wL] at hq)|refine wA ?_|refine wB ?_|refine wC ?_|refine wD ?_|refine wE ?_)|((with_reducible refine wN ?_ ?_);focus exact needA)|(with_reducible refine wG ?_)|(with_reducible refine wP ?_)))
  all_goals (try conv=>whnf)
  refine FLoop.of (ACalls.mono _) (X:=Nat) (fun i=>[(1,aInts z e m),(2,AI r0),(3,AI c0),(4,.bool true),(5,.ptr 0 0),(11,.own 1 1),(12,AI 1),(13,.own 3 (k + 2)),(14,AI i)]) (fun i=>[.box 3 (cSh f s),.rwg 1 1 (fun _ _=>.own 2 s.C),rowF s.C (doneF s.R p (k + 1) x i 0),rowW p (k + 1)]) (fun i=>i ≤ k + 1) (fun i=>k + 1 - i) 0 ⟨Nat.zero_le _,[0,1,2,3],(wO rfl rfl rfl (wV rfl LnB.A (wV rfl (LnB.rwg1 (Ln.ownE rfl rfl) (Nat.le_refl _)) (wV rfl (LnB.offR fun j=>doneF_zero _ _ _ _ _ _) (wV rfl LnB.A wX))))),allA⟩ ?_
  intro i hi
  by_cases hlt:i < k + 1
  ·have hadj:=C.adj (j:=k - i) (by omega)
   have e1:((i:Int) + 1).toNat = i + 1:=by omega
   obtain ⟨a,ha⟩:∃ a,atW p (k + 1 - i) = a:=⟨_,rfl⟩
   obtain ⟨b,hb⟩:∃ b,atW p (k + 1 - (i + 1)) = b:=⟨_,rfl⟩
   have ha2:atW p (k + 1 - 1 - i + 1) = a:=by rw [← ha];congr 1;omega
   have hb2:atW p (k + 1 - 1 - i) = b:=by rw [← hb];congr 1;omega
   rw [show k - i + 1 = k + 1 - 1 - i + 1 by omega,show k - i = k + 1 - 1 - i by omega,ha2,hb2] at hadj
   have haN:a < s.R + s.C:=by rw [← ha];exact atW_lt C (by omega)
   have hbN:b < s.R + s.C:=by rw [← hb];exact atW_lt C (by omega)
   have hal:=(al_d (adj_d hadj).1).1
   rw [← e1] at hb
   rcases hal with ⟨x1,x2⟩|⟨x1,x2⟩
   ·have x1:a < s.R:=x1
    have x2:s.R ≤ b:=x2
    have hstp:=fun r=>done_rc (n:=k + 1) x ha2 hb2 x1 x2 r
    have h0:a = 0:=by omega
    have hbd:=doneF_bd (R:=s.R) (p:=p) (n:=k + 1) (i:=i) (hx40 0 (((atW p (k + 1 - ((i:Int) + 1).toNat):Nat):Int) - 1).toNat (by omega) (by omega))
    (repeat' ((try conv=>whnf);first|(with_reducible refine FIdx.eqN 0 (by omega) (by omega) ?_)|(with_reducible first|refine wT ?_|refine wF ?_|(refine wI (fun hq=>?_) (fun hq=>?_) <;> try simp only [zA,zE,zD,zJ,zB,zI,wK,wL] at hq)|refine wA ?_|refine wB ?_|refine wC ?_|refine wD ?_|refine wE ?_)|((with_reducible refine wN ?_ ?_);focus exact needA)|(with_reducible refine wG ?_)|(with_reducible refine wP ?_)))
    all_goals (try conv=>whnf)
    exact ⟨⟨i + 1,hlt,by show k + 1 - (i + 1) < k + 1 - i;omega,[0,1,2,3],(wO rfl rfl rfl (wV rfl LnB.A (wV rfl (LnB.rwg1 (Ln.ownE rfl rfl) (Nat.le_refl _)) (wV rfl (LnB.hitR (hitA (d:=1) (hstp 0) h0.symm (by omega))) (wV rfl LnB.A wX))))),allA⟩⟩
   ·have x1:s.R ≤ a:=x1
    have x2:b < s.R:=x2
    have hstp:=fun r=>done_cr (n:=k + 1) x ha2 hb2 x1 x2 r
    have h0:b = 0:=by omega
    have hbd:=doneF_bd (R:=s.R) (p:=p) (n:=k + 1) (i:=i) (hx40 0 (((atW p (k + 1 - i):Nat):Int) - 1).toNat (by omega) (by omega))
    (repeat' ((try conv=>whnf);first|(with_reducible refine FIdx.eqN 0 (by omega) (by omega) ?_)|(with_reducible first|refine wT ?_|refine wF ?_|(refine wI (fun hq=>?_) (fun hq=>?_) <;> try simp only [zA,zE,zD,zJ,zB,zI,wK,wL] at hq)|refine wA ?_|refine wB ?_|refine wC ?_|refine wD ?_|refine wE ?_)|((with_reducible refine wN ?_ ?_);focus exact needA)|(with_reducible refine wG ?_)|(with_reducible refine wP ?_)))
    all_goals (try conv=>whnf)
    exact ⟨⟨i + 1,hlt,by show k + 1 - (i + 1) < k + 1 - i;omega,[0,1,2,3],(wO rfl rfl rfl (wV rfl LnB.A (wV rfl (LnB.rwg1 (Ln.ownE rfl rfl) (Nat.le_refl _)) (wV rfl (LnB.hitR (hitA (d:=(-1)) (hstp 0) h0.symm (by omega))) (wV rfl LnB.A wX))))),allA⟩⟩
  ·have hik:k + 1 = i:=by omega
   subst hik
   have hb0:=doneF_bd (R:=s.R) (p:=p) (n:=k + 1) (i:=k + 1) (hx40 r0 c0 hr0 hc0)
   have hAg:=hx.shift (g:=1) (C.way rfl rfl (down:=false) (t:=r0) rfl rfl hr0 hto) hr0 hc0 ho (fun _ r c hm'=>by have h1:=C.cap_col rfl hm';have h2:=C.pos;show (1:Int) ≤ x r c;have h3:(p.head C.ne).2 ≤ x r c:=h1;omega) (fun h=>absurd h (by decide)) (by show 0 ≤ x r0 c0 + _;simp;have:=hx.nn r0 c0 hr0 hc0;omega)
   have hat:=shift_at (C.way rfl rfl (down:=false) (t:=r0) rfl rfl hr0 hto) 1
   have hLe:=lastF_eq (R:=s.R) (p:=p) (x:=x) (r0:=r0) (c0:=c0) (down:=false) hl2
   rw [show (fun r c=>x r c + wayD false (nds (gRef s m r0 c0 x).R p) (gRef s m r0 c0 x).r0 (gRef s m r0 c0 x).c0 1 r c) = lastF s.R p (k + 1) x r0 c0 (if false = true then -1 else 1) from hLe.symm] at hAg
   have hL0:lastF s.R p (k + 1) x r0 c0 (1) r0 c0 = x r0 c0 + 1:=by
    have:=congrFun (congrFun hLe r0) c0
    rw [show lastF s.R p (k + 1) x r0 c0 (1) = lastF s.R p (k + 1) x r0 c0 (if false = true then -1 else 1) from rfl,this]
    show x r0 c0 + wayD false (nds s.R p) r0 c0 1 r0 c0 = _
    have hat2:wayD false (nds s.R p) r0 c0 1 r0 c0 = 1 * (if false = true then -1 else 1):=hat
    rw [hat2];rfl
   have hle40:=hAg.le hs hr0 hc0
   rw [show lastF s.R p (k + 1) x r0 c0 (if false = true then -1 else 1) r0 c0 = x r0 c0 + 1 from hL0] at hle40
   have hlf:∀ r j,lastF s.R p (k + 1) x r0 c0 (1) r j = if r = r0 ∧ j = c0 then doneF s.R p (k + 1) x (k + 1) r j + 1 else doneF s.R p (k + 1) x (k + 1) r j:=fun r j=>rfl
   obtain rfl:r0 = 0:=by omega
   (repeat' ((try conv=>whnf);first|(with_reducible first|refine wT ?_|refine wF ?_|(refine wI (fun hq=>?_) (fun hq=>?_) <;> try simp only [zA,zE,zD,zJ,zB,zI,wK,wL] at hq)|refine wA ?_|refine wB ?_|refine wC ?_|refine wD ?_|refine wE ?_)|((with_reducible refine wN ?_ ?_);focus exact needA)|(with_reducible refine wG ?_)|(with_reducible refine wP ?_)))
   all_goals (try conv=>whnf)
   exact ⟨⟨lastF s.R p (k + 1) x 0 c0 (1),hAg,by show (40000 - _:Int).toNat < (40000 - _:Int).toNat;rw [hL0];omega,[0,1,2],(wO rfl rfl rfl (wV rfl LnB.A (wV rfl (LnB.rwg1 (Ln.ownE rfl rfl) (Nat.le_refl _)) (wV rfl (LnB.hitR (hitA (d:=1) (hlf 0) rfl rfl)) wX)))),allA⟩⟩
theorem moved1D (f:ShF) (s:Sheet) (hs:SheetOk s) (z e:Bool) (m:List Int) (hm:MaskOk s m) (r0 c0:Nat) (hr0:r0 < s.R) (hc0:c0 < s.C) (ho:outS m r0 c0 = true) (hR:s.R = 1):ACall Try.prog 77 [aSh f s,aInts z e m,AI r0,AI c0,.bool false] [] (fun v h=>MovedOut s m r0 c0 false v h):=by
 have c4:=hs.c4
 have hml:=hm.len
 have hR':s.amounts.length = 1:=hR
 have cp:=copyOwn_ok f.za f.ea f.rz f.re s.amounts s.C (by omega) ⟨hs.c1,hs.c4⟩ (fun k hk=>hs.row k hk)
 rw [hR'] at cp
 have cH:=has_int (m.getD r0 0) c0 (hm.bd r0 hr0).1 (by omega)
 rw [Int.toNat_natCast,show (m.getD r0 0).toNat.testBit c0 = true from ho] at cH
 (refine fcall_of mixed Try.func77 rfl (by decide) (hs:={ pub:=[6] }) ?k (ac:=?ac) ?c (rs:=?rs) ?r ?l ?H;(case k=>kernel_rfl);(case c=>(conv=>(lhs;cbv)));(case r=>(conv=>(lhs;cbv)));(case l=>exact Nat.le_of_ble_eq_true rfl))
 (repeat' ((try conv=>whnf);first|(with_reducible first|refine wT ?_|refine wF ?_|(refine wI (fun hq=>?_) (fun hq=>?_) <;> try simp only [zA,zE,zD,zJ,zB,zI,wK,wL] at hq)|refine wA ?_|refine wB ?_|refine wC ?_|refine wD ?_|refine wE ?_)|((with_reducible refine wN ?_ ?_);focus exact needA)|(with_reducible refine wG ?_)|((refine FCall.give [] [] (cp) rfl rfl True.intro ⟨Ln.A,True.intro⟩ ?_);rintro _ _ ⟨rfl,rfl⟩;(refine ⟨by first|exact Nat.le_of_ble_eq_true rfl|omega,.inl rfl,?_⟩))|(refine FCall.pure (cH) ⟨Ln.sameB _ rfl,Ln.sameB _ rfl,True.intro⟩ rfl ?_)|(with_reducible refine wP ?_)))
 all_goals (try conv=>whnf)
 refine FLoop.of (ACalls.mono _) (X:=Nat → Nat → Int) (fun x=>[(1,aInts z e m),(2,AI r0),(3,AI c0),(4,.bool false),(5,.ptr 0 0),(11,.own 1 1),(12,AI 1)]) (fun x=>[.box 3 (cSh f s),.rwg 1 1 (fun _ _=>.own 2 s.C),rowF s.C (x 0)]) (fun x=>Ag s m x) (fun x=>(x r0 c0).toNat) s.A ⟨Ag.self hs m,[0,1,2],(wO rfl rfl rfl (wV rfl LnB.A (wV rfl (LnB.rwg1 (Ln.ownE rfl rfl) (Nat.le_refl _)) (wV rfl LnB.A wX)))),allA⟩ ?_
 intro x hx
 have cW:=refWay_ok f s hs z e m hm r0 c0 hr0 hc0 false x hx.nn (r0) (s.R + c0) ⟨by simp,by simp⟩
 rw [show aMat s.R s.C x = aMat 1 s.C x by rw [hR]] at cW
 have hx40:∀ r c,r < s.R → c < s.C → 0 ≤ x r c ∧ x r c ≤ 40000:=fun r c hr hc=>⟨hx.nn r c hr hc,hx.le hs hr hc⟩
 by_cases hz:x r0 c0 = 0
 ·obtain rfl:r0 = 0:=by omega
  (repeat' ((try conv=>whnf);first|(with_reducible first|refine wT ?_|refine wF ?_|(refine wI (fun hq=>?_) (fun hq=>?_) <;> try simp only [zA,zE,zD,zJ,zB,zI,wK,wL] at hq)|refine wA ?_|refine wB ?_|refine wC ?_|refine wD ?_|refine wE ?_)|((with_reducible refine wN ?_ ?_);focus exact needA)|(with_reducible refine wG ?_)|(with_reducible refine wP ?_)))
  (try conv=>whnf)
  exact ⟨⟨aMat s.R s.C x,[],[],Cut.nil _,by rw [hR];exact Ln.mat (x:=x) (goneB rfl) rfl (Nat.le_refl _) (below1 (Ln.pubE (goneB rfl) rfl (Nat.le_refl _) rfl (fun _ _ _ _=>rfl))),x,hx,(fun h=>by cases h),fun _=>(fun w hw=>by rw [hz];exact hw.nn _ c0 hr0 hc0),rfl,rfl⟩⟩
 have hpos:0 < x r0 c0:=by have:=hx.nn r0 c0 hr0 hc0;omega
 apply cutG
 ·intro rest
  have h0:r0 = 0:=by omega
  have hp2:=hpos
  rw [h0] at hp2
  (repeat' ((try conv=>whnf);first|(with_reducible refine FIdx.eqN 0 (by omega) (by omega) ?_)|(with_reducible first|refine wT ?_|refine wF ?_|(refine wI (fun hq=>?_) (fun hq=>?_) <;> try simp only [zA,zE,zD,zJ,zB,zI,wK,wL] at hq)|refine wA ?_|refine wB ?_|refine wC ?_|refine wD ?_|refine wE ?_)|((with_reducible refine wN ?_ ?_);focus exact needA)|(with_reducible refine wG ?_)|(with_reducible refine wP ?_)))
  all_goals (try conv=>whnf)
  all_goals exact FWk.of [(1,aInts z e m),(2,AI r0),(3,AI c0),(4,.bool false),(5,.ptr 0 0),(11,.own 1 1),(12,AI 1)] [.box 3 (cSh f s),.rwg 1 1 (fun _ _=>.own 2 s.C),rowF s.C (x 0)] [0,1,2] (wO rfl rfl rfl (wV rfl LnB.A (wV rfl (LnB.rwg1 (Ln.ownE rfl rfl) (Nat.le_refl _)) (wV rfl LnB.A wX)))) allA rest.h
 (repeat' ((try conv=>whnf);first|(with_reducible first|refine wT ?_|refine wF ?_|(refine wI (fun hq=>?_) (fun hq=>?_) <;> try simp only [zA,zE,zD,zJ,zB,zI,wK,wL] at hq)|refine wA ?_|refine wB ?_|refine wC ?_|refine wD ?_|refine wE ?_)|((with_reducible refine wN ?_ ?_);focus exact needA)|(with_reducible refine wG ?_)|(with_reducible refine wP ?_)))
 all_goals (try conv=>whnf)
 refine FCall.give [] [1,2] cW rfl rfl True.intro ⟨Ln.A,Ln.A,Ln.A,Ln.A,Ln.A,Ln.mat (x:=x) (by decide) rfl (Nat.le_refl _) (below1 (Ln.pubE (by decide) rfl (Nat.le_refl _) rfl (fun _ _ _ _=>rfl))),True.intro⟩ ?_
 rintro _ _ (⟨rfl,rfl,P,hB,hPt⟩|⟨p,k,C,hl,hto,rfl,rfl⟩)
 ·refine ⟨Nat.zero_le _,.inr ⟨rfl,fun y hy=>by cases hy⟩,?_⟩
  have S:=hB.shut
  (repeat' ((try conv=>whnf);first|(with_reducible first|refine wT ?_|refine wF ?_|(refine wI (fun hq=>?_) (fun hq=>?_) <;> try simp only [zA,zE,zD,zJ,zB,zI,wK,wL] at hq)|refine wA ?_|refine wB ?_|refine wC ?_|refine wD ?_|refine wE ?_)|((with_reducible refine wN ?_ ?_);focus exact needA)|(with_reducible refine wG ?_)|(with_reducible refine wP ?_)))
  all_goals (try conv=>whnf)
  exact ⟨⟨aMat s.R s.C x,[],[],Cut.nil _,by rw [hR];exact Ln.mat (x:=x) (goneB rfl) rfl (Nat.le_refl _) (below1 (Ln.pubE (goneB rfl) rfl (Nat.le_refl _) rfl (fun _ _ _ _=>rfl))),x,hx,(fun h=>by cases h),fun _=>S.lo_row rfl rfl hr0 hc0 rfl (by have:=shut_col hB;cases hP:P r0 with|nil=>exact (this hP).elim|cons=>rfl) (by simp [hPt]) hx,rfl,rfl⟩⟩
 ·refine ⟨Nat.zero_le _,.inr ⟨True.intro,flat_one (flat_row fun _ _=>True.intro)⟩,?_⟩
  have hl2:p.length - 1 = k + 1:=by omega
  have C:=C
  have hkk:k + 2 ≤ 1000:=by
   have h1:=C.nod
   have h2:(p.map (·.1)).length ≤ (List.range (s.R + s.C)).length:=pig h1 fun y hy=>by
    obtain ⟨q,hq,rfl⟩:=List.mem_map.1 hy
    have:q.1 < s.R + s.C:=C.lt q hq
    exact List.mem_range.2 (by omega)
   rw [List.length_map,List.length_range] at h2
   have:=hs.r4
   omega
  (repeat' ((try conv=>whnf);first|(with_reducible first|refine wT ?_|refine wF ?_|(refine wI (fun hq=>?_) (fun hq=>?_) <;> try simp only [zA,zE,zD,zJ,zB,zI,wK,wL] at hq)|refine wA ?_|refine wB ?_|refine wC ?_|refine wD ?_|refine wE ?_)|((with_reducible refine wN ?_ ?_);focus exact needA)|(with_reducible refine wG ?_)|(with_reducible refine wP ?_)))
  all_goals (try conv=>whnf)
  refine FLoop.of (ACalls.mono _) (X:=Nat) (fun i=>[(1,aInts z e m),(2,AI r0),(3,AI c0),(4,.bool false),(5,.ptr 0 0),(11,.own 1 1),(12,AI 1),(13,.own 3 (k + 2)),(14,AI i)]) (fun i=>[.box 3 (cSh f s),.rwg 1 1 (fun _ _=>.own 2 s.C),rowF s.C (doneF s.R p (k + 1) x i 0),rowW p (k + 1)]) (fun i=>i ≤ k + 1) (fun i=>k + 1 - i) 0 ⟨Nat.zero_le _,[0,1,2,3],(wO rfl rfl rfl (wV rfl LnB.A (wV rfl (LnB.rwg1 (Ln.ownE rfl rfl) (Nat.le_refl _)) (wV rfl (LnB.offR fun j=>doneF_zero _ _ _ _ _ _) (wV rfl LnB.A wX))))),allA⟩ ?_
  intro i hi
  by_cases hlt:i < k + 1
  ·have hadj:=C.adj (j:=k - i) (by omega)
   have e1:((i:Int) + 1).toNat = i + 1:=by omega
   obtain ⟨a,ha⟩:∃ a,atW p (k + 1 - i) = a:=⟨_,rfl⟩
   obtain ⟨b,hb⟩:∃ b,atW p (k + 1 - (i + 1)) = b:=⟨_,rfl⟩
   have ha2:atW p (k + 1 - 1 - i + 1) = a:=by rw [← ha];congr 1;omega
   have hb2:atW p (k + 1 - 1 - i) = b:=by rw [← hb];congr 1;omega
   rw [show k - i + 1 = k + 1 - 1 - i + 1 by omega,show k - i = k + 1 - 1 - i by omega,ha2,hb2] at hadj
   have haN:a < s.R + s.C:=by rw [← ha];exact atW_lt C (by omega)
   have hbN:b < s.R + s.C:=by rw [← hb];exact atW_lt C (by omega)
   have hal:=(al_d (adj_d hadj).1).1
   rw [← e1] at hb
   rcases hal with ⟨x1,x2⟩|⟨x1,x2⟩
   ·have x1:a < s.R:=x1
    have x2:s.R ≤ b:=x2
    have hstp:=fun r=>done_rc (n:=k + 1) x ha2 hb2 x1 x2 r
    have h0:a = 0:=by omega
    have hbd:=doneF_bd (R:=s.R) (p:=p) (n:=k + 1) (i:=i) (hx40 0 (((atW p (k + 1 - ((i:Int) + 1).toNat):Nat):Int) - 1).toNat (by omega) (by omega))
    (repeat' ((try conv=>whnf);first|(with_reducible refine FIdx.eqN 0 (by omega) (by omega) ?_)|(with_reducible first|refine wT ?_|refine wF ?_|(refine wI (fun hq=>?_) (fun hq=>?_) <;> try simp only [zA,zE,zD,zJ,zB,zI,wK,wL] at hq)|refine wA ?_|refine wB ?_|refine wC ?_|refine wD ?_|refine wE ?_)|((with_reducible refine wN ?_ ?_);focus exact needA)|(with_reducible refine wG ?_)|(with_reducible refine wP ?_)))
    all_goals (try conv=>whnf)
    exact ⟨⟨i + 1,hlt,by show k + 1 - (i + 1) < k + 1 - i;omega,[0,1,2,3],(wO rfl rfl rfl (wV rfl LnB.A (wV rfl (LnB.rwg1 (Ln.ownE rfl rfl) (Nat.le_refl _)) (wV rfl (LnB.hitR (hitA (d:=1) (hstp 0) h0.symm (by omega))) (wV rfl LnB.A wX))))),allA⟩⟩
   ·have x1:s.R ≤ a:=x1
    have x2:b < s.R:=x2
    have hstp:=fun r=>done_cr (n:=k + 1) x ha2 hb2 x1 x2 r
    have h0:b = 0:=by omega
    have hbd:=doneF_bd (R:=s.R) (p:=p) (n:=k + 1) (i:=i) (hx40 0 (((atW p (k + 1 - i):Nat):Int) - 1).toNat (by omega) (by omega))
    (repeat' ((try conv=>whnf);first|(with_reducible refine FIdx.eqN 0 (by omega) (by omega) ?_)|(with_reducible first|refine wT ?_|refine wF ?_|(refine wI (fun hq=>?_) (fun hq=>?_) <;> try simp only [zA,zE,zD,zJ,zB,zI,wK,wL] at hq)|refine wA ?_|refine wB ?_|refine wC ?_|refine wD ?_|refine wE ?_)|((with_reducible refine wN ?_ ?_);focus exact needA)|(with_reducible refine wG ?_)|(with_reducible refine wP ?_)))
    all_goals (try conv=>whnf)
    exact ⟨⟨i + 1,hlt,by show k + 1 - (i + 1) < k + 1 - i;omega,[0,1,2,3],(wO rfl rfl rfl (wV rfl LnB.A (wV rfl (LnB.rwg1 (Ln.ownE rfl rfl) (Nat.le_refl _)) (wV rfl (LnB.hitR (hitA (d:=(-1)) (hstp 0) h0.symm (by omega))) (wV rfl LnB.A wX))))),allA⟩⟩
  ·have hik:k + 1 = i:=by omega
   subst hik
   have hb0:=doneF_bd (R:=s.R) (p:=p) (n:=k + 1) (i:=k + 1) (hx40 r0 c0 hr0 hc0)
   have hAg:=hx.shift (g:=1) (C.way rfl rfl (down:=true) (t:=s.R + c0) rfl rfl hr0 hto) hr0 hc0 ho (fun _ r c hm'=>by have h1:=C.cap_col rfl hm';have h2:=C.pos;show (1:Int) ≤ x r c;have h3:(p.head C.ne).2 ≤ x r c:=h1;omega) (fun h=>absurd h (by decide)) (by show 0 ≤ x r0 c0 + _;simp;have:=hx.nn r0 c0 hr0 hc0;omega)
   have hat:=shift_at (C.way rfl rfl (down:=true) (t:=s.R + c0) rfl rfl hr0 hto) 1
   have hLe:=lastF_eq (R:=s.R) (p:=p) (x:=x) (r0:=r0) (c0:=c0) (down:=true) hl2
   rw [show (fun r c=>x r c + wayD true (nds (gRef s m r0 c0 x).R p) (gRef s m r0 c0 x).r0 (gRef s m r0 c0 x).c0 1 r c) = lastF s.R p (k + 1) x r0 c0 (if true = true then -1 else 1) from hLe.symm] at hAg
   have hL0:lastF s.R p (k + 1) x r0 c0 (-1) r0 c0 = x r0 c0 + -1:=by
    have:=congrFun (congrFun hLe r0) c0
    rw [show lastF s.R p (k + 1) x r0 c0 (-1) = lastF s.R p (k + 1) x r0 c0 (if true = true then -1 else 1) from rfl,this]
    show x r0 c0 + wayD true (nds s.R p) r0 c0 1 r0 c0 = _
    have hat2:wayD true (nds s.R p) r0 c0 1 r0 c0 = 1 * (if true = true then -1 else 1):=hat
    rw [hat2];rfl
   have hle40:=hAg.le hs hr0 hc0
   rw [show lastF s.R p (k + 1) x r0 c0 (if true = true then -1 else 1) r0 c0 = x r0 c0 + -1 from hL0] at hle40
   have hlf:∀ r j,lastF s.R p (k + 1) x r0 c0 (-1) r j = if r = r0 ∧ j = c0 then doneF s.R p (k + 1) x (k + 1) r j + -1 else doneF s.R p (k + 1) x (k + 1) r j:=fun r j=>rfl
   obtain rfl:r0 = 0:=by omega
   (repeat' ((try conv=>whnf);first|(with_reducible first|refine wT ?_|refine wF ?_|(refine wI (fun hq=>?_) (fun hq=>?_) <;> try simp only [zA,zE,zD,zJ,zB,zI,wK,wL] at hq)|refine wA ?_|refine wB ?_|refine wC ?_|refine wD ?_|refine wE ?_)|((with_reducible refine wN ?_ ?_);focus exact needA)|(with_reducible refine wG ?_)|(with_reducible refine wP ?_)))
   all_goals (try conv=>whnf)
   exact ⟨⟨lastF s.R p (k + 1) x 0 c0 (-1),hAg,by show (_:Int).toNat < (_:Int).toNat;rw [hL0];have:=hx.nn 0 c0 hr0 hc0;omega,[0,1,2],(wO rfl rfl rfl (wV rfl LnB.A (wV rfl (LnB.rwg1 (Ln.ownE rfl rfl) (Nat.le_refl _)) (wV rfl (LnB.hitR (hitA (d:=-1) (hlf 0) rfl rfl)) wX)))),allA⟩⟩
end Go.Proofs.Ytlffjnmbpoemnaa

namespace Go.Proofs.Ytlffjnmbpoemnaa
open Go.RowKit

set_option maxHeartbeats 16000000
set_option maxRecDepth 100000
theorem moved2U (f:ShF) (s:Sheet) (hs:SheetOk s) (z e:Bool) (m:List Int) (hm:MaskOk s m) (r0 c0:Nat) (hr0:r0 < s.R) (hc0:c0 < s.C) (ho:outS m r0 c0 = true) (hR:s.R = 2):ACall Try.prog 77 [aSh f s,aInts z e m,AI r0,AI c0,.bool true] [] (fun v h=>MovedOut s m r0 c0 true v h):=by
 have c4:=hs.c4
 have hml:=hm.len
 have hR':s.amounts.length = 2:=hR
 have cp:=copyOwn_ok f.za f.ea f.rz f.re s.amounts s.C (by omega) ⟨hs.c1,hs.c4⟩ (fun k hk=>hs.row k hk)
 rw [hR'] at cp
 have cH:=has_int (m.getD r0 0) c0 (hm.bd r0 hr0).1 (by omega)
 rw [Int.toNat_natCast,show (m.getD r0 0).toNat.testBit c0 = true from ho] at cH
 (refine fcall_of mixed Try.func77 rfl (by decide) (hs:={}) ?k (ac:=?ac) ?c (rs:=?rs) ?r ?l ?H;(case k=>kernel_rfl);(case c=>(conv=>(lhs;cbv)));(case r=>(conv=>(lhs;cbv)));(case l=>exact Nat.le_of_ble_eq_true rfl))
 (repeat' ((try conv=>whnf);first|(with_reducible first|refine wT ?_|refine wF ?_|(refine wI (fun hq=>?_) (fun hq=>?_) <;> try simp only [zA,zE,zD,zJ,zB,zI,wK,wL] at hq)|refine wA ?_|refine wB ?_|refine wC ?_|refine wD ?_|refine wE ?_)|((with_reducible refine wN ?_ ?_);focus exact needA)|(with_reducible refine wG ?_)|((refine FCall.give [] [] (cp) rfl rfl True.intro ⟨Ln.A,True.intro⟩ ?_);rintro _ _ ⟨rfl,rfl⟩;(refine ⟨by first|exact Nat.le_of_ble_eq_true rfl|omega,.inl rfl,?_⟩))|(refine FCall.pure (cH) ⟨Ln.sameB _ rfl,Ln.sameB _ rfl,True.intro⟩ rfl ?_)|(with_reducible refine wP ?_)))
 all_goals (try conv=>whnf)
 refine FLoop.of (ACalls.mono _) (X:=Nat → Nat → Int) (fun x=>[(1,aInts z e m),(2,AI r0),(3,AI c0),(4,.bool true),(5,.ptr 0 0),(11,.own 1 2),(12,AI 2)]) (fun x=>[.box 3 (cSh f s),.rwg 2 1 (fun k _=>match k with|0=>.own 2 s.C|_=>.own 3 s.C),rowF s.C (x 0),rowF s.C (x 1)]) (fun x=>Ag s m x) (fun x=>(40000 - x r0 c0).toNat) s.A ⟨Ag.self hs m,[0,1,2,3],(wO rfl rfl rfl (wV rfl LnB.A (wV rfl (LnB.rwg2 (Ln.ownE rfl rfl) (Ln.ownE rfl rfl) (Nat.le_refl _)) (wV rfl LnB.A (wV rfl LnB.A wX))))),allA⟩ ?_
 intro x hx
 have cW:=refWay_ok f s hs z e m hm r0 c0 hr0 hc0 true x hx.nn (s.R + c0) (r0) ⟨by simp,by simp⟩
 rw [show aMat s.R s.C x = aMat 2 s.C x by rw [hR]] at cW
 have hx40:∀ r c,r < s.R → c < s.C → 0 ≤ x r c ∧ x r c ≤ 40000:=fun r c hr hc=>⟨hx.nn r c hr hc,hx.le hs hr hc⟩
 (repeat' ((try conv=>whnf);first|(with_reducible first|refine wT ?_|refine wF ?_|(refine wI (fun hq=>?_) (fun hq=>?_) <;> try simp only [zA,zE,zD,zJ,zB,zI,wK,wL] at hq)|refine wA ?_|refine wB ?_|refine wC ?_|refine wD ?_|refine wE ?_)|((with_reducible refine wN ?_ ?_);focus exact needA)|(with_reducible refine wG ?_)|(with_reducible refine wP ?_)))
 all_goals (try conv=>whnf)
 refine FCall.give [] [1,2,3] cW rfl rfl True.intro ⟨Ln.A,Ln.A,Ln.A,Ln.A,Ln.A,Ln.mat (x:=x) (by decide) rfl (Nat.le_refl _) (below2 (Ln.pubE (by decide) rfl (Nat.le_refl _) rfl (fun _ _ _ _=>rfl)) (Ln.pubE (by decide) rfl (Nat.le_refl _) rfl (fun _ _ _ _=>rfl))),True.intro⟩ ?_
 rintro _ _ (⟨rfl,rfl,P,hB,hPt⟩|⟨p,k,C,hl,hto,rfl,rfl⟩)
 ·refine ⟨Nat.zero_le _,.inr ⟨rfl,fun y hy=>by cases hy⟩,?_⟩
  have S:=hB.shut
  (repeat' ((try conv=>whnf);first|(with_reducible first|refine wT ?_|refine wF ?_|(refine wI (fun hq=>?_) (fun hq=>?_) <;> try simp only [zA,zE,zD,zJ,zB,zI,wK,wL] at hq)|refine wA ?_|refine wB ?_|refine wC ?_|refine wD ?_|refine wE ?_)|((with_reducible refine wN ?_ ?_);focus exact needA)|(with_reducible refine wG ?_)|(with_reducible refine wP ?_)))
  all_goals (try conv=>whnf)
  exact ⟨⟨aMat s.R s.C x,[],[],Cut.nil _,by rw [hR];exact Ln.mat (x:=x) (goneB rfl) rfl (Nat.le_refl _) (below2 (Ln.pubE (goneB rfl) rfl (Nat.le_refl _) rfl (fun _ _ _ _=>rfl)) (Ln.pubE (goneB rfl) rfl (Nat.le_refl _) rfl (fun _ _ _ _=>rfl))),x,hx,fun _=>S.hi_col rfl rfl hr0 hc0 rfl (by simp [hPt]) (by have:=shut_col hB;cases hP:P (s.R + c0) with|nil=>exact (this hP).elim|cons=>rfl) hx,(fun h=>by cases h),rfl,rfl⟩⟩
 ·refine ⟨Nat.zero_le _,.inr ⟨True.intro,flat_one (flat_row fun _ _=>True.intro)⟩,?_⟩
  have hl2:p.length - 1 = k + 1:=by omega
  have C:=C
  have hkk:k + 2 ≤ 1000:=by
   have h1:=C.nod
   have h2:(p.map (·.1)).length ≤ (List.range (s.R + s.C)).length:=pig h1 fun y hy=>by
    obtain ⟨q,hq,rfl⟩:=List.mem_map.1 hy
    have:q.1 < s.R + s.C:=C.lt q hq
    exact List.mem_range.2 (by omega)
   rw [List.length_map,List.length_range] at h2
   have:=hs.r4
   omega
  (repeat' ((try conv=>whnf);first|(with_reducible first|refine wT ?_|refine wF ?_|(refine wI (fun hq=>?_) (fun hq=>?_) <;> try simp only [zA,zE,zD,zJ,zB,zI,wK,wL] at hq)|refine wA ?_|refine wB ?_|refine wC ?_|refine wD ?_|refine wE ?_)|((with_reducible refine wN ?_ ?_);focus exact needA)|(with_reducible refine wG ?_)|(with_reducible refine wP ?_)))
  all_goals (try conv=>whnf)
  refine FLoop.of (ACalls.mono _) (X:=Nat) (fun i=>[(1,aInts z e m),(2,AI r0),(3,AI c0),(4,.bool true),(5,.ptr 0 0),(11,.own 1 2),(12,AI 2),(13,.own 4 (k + 2)),(14,AI i)]) (fun i=>[.box 3 (cSh f s),.rwg 2 1 (fun k _=>match k with|0=>.own 2 s.C|_=>.own 3 s.C),rowF s.C (doneF s.R p (k + 1) x i 0),rowF s.C (doneF s.R p (k + 1) x i 1),rowW p (k + 1)]) (fun i=>i ≤ k + 1) (fun i=>k + 1 - i) 0 ⟨Nat.zero_le _,[0,1,2,3,4],(wO rfl rfl rfl (wV rfl LnB.A (wV rfl (LnB.rwg2 (Ln.ownE rfl rfl) (Ln.ownE rfl rfl) (Nat.le_refl _)) (wV rfl (LnB.offR fun j=>doneF_zero _ _ _ _ _ _) (wV rfl (LnB.offR fun j=>doneF_zero _ _ _ _ _ _) (wV rfl LnB.A wX)))))),allA⟩ ?_
  intro i hi
  by_cases hlt:i < k + 1
  ·have hadj:=C.adj (j:=k - i) (by omega)
   have e1:((i:Int) + 1).toNat = i + 1:=by omega
   obtain ⟨a,ha⟩:∃ a,atW p (k + 1 - i) = a:=⟨_,rfl⟩
   obtain ⟨b,hb⟩:∃ b,atW p (k + 1 - (i + 1)) = b:=⟨_,rfl⟩
   have ha2:atW p (k + 1 - 1 - i + 1) = a:=by rw [← ha];congr 1;omega
   have hb2:atW p (k + 1 - 1 - i) = b:=by rw [← hb];congr 1;omega
   rw [show k - i + 1 = k + 1 - 1 - i + 1 by omega,show k - i = k + 1 - 1 - i by omega,ha2,hb2] at hadj
   have haN:a < s.R + s.C:=by rw [← ha];exact atW_lt C (by omega)
   have hbN:b < s.R + s.C:=by rw [← hb];exact atW_lt C (by omega)
   have hal:=(al_d (adj_d hadj).1).1
   rw [← e1] at hb
   rcases hal with ⟨x1,x2⟩|⟨x1,x2⟩
   ·have x1:a < s.R:=x1
    have x2:s.R ≤ b:=x2
    have hstp:=fun r=>done_rc (n:=k + 1) x ha2 hb2 x1 x2 r
    have h0:a = 0 ∨ a = 1:=by omega
    rcases h0 with h0|h0
    ·have hbd:=doneF_bd (R:=s.R) (p:=p) (n:=k + 1) (i:=i) (hx40 0 (((atW p (k + 1 - ((i:Int) + 1).toNat):Nat):Int) - 2).toNat (by omega) (by omega))
     (repeat' ((try conv=>whnf);first|(with_reducible refine FIdx.eqN 0 (by omega) (by omega) ?_)|(with_reducible first|refine wT ?_|refine wF ?_|(refine wI (fun hq=>?_) (fun hq=>?_) <;> try simp only [zA,zE,zD,zJ,zB,zI,wK,wL] at hq)|refine wA ?_|refine wB ?_|refine wC ?_|refine wD ?_|refine wE ?_)|((with_reducible refine wN ?_ ?_);focus exact needA)|(with_reducible refine wG ?_)|(with_reducible refine wP ?_)))
     all_goals (try conv=>whnf)
     exact ⟨⟨i + 1,hlt,by show k + 1 - (i + 1) < k + 1 - i;omega,[0,1,2,3,4],(wO rfl rfl rfl (wV rfl LnB.A (wV rfl (LnB.rwg2 (Ln.ownE rfl rfl) (Ln.ownE rfl rfl) (Nat.le_refl _)) (wV rfl (LnB.hitR (hitA (d:=1) (hstp 0) h0.symm (by omega))) (wV rfl (LnB.offR (off1 (hstp 1) (by omega))) (wV rfl LnB.A wX)))))),allA⟩⟩
    ·have hbd:=doneF_bd (R:=s.R) (p:=p) (n:=k + 1) (i:=i) (hx40 1 (((atW p (k + 1 - ((i:Int) + 1).toNat):Nat):Int) - 2).toNat (by omega) (by omega))
     (repeat' ((try conv=>whnf);first|(with_reducible refine FIdx.eqN 1 (by omega) (by omega) ?_)|(with_reducible first|refine wT ?_|refine wF ?_|(refine wI (fun hq=>?_) (fun hq=>?_) <;> try simp only [zA,zE,zD,zJ,zB,zI,wK,wL] at hq)|refine wA ?_|refine wB ?_|refine wC ?_|refine wD ?_|refine wE ?_)|((with_reducible refine wN ?_ ?_);focus exact needA)|(with_reducible refine wG ?_)|(with_reducible refine wP ?_)))
     all_goals (try conv=>whnf)
     exact ⟨⟨i + 1,hlt,by show k + 1 - (i + 1) < k + 1 - i;omega,[0,1,2,3,4],(wO rfl rfl rfl (wV rfl LnB.A (wV rfl (LnB.rwg2 (Ln.ownE rfl rfl) (Ln.ownE rfl rfl) (Nat.le_refl _)) (wV rfl (LnB.offR (off1 (hstp 0) (by omega))) (wV rfl (LnB.hitR (hitA (d:=1) (hstp 1) h0.symm (by omega))) (wV rfl LnB.A wX)))))),allA⟩⟩
   ·have x1:s.R ≤ a:=x1
    have x2:b < s.R:=x2
    have hstp:=fun r=>done_cr (n:=k + 1) x ha2 hb2 x1 x2 r
    have h0:b = 0 ∨ b = 1:=by omega
    rcases h0 with h0|h0
    ·have hbd:=doneF_bd (R:=s.R) (p:=p) (n:=k + 1) (i:=i) (hx40 0 (((atW p (k + 1 - i):Nat):Int) - 2).toNat (by omega) (by omega))
     (repeat' ((try conv=>whnf);first|(with_reducible refine FIdx.eqN 0 (by omega) (by omega) ?_)|(with_reducible first|refine wT ?_|refine wF ?_|(refine wI (fun hq=>?_) (fun hq=>?_) <;> try simp only [zA,zE,zD,zJ,zB,zI,wK,wL] at hq)|refine wA ?_|refine wB ?_|refine wC ?_|refine wD ?_|refine wE ?_)|((with_reducible refine wN ?_ ?_);focus exact needA)|(with_reducible refine wG ?_)|(with_reducible refine wP ?_)))
     all_goals (try conv=>whnf)
     exact ⟨⟨i + 1,hlt,by show k + 1 - (i + 1) < k + 1 - i;omega,[0,1,2,3,4],(wO rfl rfl rfl (wV rfl LnB.A (wV rfl (LnB.rwg2 (Ln.ownE rfl rfl) (Ln.ownE rfl rfl) (Nat.le_refl _)) (wV rfl (LnB.hitR (hitA (d:=(-1)) (hstp 0) h0.symm (by omega))) (wV rfl (LnB.offR (off1 (hstp 1) (by omega))) (wV rfl LnB.A wX)))))),allA⟩⟩
    ·have hbd:=doneF_bd (R:=s.R) (p:=p) (n:=k + 1) (i:=i) (hx40 1 (((atW p (k + 1 - i):Nat):Int) - 2).toNat (by omega) (by omega))
     (repeat' ((try conv=>whnf);first|(with_reducible refine FIdx.eqN 1 (by omega) (by omega) ?_)|(with_reducible first|refine wT ?_|refine wF ?_|(refine wI (fun hq=>?_) (fun hq=>?_) <;> try simp only [zA,zE,zD,zJ,zB,zI,wK,wL] at hq)|refine wA ?_|refine wB ?_|refine wC ?_|refine wD ?_|refine wE ?_)|((with_reducible refine wN ?_ ?_);focus exact needA)|(with_reducible refine wG ?_)|(with_reducible refine wP ?_)))
     all_goals (try conv=>whnf)
     exact ⟨⟨i + 1,hlt,by show k + 1 - (i + 1) < k + 1 - i;omega,[0,1,2,3,4],(wO rfl rfl rfl (wV rfl LnB.A (wV rfl (LnB.rwg2 (Ln.ownE rfl rfl) (Ln.ownE rfl rfl) (Nat.le_refl _)) (wV rfl (LnB.offR (off1 (hstp 0) (by omega))) (wV rfl (LnB.hitR (hitA (d:=(-1)) (hstp 1) h0.symm (by omega))) (wV rfl LnB.A wX)))))),allA⟩⟩
  ·have hik:k + 1 = i:=by omega
   subst hik
   have hb0:=doneF_bd (R:=s.R) (p:=p) (n:=k + 1) (i:=k + 1) (hx40 r0 c0 hr0 hc0)
   have hAg:=hx.shift (g:=1) (C.way rfl rfl (down:=false) (t:=r0) rfl rfl hr0 hto) hr0 hc0 ho (fun _ r c hm'=>by have h1:=C.cap_col rfl hm';have h2:=C.pos;show (1:Int) ≤ x r c;have h3:(p.head C.ne).2 ≤ x r c:=h1;omega) (fun h=>absurd h (by decide)) (by show 0 ≤ x r0 c0 + _;simp;have:=hx.nn r0 c0 hr0 hc0;omega)
   have hat:=shift_at (C.way rfl rfl (down:=false) (t:=r0) rfl rfl hr0 hto) 1
   have hLe:=lastF_eq (R:=s.R) (p:=p) (x:=x) (r0:=r0) (c0:=c0) (down:=false) hl2
   rw [show (fun r c=>x r c + wayD false (nds (gRef s m r0 c0 x).R p) (gRef s m r0 c0 x).r0 (gRef s m r0 c0 x).c0 1 r c) = lastF s.R p (k + 1) x r0 c0 (if false = true then -1 else 1) from hLe.symm] at hAg
   have hL0:lastF s.R p (k + 1) x r0 c0 (1) r0 c0 = x r0 c0 + 1:=by
    have:=congrFun (congrFun hLe r0) c0
    rw [show lastF s.R p (k + 1) x r0 c0 (1) = lastF s.R p (k + 1) x r0 c0 (if false = true then -1 else 1) from rfl,this]
    show x r0 c0 + wayD false (nds s.R p) r0 c0 1 r0 c0 = _
    have hat2:wayD false (nds s.R p) r0 c0 1 r0 c0 = 1 * (if false = true then -1 else 1):=hat
    rw [hat2];rfl
   have hle40:=hAg.le hs hr0 hc0
   rw [show lastF s.R p (k + 1) x r0 c0 (if false = true then -1 else 1) r0 c0 = x r0 c0 + 1 from hL0] at hle40
   have hlf:∀ r j,lastF s.R p (k + 1) x r0 c0 (1) r j = if r = r0 ∧ j = c0 then doneF s.R p (k + 1) x (k + 1) r j + 1 else doneF s.R p (k + 1) x (k + 1) r j:=fun r j=>rfl
   have h0:r0 = 0 ∨ r0 = 1:=by omega
   rcases h0 with rfl|rfl
   ·(repeat' ((try conv=>whnf);first|(with_reducible first|refine wT ?_|refine wF ?_|(refine wI (fun hq=>?_) (fun hq=>?_) <;> try simp only [zA,zE,zD,zJ,zB,zI,wK,wL] at hq)|refine wA ?_|refine wB ?_|refine wC ?_|refine wD ?_|refine wE ?_)|((with_reducible refine wN ?_ ?_);focus exact needA)|(with_reducible refine wG ?_)|(with_reducible refine wP ?_)))
    all_goals (try conv=>whnf)
    exact ⟨⟨lastF s.R p (k + 1) x 0 c0 (1),hAg,by show (40000 - _:Int).toNat < (40000 - _:Int).toNat;rw [hL0];omega,[0,1,2,3],(wO rfl rfl rfl (wV rfl LnB.A (wV rfl (LnB.rwg2 (Ln.ownE rfl rfl) (Ln.ownE rfl rfl) (Nat.le_refl _)) (wV rfl (LnB.hitR (hitA (d:=1) (hlf 0) rfl rfl)) (wV rfl (LnB.offR (off1 (hlf 1) (by decide))) wX))))),allA⟩⟩
   ·(repeat' ((try conv=>whnf);first|(with_reducible first|refine wT ?_|refine wF ?_|(refine wI (fun hq=>?_) (fun hq=>?_) <;> try simp only [zA,zE,zD,zJ,zB,zI,wK,wL] at hq)|refine wA ?_|refine wB ?_|refine wC ?_|refine wD ?_|refine wE ?_)|((with_reducible refine wN ?_ ?_);focus exact needA)|(with_reducible refine wG ?_)|(with_reducible refine wP ?_)))
    all_goals (try conv=>whnf)
    exact ⟨⟨lastF s.R p (k + 1) x 1 c0 (1),hAg,by show (40000 - _:Int).toNat < (40000 - _:Int).toNat;rw [hL0];omega,[0,1,2,3],(wO rfl rfl rfl (wV rfl LnB.A (wV rfl (LnB.rwg2 (Ln.ownE rfl rfl) (Ln.ownE rfl rfl) (Nat.le_refl _)) (wV rfl (LnB.offR (off1 (hlf 0) (by decide))) (wV rfl (LnB.hitR (hitA (d:=1) (hlf 1) rfl rfl)) wX))))),allA⟩⟩
theorem moved2D (f:ShF) (s:Sheet) (hs:SheetOk s) (z e:Bool) (m:List Int) (hm:MaskOk s m) (r0 c0:Nat) (hr0:r0 < s.R) (hc0:c0 < s.C) (ho:outS m r0 c0 = true) (hR:s.R = 2):ACall Try.prog 77 [aSh f s,aInts z e m,AI r0,AI c0,.bool false] [] (fun v h=>MovedOut s m r0 c0 false v h):=by
 have c4:=hs.c4
 have hml:=hm.len
 have hR':s.amounts.length = 2:=hR
 have cp:=copyOwn_ok f.za f.ea f.rz f.re s.amounts s.C (by omega) ⟨hs.c1,hs.c4⟩ (fun k hk=>hs.row k hk)
 rw [hR'] at cp
 have cH:=has_int (m.getD r0 0) c0 (hm.bd r0 hr0).1 (by omega)
 rw [Int.toNat_natCast,show (m.getD r0 0).toNat.testBit c0 = true from ho] at cH
 (refine fcall_of mixed Try.func77 rfl (by decide) (hs:={ pub:=[6] }) ?k (ac:=?ac) ?c (rs:=?rs) ?r ?l ?H;(case k=>kernel_rfl);(case c=>(conv=>(lhs;cbv)));(case r=>(conv=>(lhs;cbv)));(case l=>exact Nat.le_of_ble_eq_true rfl))
 (repeat' ((try conv=>whnf);first|(with_reducible first|refine wT ?_|refine wF ?_|(refine wI (fun hq=>?_) (fun hq=>?_) <;> try simp only [zA,zE,zD,zJ,zB,zI,wK,wL] at hq)|refine wA ?_|refine wB ?_|refine wC ?_|refine wD ?_|refine wE ?_)|((with_reducible refine wN ?_ ?_);focus exact needA)|(with_reducible refine wG ?_)|((refine FCall.give [] [] (cp) rfl rfl True.intro ⟨Ln.A,True.intro⟩ ?_);rintro _ _ ⟨rfl,rfl⟩;(refine ⟨by first|exact Nat.le_of_ble_eq_true rfl|omega,.inl rfl,?_⟩))|(refine FCall.pure (cH) ⟨Ln.sameB _ rfl,Ln.sameB _ rfl,True.intro⟩ rfl ?_)|(with_reducible refine wP ?_)))
 all_goals (try conv=>whnf)
 refine FLoop.of (ACalls.mono _) (X:=Nat → Nat → Int) (fun x=>[(1,aInts z e m),(2,AI r0),(3,AI c0),(4,.bool false),(5,.ptr 0 0),(11,.own 1 2),(12,AI 2)]) (fun x=>[.box 3 (cSh f s),.rwg 2 1 (fun k _=>match k with|0=>.own 2 s.C|_=>.own 3 s.C),rowF s.C (x 0),rowF s.C (x 1)]) (fun x=>Ag s m x) (fun x=>(x r0 c0).toNat) s.A ⟨Ag.self hs m,[0,1,2,3],(wO rfl rfl rfl (wV rfl LnB.A (wV rfl (LnB.rwg2 (Ln.ownE rfl rfl) (Ln.ownE rfl rfl) (Nat.le_refl _)) (wV rfl LnB.A (wV rfl LnB.A wX))))),allA⟩ ?_
 intro x hx
 have cW:=refWay_ok f s hs z e m hm r0 c0 hr0 hc0 false x hx.nn (r0) (s.R + c0) ⟨by simp,by simp⟩
 rw [show aMat s.R s.C x = aMat 2 s.C x by rw [hR]] at cW
 have hx40:∀ r c,r < s.R → c < s.C → 0 ≤ x r c ∧ x r c ≤ 40000:=fun r c hr hc=>⟨hx.nn r c hr hc,hx.le hs hr hc⟩
 by_cases hz:x r0 c0 = 0
 ·have h0:r0 = 0 ∨ r0 = 1:=by omega
  rcases h0 with rfl|rfl
  all_goals
   (repeat' ((try conv=>whnf);first|(with_reducible first|refine wT ?_|refine wF ?_|(refine wI (fun hq=>?_) (fun hq=>?_) <;> try simp only [zA,zE,zD,zJ,zB,zI,wK,wL] at hq)|refine wA ?_|refine wB ?_|refine wC ?_|refine wD ?_|refine wE ?_)|((with_reducible refine wN ?_ ?_);focus exact needA)|(with_reducible refine wG ?_)|(with_reducible refine wP ?_)))
   (try conv=>whnf)
   exact ⟨⟨aMat s.R s.C x,[],[],Cut.nil _,by rw [hR];exact Ln.mat (x:=x) (goneB rfl) rfl (Nat.le_refl _) (below2 (Ln.pubE (goneB rfl) rfl (Nat.le_refl _) rfl (fun _ _ _ _=>rfl)) (Ln.pubE (goneB rfl) rfl (Nat.le_refl _) rfl (fun _ _ _ _=>rfl))),x,hx,(fun h=>by cases h),fun _=>(fun w hw=>by rw [hz];exact hw.nn _ c0 hr0 hc0),rfl,rfl⟩⟩
 have hpos:0 < x r0 c0:=by have:=hx.nn r0 c0 hr0 hc0;omega
 apply cutG
 ·intro rest
  have h0:r0 = 0 ∨ r0 = 1:=by omega
  rcases h0 with h0|h0
  all_goals
   have hp2:=hpos
   rw [h0] at hp2
   (repeat' ((try conv=>whnf);first|(with_reducible refine FIdx.eqN 0 (by omega) (by omega) ?_)|(with_reducible refine FIdx.eqN 1 (by omega) (by omega) ?_)|(with_reducible first|refine wT ?_|refine wF ?_|(refine wI (fun hq=>?_) (fun hq=>?_) <;> try simp only [zA,zE,zD,zJ,zB,zI,wK,wL] at hq)|refine wA ?_|refine wB ?_|refine wC ?_|refine wD ?_|refine wE ?_)|((with_reducible refine wN ?_ ?_);focus exact needA)|(with_reducible refine wG ?_)|(with_reducible refine wP ?_)))
   all_goals (try conv=>whnf)
   all_goals exact FWk.of [(1,aInts z e m),(2,AI r0),(3,AI c0),(4,.bool false),(5,.ptr 0 0),(11,.own 1 2),(12,AI 2)] [.box 3 (cSh f s),.rwg 2 1 (fun k _=>match k with|0=>.own 2 s.C|_=>.own 3 s.C),rowF s.C (x 0),rowF s.C (x 1)] [0,1,2,3] (wO rfl rfl rfl (wV rfl LnB.A (wV rfl (LnB.rwg2 (Ln.ownE rfl rfl) (Ln.ownE rfl rfl) (Nat.le_refl _)) (wV rfl LnB.A (wV rfl LnB.A wX))))) allA rest.h
 (repeat' ((try conv=>whnf);first|(with_reducible first|refine wT ?_|refine wF ?_|(refine wI (fun hq=>?_) (fun hq=>?_) <;> try simp only [zA,zE,zD,zJ,zB,zI,wK,wL] at hq)|refine wA ?_|refine wB ?_|refine wC ?_|refine wD ?_|refine wE ?_)|((with_reducible refine wN ?_ ?_);focus exact needA)|(with_reducible refine wG ?_)|(with_reducible refine wP ?_)))
 all_goals (try conv=>whnf)
 refine FCall.give [] [1,2,3] cW rfl rfl True.intro ⟨Ln.A,Ln.A,Ln.A,Ln.A,Ln.A,Ln.mat (x:=x) (by decide) rfl (Nat.le_refl _) (below2 (Ln.pubE (by decide) rfl (Nat.le_refl _) rfl (fun _ _ _ _=>rfl)) (Ln.pubE (by decide) rfl (Nat.le_refl _) rfl (fun _ _ _ _=>rfl))),True.intro⟩ ?_
 rintro _ _ (⟨rfl,rfl,P,hB,hPt⟩|⟨p,k,C,hl,hto,rfl,rfl⟩)
 ·refine ⟨Nat.zero_le _,.inr ⟨rfl,fun y hy=>by cases hy⟩,?_⟩
  have S:=hB.shut
  (repeat' ((try conv=>whnf);first|(with_reducible first|refine wT ?_|refine wF ?_|(refine wI (fun hq=>?_) (fun hq=>?_) <;> try simp only [zA,zE,zD,zJ,zB,zI,wK,wL] at hq)|refine wA ?_|refine wB ?_|refine wC ?_|refine wD ?_|refine wE ?_)|((with_reducible refine wN ?_ ?_);focus exact needA)|(with_reducible refine wG ?_)|(with_reducible refine wP ?_)))
  all_goals (try conv=>whnf)
  exact ⟨⟨aMat s.R s.C x,[],[],Cut.nil _,by rw [hR];exact Ln.mat (x:=x) (goneB rfl) rfl (Nat.le_refl _) (below2 (Ln.pubE (goneB rfl) rfl (Nat.le_refl _) rfl (fun _ _ _ _=>rfl)) (Ln.pubE (goneB rfl) rfl (Nat.le_refl _) rfl (fun _ _ _ _=>rfl))),x,hx,(fun h=>by cases h),fun _=>S.lo_row rfl rfl hr0 hc0 rfl (by have:=shut_col hB;cases hP:P r0 with|nil=>exact (this hP).elim|cons=>rfl) (by simp [hPt]) hx,rfl,rfl⟩⟩
 ·refine ⟨Nat.zero_le _,.inr ⟨True.intro,flat_one (flat_row fun _ _=>True.intro)⟩,?_⟩
  have hl2:p.length - 1 = k + 1:=by omega
  have C:=C
  have hkk:k + 2 ≤ 1000:=by
   have h1:=C.nod
   have h2:(p.map (·.1)).length ≤ (List.range (s.R + s.C)).length:=pig h1 fun y hy=>by
    obtain ⟨q,hq,rfl⟩:=List.mem_map.1 hy
    have:q.1 < s.R + s.C:=C.lt q hq
    exact List.mem_range.2 (by omega)
   rw [List.length_map,List.length_range] at h2
   have:=hs.r4
   omega
  (repeat' ((try conv=>whnf);first|(with_reducible first|refine wT ?_|refine wF ?_|(refine wI (fun hq=>?_) (fun hq=>?_) <;> try simp only [zA,zE,zD,zJ,zB,zI,wK,wL] at hq)|refine wA ?_|refine wB ?_|refine wC ?_|refine wD ?_|refine wE ?_)|((with_reducible refine wN ?_ ?_);focus exact needA)|(with_reducible refine wG ?_)|(with_reducible refine wP ?_)))
  all_goals (try conv=>whnf)
  refine FLoop.of (ACalls.mono _) (X:=Nat) (fun i=>[(1,aInts z e m),(2,AI r0),(3,AI c0),(4,.bool false),(5,.ptr 0 0),(11,.own 1 2),(12,AI 2),(13,.own 4 (k + 2)),(14,AI i)]) (fun i=>[.box 3 (cSh f s),.rwg 2 1 (fun k _=>match k with|0=>.own 2 s.C|_=>.own 3 s.C),rowF s.C (doneF s.R p (k + 1) x i 0),rowF s.C (doneF s.R p (k + 1) x i 1),rowW p (k + 1)]) (fun i=>i ≤ k + 1) (fun i=>k + 1 - i) 0 ⟨Nat.zero_le _,[0,1,2,3,4],(wO rfl rfl rfl (wV rfl LnB.A (wV rfl (LnB.rwg2 (Ln.ownE rfl rfl) (Ln.ownE rfl rfl) (Nat.le_refl _)) (wV rfl (LnB.offR fun j=>doneF_zero _ _ _ _ _ _) (wV rfl (LnB.offR fun j=>doneF_zero _ _ _ _ _ _) (wV rfl LnB.A wX)))))),allA⟩ ?_
  intro i hi
  by_cases hlt:i < k + 1
  ·have hadj:=C.adj (j:=k - i) (by omega)
   have e1:((i:Int) + 1).toNat = i + 1:=by omega
   obtain ⟨a,ha⟩:∃ a,atW p (k + 1 - i) = a:=⟨_,rfl⟩
   obtain ⟨b,hb⟩:∃ b,atW p (k + 1 - (i + 1)) = b:=⟨_,rfl⟩
   have ha2:atW p (k + 1 - 1 - i + 1) = a:=by rw [← ha];congr 1;omega
   have hb2:atW p (k + 1 - 1 - i) = b:=by rw [← hb];congr 1;omega
   rw [show k - i + 1 = k + 1 - 1 - i + 1 by omega,show k - i = k + 1 - 1 - i by omega,ha2,hb2] at hadj
   have haN:a < s.R + s.C:=by rw [← ha];exact atW_lt C (by omega)
   have hbN:b < s.R + s.C:=by rw [← hb];exact atW_lt C (by omega)
   have hal:=(al_d (adj_d hadj).1).1
   rw [← e1] at hb
   rcases hal with ⟨x1,x2⟩|⟨x1,x2⟩
   ·have x1:a < s.R:=x1
    have x2:s.R ≤ b:=x2
    have hstp:=fun r=>done_rc (n:=k + 1) x ha2 hb2 x1 x2 r
    have h0:a = 0 ∨ a = 1:=by omega
    rcases h0 with h0|h0
    ·have hbd:=doneF_bd (R:=s.R) (p:=p) (n:=k + 1) (i:=i) (hx40 0 (((atW p (k + 1 - ((i:Int) + 1).toNat):Nat):Int) - 2).toNat (by omega) (by omega))
     (repeat' ((try conv=>whnf);first|(with_reducible refine FIdx.eqN 0 (by omega) (by omega) ?_)|(with_reducible first|refine wT ?_|refine wF ?_|(refine wI (fun hq=>?_) (fun hq=>?_) <;> try simp only [zA,zE,zD,zJ,zB,zI,wK,wL] at hq)|refine wA ?_|refine wB ?_|refine wC ?_|refine wD ?_|refine wE ?_)|((with_reducible refine wN ?_ ?_);focus exact needA)|(with_reducible refine wG ?_)|(with_reducible refine wP ?_)))
     all_goals (try conv=>whnf)
     exact ⟨⟨i + 1,hlt,by show k + 1 - (i + 1) < k + 1 - i;omega,[0,1,2,3,4],(wO rfl rfl rfl (wV rfl LnB.A (wV rfl (LnB.rwg2 (Ln.ownE rfl rfl) (Ln.ownE rfl rfl) (Nat.le_refl _)) (wV rfl (LnB.hitR (hitA (d:=1) (hstp 0) h0.symm (by omega))) (wV rfl (LnB.offR (off1 (hstp 1) (by omega))) (wV rfl LnB.A wX)))))),allA⟩⟩
    ·have hbd:=doneF_bd (R:=s.R) (p:=p) (n:=k + 1) (i:=i) (hx40 1 (((atW p (k + 1 - ((i:Int) + 1).toNat):Nat):Int) - 2).toNat (by omega) (by omega))
     (repeat' ((try conv=>whnf);first|(with_reducible refine FIdx.eqN 1 (by omega) (by omega) ?_)|(with_reducible first|refine wT ?_|refine wF ?_|(refine wI (fun hq=>?_) (fun hq=>?_) <;> try simp only [zA,zE,zD,zJ,zB,zI,wK,wL] at hq)|refine wA ?_|refine wB ?_|refine wC ?_|refine wD ?_|refine wE ?_)|((with_reducible refine wN ?_ ?_);focus exact needA)|(with_reducible refine wG ?_)|(with_reducible refine wP ?_)))
     all_goals (try conv=>whnf)
     exact ⟨⟨i + 1,hlt,by show k + 1 - (i + 1) < k + 1 - i;omega,[0,1,2,3,4],(wO rfl rfl rfl (wV rfl LnB.A (wV rfl (LnB.rwg2 (Ln.ownE rfl rfl) (Ln.ownE rfl rfl) (Nat.le_refl _)) (wV rfl (LnB.offR (off1 (hstp 0) (by omega))) (wV rfl (LnB.hitR (hitA (d:=1) (hstp 1) h0.symm (by omega))) (wV rfl LnB.A wX)))))),allA⟩⟩
   ·have x1:s.R ≤ a:=x1
    have x2:b < s.R:=x2
    have hstp:=fun r=>done_cr (n:=k + 1) x ha2 hb2 x1 x2 r
    have h0:b = 0 ∨ b = 1:=by omega
    rcases h0 with h0|h0
    ·have hbd:=doneF_bd (R:=s.R) (p:=p) (n:=k + 1) (i:=i) (hx40 0 (((atW p (k + 1 - i):Nat):Int) - 2).toNat (by omega) (by omega))
     (repeat' ((try conv=>whnf);first|(with_reducible refine FIdx.eqN 0 (by omega) (by omega) ?_)|(with_reducible first|refine wT ?_|refine wF ?_|(refine wI (fun hq=>?_) (fun hq=>?_) <;> try simp only [zA,zE,zD,zJ,zB,zI,wK,wL] at hq)|refine wA ?_|refine wB ?_|refine wC ?_|refine wD ?_|refine wE ?_)|((with_reducible refine wN ?_ ?_);focus exact needA)|(with_reducible refine wG ?_)|(with_reducible refine wP ?_)))
     all_goals (try conv=>whnf)
     exact ⟨⟨i + 1,hlt,by show k + 1 - (i + 1) < k + 1 - i;omega,[0,1,2,3,4],(wO rfl rfl rfl (wV rfl LnB.A (wV rfl (LnB.rwg2 (Ln.ownE rfl rfl) (Ln.ownE rfl rfl) (Nat.le_refl _)) (wV rfl (LnB.hitR (hitA (d:=(-1)) (hstp 0) h0.symm (by omega))) (wV rfl (LnB.offR (off1 (hstp 1) (by omega))) (wV rfl LnB.A wX)))))),allA⟩⟩
    ·have hbd:=doneF_bd (R:=s.R) (p:=p) (n:=k + 1) (i:=i) (hx40 1 (((atW p (k + 1 - i):Nat):Int) - 2).toNat (by omega) (by omega))
     (repeat' ((try conv=>whnf);first|(with_reducible refine FIdx.eqN 1 (by omega) (by omega) ?_)|(with_reducible first|refine wT ?_|refine wF ?_|(refine wI (fun hq=>?_) (fun hq=>?_) <;> try simp only [zA,zE,zD,zJ,zB,zI,wK,wL] at hq)|refine wA ?_|refine wB ?_|refine wC ?_|refine wD ?_|refine wE ?_)|((with_reducible refine wN ?_ ?_);focus exact needA)|(with_reducible refine wG ?_)|(with_reducible refine wP ?_)))
     all_goals (try conv=>whnf)
     exact ⟨⟨i + 1,hlt,by show k + 1 - (i + 1) < k + 1 - i;omega,[0,1,2,3,4],(wO rfl rfl rfl (wV rfl LnB.A (wV rfl (LnB.rwg2 (Ln.ownE rfl rfl) (Ln.ownE rfl rfl) (Nat.le_refl _)) (wV rfl (LnB.offR (off1 (hstp 0) (by omega))) (wV rfl (LnB.hitR (hitA (d:=(-1)) (hstp 1) h0.symm (by omega))) (wV rfl LnB.A wX)))))),allA⟩⟩
  ·have hik:k + 1 = i:=by omega
   subst hik
   have hb0:=doneF_bd (R:=s.R) (p:=p) (n:=k + 1) (i:=k + 1) (hx40 r0 c0 hr0 hc0)
   have hAg:=hx.shift (g:=1) (C.way rfl rfl (down:=true) (t:=s.R + c0) rfl rfl hr0 hto) hr0 hc0 ho (fun _ r c hm'=>by have h1:=C.cap_col rfl hm';have h2:=C.pos;show (1:Int) ≤ x r c;have h3:(p.head C.ne).2 ≤ x r c:=h1;omega) (fun h=>absurd h (by decide)) (by show 0 ≤ x r0 c0 + _;simp;have:=hx.nn r0 c0 hr0 hc0;omega)
   have hat:=shift_at (C.way rfl rfl (down:=true) (t:=s.R + c0) rfl rfl hr0 hto) 1
   have hLe:=lastF_eq (R:=s.R) (p:=p) (x:=x) (r0:=r0) (c0:=c0) (down:=true) hl2
   rw [show (fun r c=>x r c + wayD true (nds (gRef s m r0 c0 x).R p) (gRef s m r0 c0 x).r0 (gRef s m r0 c0 x).c0 1 r c) = lastF s.R p (k + 1) x r0 c0 (if true = true then -1 else 1) from hLe.symm] at hAg
   have hL0:lastF s.R p (k + 1) x r0 c0 (-1) r0 c0 = x r0 c0 + -1:=by
    have:=congrFun (congrFun hLe r0) c0
    rw [show lastF s.R p (k + 1) x r0 c0 (-1) = lastF s.R p (k + 1) x r0 c0 (if true = true then -1 else 1) from rfl,this]
    show x r0 c0 + wayD true (nds s.R p) r0 c0 1 r0 c0 = _
    have hat2:wayD true (nds s.R p) r0 c0 1 r0 c0 = 1 * (if true = true then -1 else 1):=hat
    rw [hat2];rfl
   have hle40:=hAg.le hs hr0 hc0
   rw [show lastF s.R p (k + 1) x r0 c0 (if true = true then -1 else 1) r0 c0 = x r0 c0 + -1 from hL0] at hle40
   have hlf:∀ r j,lastF s.R p (k + 1) x r0 c0 (-1) r j = if r = r0 ∧ j = c0 then doneF s.R p (k + 1) x (k + 1) r j + -1 else doneF s.R p (k + 1) x (k + 1) r j:=fun r j=>rfl
   have h0:r0 = 0 ∨ r0 = 1:=by omega
   rcases h0 with rfl|rfl
   ·(repeat' ((try conv=>whnf);first|(with_reducible first|refine wT ?_|refine wF ?_|(refine wI (fun hq=>?_) (fun hq=>?_) <;> try simp only [zA,zE,zD,zJ,zB,zI,wK,wL] at hq)|refine wA ?_|refine wB ?_|refine wC ?_|refine wD ?_|refine wE ?_)|((with_reducible refine wN ?_ ?_);focus exact needA)|(with_reducible refine wG ?_)|(with_reducible refine wP ?_)))
    all_goals (try conv=>whnf)
    exact ⟨⟨lastF s.R p (k + 1) x 0 c0 (-1),hAg,by show (_:Int).toNat < (_:Int).toNat;rw [hL0];have:=hx.nn 0 c0 hr0 hc0;omega,[0,1,2,3],(wO rfl rfl rfl (wV rfl LnB.A (wV rfl (LnB.rwg2 (Ln.ownE rfl rfl) (Ln.ownE rfl rfl) (Nat.le_refl _)) (wV rfl (LnB.hitR (hitA (d:=-1) (hlf 0) rfl rfl)) (wV rfl (LnB.offR (off1 (hlf 1) (by decide))) wX))))),allA⟩⟩
   ·(repeat' ((try conv=>whnf);first|(with_reducible first|refine wT ?_|refine wF ?_|(refine wI (fun hq=>?_) (fun hq=>?_) <;> try simp only [zA,zE,zD,zJ,zB,zI,wK,wL] at hq)|refine wA ?_|refine wB ?_|refine wC ?_|refine wD ?_|refine wE ?_)|((with_reducible refine wN ?_ ?_);focus exact needA)|(with_reducible refine wG ?_)|(with_reducible refine wP ?_)))
    all_goals (try conv=>whnf)
    exact ⟨⟨lastF s.R p (k + 1) x 1 c0 (-1),hAg,by show (_:Int).toNat < (_:Int).toNat;rw [hL0];have:=hx.nn 1 c0 hr0 hc0;omega,[0,1,2,3],(wO rfl rfl rfl (wV rfl LnB.A (wV rfl (LnB.rwg2 (Ln.ownE rfl rfl) (Ln.ownE rfl rfl) (Nat.le_refl _)) (wV rfl (LnB.offR (off1 (hlf 0) (by decide))) (wV rfl (LnB.hitR (hitA (d:=-1) (hlf 1) rfl rfl)) wX))))),allA⟩⟩
end Go.Proofs.Ytlffjnmbpoemnaa
