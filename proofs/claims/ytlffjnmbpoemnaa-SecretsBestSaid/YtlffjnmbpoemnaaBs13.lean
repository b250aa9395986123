/- Secrets: the program's search for a way, 3 rows, down. / Secrets: the program's push, 3 rows, down. / Secrets: span, Range, safe, Safe of the program. -/
import Derived.Test.YtlffjnmbpoemnaaBs8
import Derived.Test.YtlffjnmbpoemnaaBs9
import Derived.Test.YtlffjnmbpoemnaaBs10
import Derived.Test.YtlffjnmbpoemnaaBs11
import Derived.Test.YtlffjnmbpoemnaaBs12
set_option linter.unusedSimpArgs false
set_option linter.unusedVariables false
namespace Go.Proofs.Ytlffjnmbpoemnaa
open Go.RowKit

set_option maxHeartbeats 16000000
set_option maxRecDepth 100000
theorem way3D (f:ShF) (s:Sheet) (hs:SheetOk s) (z em:Bool) (m:List Int) (hm:MaskOk s m) (r0 c0:Nat) (hr0:r0 < s.R) (hc0:c0 < s.C) (x:Nat → Nat → Int) (hx:∀ r c,r < s.R → c < s.C → 0 ≤ x r c) (hR:s.R = 3):ACall Try.prog 75 [.ptr 0 0] [.box 5 (ofL [iSt f s z em m,.own 1 3,AI r0,AI c0,AI (-1)]),.rwg 3 1 (fun k _=>match k with|0=>.own 2 s.C|1=>.own 3 s.C|_=>.own 4 s.C),rowF s.C (x 0),rowF s.C (x 1),rowF s.C (x 2)] (fun v h=>WayP (gPr s m r0 c0 x false) r0 (s.R + c0) v ∧ h = [.box 5 (ofL [iSt f s z em m,.own 1 3,AI r0,AI c0,AI (-1)]),.rwg 3 1 (fun k _=>match k with|0=>.own 2 s.C|1=>.own 3 s.C|_=>.own 4 s.C),rowF s.C (x 0),rowF s.C (x 1),rowF s.C (x 2)]):=by
 have c4:=hs.c4
 have c1:=hs.c1
 have hml:=hm.len
 have cols:=colsP_ok f s (by omega) z em m
 have hmd:∀ r,r < s.R → 0 ≤ m.getD r 0:=fun r hr=>(hm.bd r hr).1
 obtain ⟨N,hN⟩:∃ N,s.R + s.C = N:=⟨_,rfl⟩
 (refine fcall_of mixed Try.func75 rfl (by decide) (hs:={ alt:=[(1,⟨[0,1,2,3,4,6,7,8,9],(.alt 5 [] (.alt 10 [12] (.alt 11 [13] .leaf .leaf) .leaf) (.alt 10 [] (.alt 5 [12] (.alt 11 [13] .leaf .leaf) (.alt 11 [] (.alt 5 [12,13] .leaf .leaf) .leaf)) .leaf)),[(5,[9]),(10,[3]),(11,[3])]⟩)],pub:=[7] }) ?k (ac:=?ac) ?c (rs:=?rs) ?r ?l ?H;(case k=>kernel_rfl);(case c=>(conv=>(lhs;cbv)));(case r=>(conv=>(lhs;cbv)));(case l=>exact Nat.le_of_ble_eq_true rfl))
 apply cutG
 ·intro rest
  (repeat' ((try conv=>whnf);first|(with_reducible first|refine wT ?_|refine wF ?_|(refine wI (fun hq=>?_) (fun hq=>?_) <;> try simp only [zA,zE,zD,zJ,zB,zI,wK,wL] at hq)|refine wA ?_|refine wB ?_|refine wC ?_|refine wD ?_|refine wE ?_)|((with_reducible refine wN ?_ ?_);focus exact needA)|(with_reducible refine wG ?_)|(refine FCall.pure (cols) ⟨Ln.sameB _ rfl,True.intro⟩ rfl ?_)|(refine FAlt.mk ?_ ?_)|(with_reducible refine wP ?_)))
  all_goals (try conv=>whnf)
  all_goals
   first
   | (exact FLoop.of3M (ACalls.mono _) (fun (e:Nat) (P:Pth) (L:List Nat)=>[(0,.ptr 0 0),(3,.own 5 3),(4,.own 6 s.C),(5,qX 7 (.ip 4 (ofL [.bool true,AI r0,.nilp,AI 1099511627776]) 0) e L)]) (fun e P L=>(.box 5 (ofL [iSt f s z em m,.own 1 3,AI r0,AI c0,AI (-1)]) :: .rwg 3 1 (fun k _=>match k with|0=>.own 2 s.C|1=>.own 3 s.C|_=>.own 4 s.C) :: rowF s.C (x 0) :: rowF s.C (x 1) :: rowF s.C (x 2) :: rowB 3 (fun k=>vis P k) :: rowB s.C (fun k=>vis P (s.R + k)) :: qR s.R P e L)) (fun e P L=>Bfs (gPr s m r0 c0 x false) r0 P (L.drop (e - 1)) ∧ L.length + unv P N ≤ N ∧ (e = 0 → L = [] ∨ (L = [r0] ∧ P r0 = [(r0,1099511627776)])) ∧ e - 1 ≤ L.length ∧ (∀ i,i ∈ L → P i ≠ []) ∧ P (s.R + c0) = []) (fun e P L=>unv P N + (L.length - (e - 1))) 0 (Pth.set (fun _=>[]) r0 [(r0,1099511627776)]) [r0] ⟨⟨Bfs.begin (by show r0 < s.R + s.C;omega) (by decide) (by decide),root_unv (by omega),fun _=>.inr ⟨rfl,Pth.set_at _ _ _⟩,Nat.zero_le _,root_vis,by rw [Pth.set_ne (by omega)]⟩,[0,1,2,3,4,5,6],(wO rfl rfl rfl (wV rfl LnB.A (wV rfl (LnB.rwg3 (Ln.ownE rfl rfl) (Ln.ownE rfl rfl) (Ln.ownE rfl rfl) (Nat.le_refl _)) (wV rfl LnB.A (wV rfl LnB.A (wV rfl LnB.A (wV rfl (LnB.rowE (by simp) fun k hk o ho=>(by show AV.bool (vis (Pth.set (fun _=>[]) r0 [(r0,1099511627776)]) k) = updRm _ _ _ k o;rw [vis_set];simp only [updRm];by_cases ek:k = r0;rw [if_pos ek,if_pos ek];obtain rfl:o = 0:=(by omega);rfl;rw [if_neg ek,if_neg ek];obtain rfl:o = 0:=(by omega);rfl)) (wV rfl (LnB.rowE (by simp) fun k hk o ho=>(by show AV.bool (vis (Pth.set (fun _=>[]) r0 [(r0,1099511627776)]) (s.R + k)) = _;rw [vis_set,if_neg (by omega)];obtain rfl:o = 0:=(by omega);rfl)) wX)))))))),⟨Ln.A,Ln.ownE rfl (by simp),Ln.ownE rfl (by simp),Ln.sl _ _ _ _ _ _ _ (fun _=>rfl) (fun k hk o ho=>by obtain rfl:k = 0:=(by omega);obtain rfl:o = 0:=(by omega);rfl),True.intro⟩⟩ rest.h)
   | (exact FLoop.of3M (ACalls.mono _) (fun (e:Nat) (P:Pth) (L:List Nat)=>[(0,.ptr 0 0),(3,.own 5 3),(4,.own 6 s.C),(5,qX 7 (.ip 4 (ofL [.bool true,AI r0,.nilp,AI 1099511627776]) 0) e L)]) (fun e P L=>(.box 5 (ofL [iSt f s z em m,.own 1 3,AI r0,AI c0,AI (-1)]) :: .rwg 3 1 (fun k _=>match k with|0=>.own 2 s.C|1=>.own 3 s.C|_=>.own 4 s.C) :: rowF s.C (x 0) :: rowF s.C (x 1) :: rowF s.C (x 2) :: rowB 3 (fun k=>vis P k) :: rowB s.C (fun k=>vis P (s.R + k)) :: qR s.R P e L)) (fun e P L=>Bfs (gPr s m r0 c0 x false) r0 P (L.drop (e - 1)) ∧ L.length + unv P N ≤ N ∧ (e = 0 → L = [] ∨ (L = [r0] ∧ P r0 = [(r0,1099511627776)])) ∧ e - 1 ≤ L.length ∧ (∀ i,i ∈ L → P i ≠ []) ∧ P (s.R + c0) = []) (fun e P L=>unv P N + (L.length - (e - 1))) 0 (Pth.set (fun _=>[]) r0 [(r0,1099511627776)]) [r0] ⟨⟨Bfs.begin (by show r0 < s.R + s.C;omega) (by decide) (by decide),root_unv (by omega),fun _=>.inr ⟨rfl,Pth.set_at _ _ _⟩,Nat.zero_le _,root_vis,by rw [Pth.set_ne (by omega)]⟩,[0,1,2,3,4,6,5],(wO rfl rfl rfl (wV rfl LnB.A (wV rfl (LnB.rwg3 (Ln.ownE rfl rfl) (Ln.ownE rfl rfl) (Ln.ownE rfl rfl) (Nat.le_refl _)) (wV rfl LnB.A (wV rfl LnB.A (wV rfl LnB.A (wV rfl (LnB.rowE (by simp) fun k hk o ho=>(by show AV.bool (vis (Pth.set (fun _=>[]) r0 [(r0,1099511627776)]) k) = updRm _ _ _ k o;rw [vis_set];simp only [updRm];by_cases ek:k = r0;rw [if_pos ek,if_pos ek];obtain rfl:o = 0:=(by omega);rfl;rw [if_neg ek,if_neg ek];obtain rfl:o = 0:=(by omega);rfl)) (wV rfl (LnB.rowE (by simp) fun k hk o ho=>(by show AV.bool (vis (Pth.set (fun _=>[]) r0 [(r0,1099511627776)]) (s.R + k)) = _;rw [vis_set,if_neg (by omega)];obtain rfl:o = 0:=(by omega);rfl)) wX)))))))),⟨Ln.A,Ln.ownE rfl (by simp),Ln.ownE rfl (by simp),Ln.sl _ _ _ _ _ _ _ (fun _=>rfl) (fun k hk o ho=>by obtain rfl:k = 0:=(by omega);obtain rfl:o = 0:=(by omega);rfl),True.intro⟩⟩ rest.h)
   | fail
 rintro e P L M ⟨hB,hLu,h0,hle,hLv,hPt⟩ hμ
 have hcu:=unv_le P N
 rcases hq:L.drop (e - 1) with _|⟨h,l⟩
 ·rw [hq] at hB
  have hLe:L.length - (e - 1) = 0:=by rw [← List.length_drop,hq];rfl
  rcases e with _|k
  ·obtain rfl:L = []:=by rcases h0 rfl with h|h;exact h;rw [h.1] at hLe;cases hLe
   (repeat' ((try conv=>whnf);first|(with_reducible first|refine wT ?_|refine wF ?_|(refine wI (fun hq=>?_) (fun hq=>?_) <;> try simp only [zA,zE,zD,zJ,zB,zI,wK,wL] at hq)|refine wA ?_|refine wB ?_|refine wC ?_|refine wD ?_|refine wE ?_)|((with_reducible refine wN ?_ ?_);focus exact needA)|(with_reducible refine wG ?_)|(with_reducible refine wP ?_)))
   all_goals (try conv=>whnf)
   exact ⟨⟨.nilp,[.box 5 (ofL [iSt f s z em m,.own 1 3,AI r0,AI c0,AI (-1)]),.rwg 3 1 (fun k _=>match k with|0=>.own 2 s.C|1=>.own 3 s.C|_=>.own 4 s.C),rowF s.C (x 0),rowF s.C (x 1),rowF s.C (x 2)],[0,1,2,3,4],(wO rfl rfl rfl (wV rfl LnB.A (wV rfl (LnB.rwg3 (Ln.ownE rfl rfl) (Ln.ownE rfl rfl) (Ln.ownE rfl rfl) (Nat.le_refl _)) (wV rfl LnB.A (wV rfl LnB.A (wV rfl LnB.A wX)))))),Ln.A,.inl ⟨rfl,P,hB,hPt⟩,rfl⟩⟩
  ·have hk:L.length - k = 0:=hLe
   (repeat' ((try conv=>whnf);first|(with_reducible first|refine wT ?_|refine wF ?_|(refine wI (fun hq=>?_) (fun hq=>?_) <;> try simp only [zA,zE,zD,zJ,zB,zI,wK,wL] at hq)|refine wA ?_|refine wB ?_|refine wC ?_|refine wD ?_|refine wE ?_)|((with_reducible refine wN ?_ ?_);focus exact needA)|(with_reducible refine wG ?_)|(with_reducible refine wP ?_)))
   all_goals (try conv=>whnf)
   exact ⟨⟨.nilp,[.box 5 (ofL [iSt f s z em m,.own 1 3,AI r0,AI c0,AI (-1)]),.rwg 3 1 (fun k _=>match k with|0=>.own 2 s.C|1=>.own 3 s.C|_=>.own 4 s.C),rowF s.C (x 0),rowF s.C (x 1),rowF s.C (x 2)],[0,1,2,3,4],(wO rfl rfl rfl (wV rfl LnB.A (wV rfl (LnB.rwg3 (Ln.ownE rfl rfl) (Ln.ownE rfl rfl) (Ln.ownE rfl rfl) (Nat.le_refl _)) (wV rfl LnB.A (wV rfl LnB.A (wV rfl LnB.A wX)))))),Ln.A,.inl ⟨rfl,P,hB,hPt⟩,rfl⟩⟩
 ·rw [hq] at hB
  obtain ⟨q1,q2,q3,q4⟩:=drop_c hq
  obtain ⟨M0,hM0⟩:∃ M0,unv P N + l.length = M0:=⟨_,rfl⟩
  have hMn:M0 < M:=by have hμ2:unv P N + (L.length - (e - 1)) = M:=hμ;omega
  obtain ⟨hhN,-,w,u,hh0,hw1,hw2,-⟩:=hB.tr h (hB.qs h List.mem_cons_self)
  have hhN':h < s.R + s.C:=hhN
  by_cases hhR:h < s.R
  ·have hatv:aCh s.R ((h,w) :: u) = .ip 4 (ofL [.bool true,AI h,aCh s.R u,AI w]) 0:=aCh_row hhR w u
   apply cutG
   ·intro rest
    rcases e with _|k
    ·have hL1:L = [r0] ∧ P r0 = [(r0,1099511627776)]:=by
      rcases h0 rfl with h|h
      ·rw [h] at hq;cases hq
      ·exact h
     obtain ⟨hL1,hP1⟩:=hL1
     subst hL1
     have hhf:h = r0:=q2.symm
     have hl0:l = []:=q3.symm
     subst hl0
     have hwu:w = 1099511627776 ∧ u = []:=by rw [hhf,hP1] at hh0;injection hh0 with a b;injection a with _ a;exact ⟨a.symm,b.symm⟩
     have hat0:(.ip 4 (ofL [.bool true,AI r0,.nilp,AI 1099511627776]) 0) = (.ip 4 (ofL [.bool true,AI h,aCh s.R u,AI w]) 0:AV):=by rw [hwu.1,hwu.2,hhf];rfl
     (repeat' ((try conv=>whnf);first|(with_reducible first|refine wT ?_|refine wF ?_|(refine wI (fun hq=>?_) (fun hq=>?_) <;> try simp only [zA,zE,zD,zJ,zB,zI,wK,wL] at hq)|refine wA ?_|refine wB ?_|refine wC ?_|refine wD ?_|refine wE ?_)|((with_reducible refine wN ?_ ?_);focus exact needA)|(with_reducible refine wG ?_)|(with_reducible refine wP ?_)))
     all_goals (try conv=>whnf)
     refine FWk.of [(0,.ptr 0 0),(3,.own 5 3),(4,.own 6 s.C),(5,qY 7 0 []),(6,.ip 4 (ofL [.bool true,AI h,aCh s.R u,AI w]) 0)] (.box 5 (ofL [iSt f s z em m,.own 1 3,AI r0,AI c0,AI (-1)]) :: .rwg 3 1 (fun k _=>match k with|0=>.own 2 s.C|1=>.own 3 s.C|_=>.own 4 s.C) :: rowF s.C (x 0) :: rowF s.C (x 1) :: rowF s.C (x 2) :: rowB 3 (fun k=>vis P k) :: rowB s.C (fun k=>vis P (s.R + k)) :: qR s.R P 0 []) [0,1,2,3,4,5,6] (wO rfl rfl rfl (wV rfl LnB.A (wV rfl (LnB.rwg3 (Ln.ownE rfl rfl) (Ln.ownE rfl rfl) (Ln.ownE rfl rfl) (Nat.le_refl _)) (wV rfl LnB.A (wV rfl LnB.A (wV rfl LnB.A (wV rfl (LnB.visE fun k hk=>rfl) (wV rfl (LnB.visE fun k hk=>rfl) wX)))))))) ⟨Ln.A,Ln.A,Ln.A,Ln.slz _ _ _ _ _ _ _ (by decide),Ln.le _ _ True.intro (LeV.of hat0.symm),True.intro⟩ ?_
     (repeat' ((try conv=>whnf);first|(with_reducible first|refine wT ?_|refine wF ?_|(refine wI (fun hq=>?_) (fun hq=>?_) <;> try simp only [zA,zE,zD,zJ,zB,zI,wK,wL] at hq)|refine wA ?_|refine wB ?_|refine wC ?_|refine wD ?_|refine wE ?_)|((with_reducible refine wN ?_ ?_);focus exact needA)|(with_reducible refine wG ?_)|(refine FCall.pure (cols) ⟨Ln.sameB _ rfl,True.intro⟩ rfl ?_)|(with_reducible refine wP ?_)))
     all_goals (try conv=>whnf)
     exact FLoop.of4 (ACalls.mono _) (fun (j e:Nat) (P:Pth) (L:List Nat)=>[(0,.ptr 0 0),(3,.own 5 3),(4,.own 6 s.C),(5,qY 7 e L),(6,.ip 4 (ofL [.bool true,AI h,aCh s.R u,AI w]) 0),(50,AI s.C),(51,AI j)]) (fun j e P L=>(.box 5 (ofL [iSt f s z em m,.own 1 3,AI r0,AI c0,AI (-1)]) :: .rwg 3 1 (fun k _=>match k with|0=>.own 2 s.C|1=>.own 3 s.C|_=>.own 4 s.C) :: rowF s.C (x 0) :: rowF s.C (x 1) :: rowF s.C (x 2) :: rowB 3 (fun k=>vis P k) :: rowB s.C (fun k=>vis P (s.R + k)) :: qR s.R P e L)) (fun j e P L=>j ≤ s.C ∧ (∀ i,i < j → (gPr s m r0 c0 x false).adj h (s.R + i) = true → P (s.R + i) ≠ []) ∧ Bfs (gPr s m r0 c0 x false) r0 P (h :: L.drop (e - 1)) ∧ L.length + unv P N ≤ N ∧ (e = 0 → L = []) ∧ unv P N + (L.length - (e - 1)) = M0 ∧ e - 1 ≤ L.length ∧ (∀ i,i ∈ L → P i ≠ []) ∧ P (s.R + c0) = [] ∧ P h = (h,w) :: u) (fun j e P L=>s.C - j) 0 0 P [] ⟨⟨Nat.zero_le _,fun i hi=>absurd hi (Nat.not_lt_zero i),hB,by show 0 + _ ≤ N;have hLu2:1 + unv P N ≤ N:=hLu;omega,fun _=>rfl,hM0,Nat.zero_le _,(fun i hi=>by cases hi),hPt,hh0⟩,[0,1,2,3,4,5,6],(wO rfl rfl rfl (wV rfl LnB.A (wV rfl (LnB.rwg3 (Ln.ownE rfl rfl) (Ln.ownE rfl rfl) (Ln.ownE rfl rfl) (Nat.le_refl _)) (wV rfl LnB.A (wV rfl LnB.A (wV rfl LnB.A (wV rfl (LnB.visE fun k hk=>rfl) (wV rfl (LnB.visE fun k hk=>rfl) wX)))))))),⟨Ln.A,Ln.A,Ln.A,Ln.slz _ _ _ _ _ _ _ (by decide),Ln.A,Ln.A,Ln.A,True.intro⟩⟩ rest.h
    ·have q1:k < L.length:=q1
     have q3:L.drop (k + 1) = l:=q3
     have q2:L.getD k 0 = h:=q2
     have q4:L.length = k + 1 + l.length:=q4
     have hatk:nodeV s.R (P (L.getD k 0)) = (.ip 4 (ofL [.bool true,AI h,aCh s.R u,AI w]) 0:AV):=by rw [q2,hh0];exact hatv
     (repeat' ((try conv=>whnf);first|(with_reducible first|refine wT ?_|refine wF ?_|(refine wI (fun hq=>?_) (fun hq=>?_) <;> try simp only [zA,zE,zD,zJ,zB,zI,wK,wL] at hq)|refine wA ?_|refine wB ?_|refine wC ?_|refine wD ?_|refine wE ?_)|((with_reducible refine wN ?_ ?_);focus exact needA)|(with_reducible refine wG ?_)|(with_reducible refine wP ?_)))
     all_goals (try conv=>whnf)
     refine FWk.of [(0,.ptr 0 0),(3,.own 5 3),(4,.own 6 s.C),(5,qY 7 (k + 2) L),(6,.ip 4 (ofL [.bool true,AI h,aCh s.R u,AI w]) 0)] (.box 5 (ofL [iSt f s z em m,.own 1 3,AI r0,AI c0,AI (-1)]) :: .rwg 3 1 (fun k _=>match k with|0=>.own 2 s.C|1=>.own 3 s.C|_=>.own 4 s.C) :: rowF s.C (x 0) :: rowF s.C (x 1) :: rowF s.C (x 2) :: rowB 3 (fun k=>vis P k) :: rowB s.C (fun k=>vis P (s.R + k)) :: qR s.R P (k + 2) L) [0,1,2,3,4,5,6,7] (wO rfl rfl rfl (wV rfl LnB.A (wV rfl (LnB.rwg3 (Ln.ownE rfl rfl) (Ln.ownE rfl rfl) (Ln.ownE rfl rfl) (Nat.le_refl _)) (wV rfl LnB.A (wV rfl LnB.A (wV rfl LnB.A (wV rfl (LnB.visE fun k hk=>rfl) (wV rfl (LnB.visE fun k hk=>rfl) (wV rfl (LnB.rowE (Nat.le_refl _) fun _ _ _ _=>rfl) wX))))))))) ⟨Ln.A,Ln.A,Ln.A,Ln.oslE rfl (by omega),Ln.le _ _ True.intro (LeV.of hatk.symm),True.intro⟩ ?_
     (repeat' ((try conv=>whnf);first|(with_reducible first|refine wT ?_|refine wF ?_|(refine wI (fun hq=>?_) (fun hq=>?_) <;> try simp only [zA,zE,zD,zJ,zB,zI,wK,wL] at hq)|refine wA ?_|refine wB ?_|refine wC ?_|refine wD ?_|refine wE ?_)|((with_reducible refine wN ?_ ?_);focus exact needA)|(with_reducible refine wG ?_)|(refine FCall.pure (cols) ⟨Ln.sameB _ rfl,True.intro⟩ rfl ?_)|(with_reducible refine wP ?_)))
     all_goals (try conv=>whnf)
     exact FLoop.of4 (ACalls.mono _) (fun (j e:Nat) (P:Pth) (L:List Nat)=>[(0,.ptr 0 0),(3,.own 5 3),(4,.own 6 s.C),(5,qY 7 e L),(6,.ip 4 (ofL [.bool true,AI h,aCh s.R u,AI w]) 0),(50,AI s.C),(51,AI j)]) (fun j e P L=>(.box 5 (ofL [iSt f s z em m,.own 1 3,AI r0,AI c0,AI (-1)]) :: .rwg 3 1 (fun k _=>match k with|0=>.own 2 s.C|1=>.own 3 s.C|_=>.own 4 s.C) :: rowF s.C (x 0) :: rowF s.C (x 1) :: rowF s.C (x 2) :: rowB 3 (fun k=>vis P k) :: rowB s.C (fun k=>vis P (s.R + k)) :: qR s.R P e L)) (fun j e P L=>j ≤ s.C ∧ (∀ i,i < j → (gPr s m r0 c0 x false).adj h (s.R + i) = true → P (s.R + i) ≠ []) ∧ Bfs (gPr s m r0 c0 x false) r0 P (h :: L.drop (e - 1)) ∧ L.length + unv P N ≤ N ∧ (e = 0 → L = []) ∧ unv P N + (L.length - (e - 1)) = M0 ∧ e - 1 ≤ L.length ∧ (∀ i,i ∈ L → P i ≠ []) ∧ P (s.R + c0) = [] ∧ P h = (h,w) :: u) (fun j e P L=>s.C - j) 0 (k + 2) P L ⟨⟨Nat.zero_le _,fun i hi=>absurd hi (Nat.not_lt_zero i),by show Bfs _ _ _ (h :: L.drop (k + 1));rw [q3];exact hB,hLu,(fun h=>by cases h),by show unv P N + (L.length - (k + 1)) = M0;omega,by show k + 1 ≤ _;omega,hLv,hPt,hh0⟩,[0,1,2,3,4,5,6,7],(wO rfl rfl rfl (wV rfl LnB.A (wV rfl (LnB.rwg3 (Ln.ownE rfl rfl) (Ln.ownE rfl rfl) (Ln.ownE rfl rfl) (Nat.le_refl _)) (wV rfl LnB.A (wV rfl LnB.A (wV rfl LnB.A (wV rfl (LnB.visE fun k hk=>rfl) (wV rfl (LnB.visE fun k hk=>rfl) (wV rfl (LnB.rowE (Nat.le_refl _) fun _ _ _ _=>rfl) wX))))))))),⟨Ln.A,Ln.A,Ln.A,Ln.oslE rfl rfl,Ln.A,Ln.A,Ln.A,True.intro⟩⟩ rest.h
   ·clear hB hLu hle hM0 h0 hq q1 q2 q3 q4 hμ hcu hLv hPt hh0
    rintro j e P L ⟨hj,hno,hB,hLu,hL0,hM,hle,hLv,hPt,hPh⟩
    have hun:=unv_le P N
    by_cases hlt:j < s.C
    ·have cO:=outP_ok f s z em m h j (by omega) (hmd h hhR) (by omega)

     rcases e with _|k
     ·have hLe:L = []:=hL0 rfl
      subst hLe
      (repeat' ((try conv=>whnf);first|(with_reducible first|refine FCond.t rfl ?_|refine FCond.f rfl ?_)|((with_reducible refine FCond.uT (fun hq=>?_));rw [hq];(with_reducible refine FCond.t rfl ?_);clear hq)|((with_reducible refine FCond.uF (fun hq=>?_));rw [hq];(with_reducible refine FCond.f rfl ?_);clear hq)|((with_reducible refine wJ (fun hq=>?_) (fun hq=>?_)) <;> (rw [hq];(with_reducible first|refine FCond.t rfl ?_|refine FCond.f rfl ?_);(try simp only [zA,zE,zD,zJ,zB,zI,wK,wL] at hq)))|(with_reducible first|refine wA ?_|refine wB ?_|refine wC ?_|refine wD ?_|refine wE ?_)|((with_reducible refine wN ?_ ?_);focus exact needA)|(with_reducible refine wG ?_)|(refine FCall.pure (cO) ⟨Ln.sameB _ rfl,Ln.sameB _ rfl,Ln.sameB _ rfl,True.intro⟩ rfl ?_)|(with_reducible refine wP ?_)))
      all_goals (try conv=>whnf)
      all_goals
       first
       | (refine ⟨⟨j + 1,0,P,[],⟨hlt,no_nextC hno ?_,hB,hLu,hL0,hM,hle,hLv,hPt,hPh⟩,?_,[0,1,2,3,4,5,6],(wO rfl rfl rfl (wV rfl LnB.A (wV rfl (LnB.rwg3 (Ln.ownE rfl rfl) (Ln.ownE rfl rfl) (Ln.ownE rfl rfl) (Nat.le_refl _)) (wV rfl LnB.A (wV rfl LnB.A (wV rfl LnB.A (wV rfl (LnB.visE fun k hk=>rfl) (wV rfl (LnB.visE fun k hk=>rfl) wX)))))))),⟨Ln.A,Ln.A,Ln.A,Ln.slz _ _ _ _ _ _ _ (by decide),Ln.A,Ln.A,Ln.A,True.intro⟩⟩⟩;(focus ((intro ha hP);(have hv:vis P (s.R + j) = false:=vis_f.2 hP);(obtain ⟨a1,a2,a3⟩:=adj_pc hhR ha);(first|omega|(rw [a1] at hq;cases hq)|(simp_all;done)|(simp_all;omega)|fail)));(show s.C - (j + 1) < s.C - j);omega)
       | (refine ⟨⟨aCh s.R ((s.R + c0,w) :: (h,w) :: u),[.box 5 (ofL [iSt f s z em m,.own 1 3,AI r0,AI c0,AI (-1)]),.rwg 3 1 (fun k _=>match k with|0=>.own 2 s.C|1=>.own 3 s.C|_=>.own 4 s.C),rowF s.C (x 0),rowF s.C (x 1),rowF s.C (x 2)],[0,1,2,3,4],(wO rfl rfl rfl (wV rfl LnB.A (wV rfl (LnB.rwg3 (Ln.ownE rfl rfl) (Ln.ownE rfl rfl) (Ln.ownE rfl rfl) (Nat.le_refl _)) (wV rfl LnB.A (wV rfl LnB.A (wV rfl LnB.A wX)))))),?_,?_,rfl⟩⟩;(focus (rw [aCh_col,hatv];exact Ln.boxP (goneB rfl) rfl ⟨⟨⟨⟨True.intro,Ln.A⟩,Ln.A⟩,Ln.A⟩,Ln.A⟩ rfl));(obtain rfl:j = c0:=(by omega));(have hf:=fnd_cD (g:=(gPr s m r0 j x false)) (j:=j) (w:=w) hhR rfl (by assumption) (show ¬ (h = r0 ∧ j = j) by omega) hw2);(exact WayP.some hB.toTree hPh hPt (show s.R + j < s.R + s.C by omega) hf.1 (show (1:Int) ≤ w by omega) (show w ≤ w by omega) hf.2))
       | (
         have hvj:P (s.R + j) = []:=vis_f.1 (by assumption)
         have hf:=fnd_cD (g:=(gPr s m r0 c0 x false)) (j:=j) (w:=w) hhR rfl (by assumption) (show ¬ (h = r0 ∧ j = c0) by omega) hw2
         have hpush:=hB.push (v:=w) (by show s.R + j < s.R + s.C;omega) hvj hPh hf.1 (show (1:Int) ≤ w by omega) (show w ≤ w by omega) hf.2
         have hunp:=unv_push (q:=(s.R + j,w)) (l:=P h) hvj (show s.R + j < N by omega)
         have hnew:aCh s.R ((s.R + j,w) :: P h) = .ip 4 (ofL [.bool false,AI j,.ip 4 (ofL [.bool true,AI h,aCh s.R u,AI w]) 0,AI (w)]) 0:=by rw [hPh,aCh_col,hatv]
         have hjc:s.R + c0 ≠ s.R + j:=by omega
         have hjh:h ≠ s.R + j:=by omega
         first
          | exact ⟨⟨j + 1,1,P.set (s.R + j) ((s.R + j,w) :: P h),[s.R + j],⟨hlt,no_pushC hno hvj,hpush,by show 1 + _ ≤ N;have hLu2:0 + unv P N ≤ N:=hLu;omega,(fun h=>by cases h),by show _ + (1 - 0) = M0;have hM2:unv P N + 0 = M0:=hM;omega,Nat.zero_le _,drop_L (L:=[]) (k:=0) (fun i hi=>by cases hi) hvj,by rw [Pth.set_ne hjc];exact hPt,by rw [Pth.set_ne hjh];exact hPh⟩,by show s.C - (j + 1) < s.C - j;omega,[0,1,2,3,4,5,6,8],(wO rfl rfl rfl (wV rfl LnB.A (wV rfl (LnB.rwg3 (Ln.ownE rfl rfl) (Ln.ownE rfl rfl) (Ln.ownE rfl rfl) (Nat.le_refl _)) (wV rfl LnB.A (wV rfl LnB.A (wV rfl LnB.A (wV rfl (LnB.visE fun k hk=>by rw [vis_set,if_neg (by omega)]) (wV rfl (LnB.visS fun k hk=>by rw [vis_set];by_cases e:k = j;rw [if_pos (by omega),if_pos e];rw [if_neg (by omega),if_neg e]) (wV rfl (LnB.rowE (Nat.le_refl _) fun i hi o ho=>rowQ_dr (L:=[]) (k:=0) (fun i hi=>by cases hi) hvj hnew hi ho) wX))))))))),⟨Ln.A,Ln.A,Ln.A,Ln.osl0E rfl rfl,Ln.A,Ln.A,Ln.A,True.intro⟩⟩⟩
          | fail
        )
       | fail
     ·have hle':k ≤ L.length:=hle
      (repeat' ((try conv=>whnf);first|(with_reducible first|refine FCond.t rfl ?_|refine FCond.f rfl ?_)|((with_reducible refine FCond.uT (fun hq=>?_));rw [hq];(with_reducible refine FCond.t rfl ?_);clear hq)|((with_reducible refine FCond.uF (fun hq=>?_));rw [hq];(with_reducible refine FCond.f rfl ?_);clear hq)|((with_reducible refine wJ (fun hq=>?_) (fun hq=>?_)) <;> (rw [hq];(with_reducible first|refine FCond.t rfl ?_|refine FCond.f rfl ?_);(try simp only [zA,zE,zD,zJ,zB,zI,wK,wL] at hq)))|(with_reducible first|refine wA ?_|refine wB ?_|refine wC ?_|refine wD ?_|refine wE ?_)|((with_reducible refine wN ?_ ?_);focus exact needA)|(refine FCall.pure (cO) ⟨Ln.sameB _ rfl,Ln.sameB _ rfl,Ln.sameB _ rfl,True.intro⟩ rfl ?_)|(refine FApp.share (Need.mk (by omega) (Need.mk ?_ ?_)))|(with_reducible refine wP ?_)))
      all_goals (try conv=>whnf)
      all_goals
       first
       | (refine ⟨⟨j + 1,k + 1,P,L,⟨hlt,no_nextC hno ?_,hB,hLu,hL0,hM,hle,hLv,hPt,hPh⟩,?_,[0,1,2,3,4,5,6,7],(wO rfl rfl rfl (wV rfl LnB.A (wV rfl (LnB.rwg3 (Ln.ownE rfl rfl) (Ln.ownE rfl rfl) (Ln.ownE rfl rfl) (Nat.le_refl _)) (wV rfl LnB.A (wV rfl LnB.A (wV rfl LnB.A (wV rfl (LnB.visE fun k hk=>rfl) (wV rfl (LnB.visE fun k hk=>rfl) (wV rfl (LnB.rowE (Nat.le_refl _) fun _ _ _ _=>rfl) wX))))))))),⟨Ln.A,Ln.A,Ln.A,Ln.oslE rfl rfl,Ln.A,Ln.A,Ln.A,True.intro⟩⟩⟩;(focus ((intro ha hP);(have hv:vis P (s.R + j) = false:=vis_f.2 hP);(obtain ⟨a1,a2,a3⟩:=adj_pc hhR ha);(first|omega|(rw [a1] at hq;cases hq)|(simp_all;done)|(simp_all;omega)|fail)));(show s.C - (j + 1) < s.C - j);omega)
       | (refine ⟨⟨aCh s.R ((s.R + c0,w) :: (h,w) :: u),[.box 5 (ofL [iSt f s z em m,.own 1 3,AI r0,AI c0,AI (-1)]),.rwg 3 1 (fun k _=>match k with|0=>.own 2 s.C|1=>.own 3 s.C|_=>.own 4 s.C),rowF s.C (x 0),rowF s.C (x 1),rowF s.C (x 2)],[0,1,2,3,4],(wO rfl rfl rfl (wV rfl LnB.A (wV rfl (LnB.rwg3 (Ln.ownE rfl rfl) (Ln.ownE rfl rfl) (Ln.ownE rfl rfl) (Nat.le_refl _)) (wV rfl LnB.A (wV rfl LnB.A (wV rfl LnB.A wX)))))),?_,?_,rfl⟩⟩;(focus (rw [aCh_col,hatv];exact Ln.boxP (goneB rfl) rfl ⟨⟨⟨⟨True.intro,Ln.A⟩,Ln.A⟩,Ln.A⟩,Ln.A⟩ rfl));(obtain rfl:j = c0:=(by omega));(have hf:=fnd_cD (g:=(gPr s m r0 j x false)) (j:=j) (w:=w) hhR rfl (by assumption) (show ¬ (h = r0 ∧ j = j) by omega) hw2);(exact WayP.some hB.toTree hPh hPt (show s.R + j < s.R + s.C by omega) hf.1 (show (1:Int) ≤ w by omega) (show w ≤ w by omega) hf.2))
       | (
         have hvj:P (s.R + j) = []:=vis_f.1 (by assumption)
         have hf:=fnd_cD (g:=(gPr s m r0 c0 x false)) (j:=j) (w:=w) hhR rfl (by assumption) (show ¬ (h = r0 ∧ j = c0) by omega) hw2
         have hpush:=hB.push (v:=w) (by show s.R + j < s.R + s.C;omega) hvj hPh hf.1 (show (1:Int) ≤ w by omega) (show w ≤ w by omega) hf.2
         have hunp:=unv_push (q:=(s.R + j,w)) (l:=P h) hvj (show s.R + j < N by omega)
         have hnew:aCh s.R ((s.R + j,w) :: P h) = .ip 4 (ofL [.bool false,AI j,.ip 4 (ofL [.bool true,AI h,aCh s.R u,AI w]) 0,AI (w)]) 0:=by rw [hPh,aCh_col,hatv]
         have hjc:s.R + c0 ≠ s.R + j:=by omega
         have hjh:h ≠ s.R + j:=by omega
         first
          | exact ⟨⟨j + 1,k + 1,P.set (s.R + j) ((s.R + j,w) :: P h),L ++ [s.R + j],⟨hlt,no_pushC hno hvj,by show Bfs _ _ _ (h :: (L ++ [s.R + j]).drop k);rw [drop_sn (show k ≤ L.length from hle) rfl];exact hpush,by rw [len_sn];omega,(fun h=>by cases h),by rw [len_sn];have hM2:unv P N + (L.length - k) = M0:=hM;exact (show unv (P.set (s.R + j) ((s.R + j,w) :: P h)) N + (L.length + 1 - k) = M0 by omega),by rw [len_sn];show k ≤ _;omega,new_L hLv hvj,by rw [Pth.set_ne hjc];exact hPt,by rw [Pth.set_ne hjh];exact hPh⟩,by show s.C - (j + 1) < s.C - j;omega,[0,1,2,3,4,5,6,7],(wO rfl rfl rfl (wV rfl LnB.A (wV rfl (LnB.rwg3 (Ln.ownE rfl rfl) (Ln.ownE rfl rfl) (Ln.ownE rfl rfl) (Nat.le_refl _)) (wV rfl LnB.A (wV rfl LnB.A (wV rfl LnB.A (wV rfl (LnB.visE fun k hk=>by rw [vis_set,if_neg (by omega)]) (wV rfl (LnB.visS fun k hk=>by rw [vis_set];by_cases e:k = j;rw [if_pos (by omega),if_pos e];rw [if_neg (by omega),if_neg e]) (wV rfl (LnB.rowE (by rw [len_sn];omega) (fun i hi o ho=>rowQ_sn hLv hvj hnew hle (by rw [len_sn] at hi;omega) ho)) wX))))))))),⟨Ln.A,Ln.A,Ln.A,Ln.oslE rfl (by rw [len_sn];omega),Ln.A,Ln.A,Ln.A,True.intro⟩⟩⟩
          | exact ⟨⟨j + 1,1,P.set (s.R + j) ((s.R + j,w) :: P h),L.drop k ++ [s.R + j],⟨hlt,no_pushC hno hvj,hpush,by rw [len_sn,List.length_drop];omega,(fun h=>by cases h),by rw [len_sn,List.length_drop];have hM2:unv P N + (L.length - k) = M0:=hM;exact (show unv (P.set (s.R + j) ((s.R + j,w) :: P h)) N + (L.length - k + 1) = M0 by omega),Nat.zero_le _,drop_L hLv hvj,by rw [Pth.set_ne hjc];exact hPt,by rw [Pth.set_ne hjh];exact hPh⟩,by show s.C - (j + 1) < s.C - j;omega,[0,1,2,3,4,5,6,9],(wO rfl rfl rfl (wV rfl LnB.A (wV rfl (LnB.rwg3 (Ln.ownE rfl rfl) (Ln.ownE rfl rfl) (Ln.ownE rfl rfl) (Nat.le_refl _)) (wV rfl LnB.A (wV rfl LnB.A (wV rfl LnB.A (wV rfl (LnB.visE fun k hk=>by rw [vis_set,if_neg (by omega)]) (wV rfl (LnB.visS fun k hk=>by rw [vis_set];by_cases e:k = j;rw [if_pos (by omega),if_pos e];rw [if_neg (by omega),if_neg e]) (wV rfl (LnB.rowE (by rw [len_sn,List.length_drop];omega) (fun i hi o ho=>rowQ_dr hLv hvj hnew (by rw [len_sn,List.length_drop] at hi;omega) ho)) wX))))))))),⟨Ln.A,Ln.A,Ln.A,Ln.osl0E rfl (show L.length - k + (0 + 1) = (L.drop k ++ [s.R + j]).length - 0 by rw [len_sn,List.length_drop];rfl),Ln.A,Ln.A,Ln.A,True.intro⟩⟩⟩
          | fail
        )
       | fail
    ·have hjE:j = s.C:=by omega
     have hpop:=hB.pop (fun i hi ha=>by
      rcases Nat.lt_or_ge i s.R with hi2|hi2
      ·rw [adj_rr hhR hi2] at ha;cases ha
      ·have:=hno (i - s.R) (by have:i < s.R + s.C:=hi;omega);rw [show s.R + (i - s.R) = i by omega] at this;exact this ha)
     rcases e with _|k
     ·have hLe:L = []:=hL0 rfl
      subst hLe
      (repeat' ((try conv=>whnf);first|(with_reducible first|refine wT ?_|refine wF ?_|(refine wI (fun hq=>?_) (fun hq=>?_) <;> try simp only [zA,zE,zD,zJ,zB,zI,wK,wL] at hq)|refine wA ?_|refine wB ?_|refine wC ?_|refine wD ?_|refine wE ?_)|((with_reducible refine wN ?_ ?_);focus exact needA)|(with_reducible refine wG ?_)|(with_reducible refine wP ?_)))
      all_goals (try conv=>whnf)
      exact ⟨⟨0,P,[],⟨hpop,by show 0 + unv P N ≤ N;omega,fun _=>.inl rfl,Nat.zero_le _,(fun i hi=>by cases hi),hPt⟩,by show unv P N + (0 - 0) < M;have hM2:unv P N + (0 - 0) = M0:=hM;omega,[0,1,2,3,4,5,6],(wO rfl rfl rfl (wV rfl LnB.A (wV rfl (LnB.rwg3 (Ln.ownE rfl rfl) (Ln.ownE rfl rfl) (Ln.ownE rfl rfl) (Nat.le_refl _)) (wV rfl LnB.A (wV rfl LnB.A (wV rfl LnB.A (wV rfl (LnB.visE fun k hk=>rfl) (wV rfl (LnB.visE fun k hk=>rfl) wX)))))))),⟨Ln.A,Ln.A,Ln.A,Ln.slz _ _ _ _ _ _ _ (by decide),True.intro⟩⟩⟩
     ·have hle':k ≤ L.length:=hle
      (repeat' ((try conv=>whnf);first|(with_reducible first|refine wT ?_|refine wF ?_|(refine wI (fun hq=>?_) (fun hq=>?_) <;> try simp only [zA,zE,zD,zJ,zB,zI,wK,wL] at hq)|refine wA ?_|refine wB ?_|refine wC ?_|refine wD ?_|refine wE ?_)|((with_reducible refine wN ?_ ?_);focus exact needA)|(with_reducible refine wG ?_)|(with_reducible refine wP ?_)))
      all_goals (try conv=>whnf)
      exact ⟨⟨k + 1,P,L,⟨hpop,hLu,(fun h=>by cases h),hle,hLv,hPt⟩,by show unv P N + (L.length - k) < M;have hM2:unv P N + (L.length - k) = M0:=hM;omega,[0,1,2,3,4,5,6,7],(wO rfl rfl rfl (wV rfl LnB.A (wV rfl (LnB.rwg3 (Ln.ownE rfl rfl) (Ln.ownE rfl rfl) (Ln.ownE rfl rfl) (Nat.le_refl _)) (wV rfl LnB.A (wV rfl LnB.A (wV rfl LnB.A (wV rfl (LnB.visE fun k hk=>rfl) (wV rfl (LnB.visE fun k hk=>rfl) (wV rfl (LnB.rowE (Nat.le_refl _) fun _ _ _ _=>rfl) wX))))))))),⟨Ln.A,Ln.A,Ln.A,Ln.oslE rfl rfl,True.intro⟩⟩⟩
  ·have hhR':s.R ≤ h:=by omega
   have hatv:aCh s.R ((h,w) :: u) = .ip 4 (ofL [.bool false,AI (h - s.R:Nat),aCh s.R u,AI w]) 0:=by
    have:=aCh_col s.R (h - s.R) w u
    rw [show s.R + (h - s.R) = h by omega] at this
    exact this
   apply cutG
   ·intro rest
    rcases e with _|k
    ·exfalso
     have hL1:L = [r0]:=by
      rcases h0 rfl with h|h
      ·rw [h] at hq;cases hq
      ·exact h.1
     rw [hL1] at q2
     have:r0 = h:=q2
     omega
    ·have q1:k < L.length:=q1
     have q3:L.drop (k + 1) = l:=q3
     have q2:L.getD k 0 = h:=q2
     have q4:L.length = k + 1 + l.length:=q4
     have hatk:nodeV s.R (P (L.getD k 0)) = (.ip 4 (ofL [.bool false,AI (h - s.R:Nat),aCh s.R u,AI w]) 0:AV):=by rw [q2,hh0];exact hatv
     (repeat' ((try conv=>whnf);first|(with_reducible first|refine wT ?_|refine wF ?_|(refine wI (fun hq=>?_) (fun hq=>?_) <;> try simp only [zA,zE,zD,zJ,zB,zI,wK,wL] at hq)|refine wA ?_|refine wB ?_|refine wC ?_|refine wD ?_|refine wE ?_)|((with_reducible refine wN ?_ ?_);focus exact needA)|(with_reducible refine wG ?_)|(with_reducible refine wP ?_)))
     all_goals (try conv=>whnf)
     refine FWk.of [(0,.ptr 0 0),(3,.own 5 3),(4,.own 6 s.C),(5,qY 7 (k + 2) L),(6,.ip 4 (ofL [.bool false,AI (h - s.R:Nat),aCh s.R u,AI w]) 0)] (.box 5 (ofL [iSt f s z em m,.own 1 3,AI r0,AI c0,AI (-1)]) :: .rwg 3 1 (fun k _=>match k with|0=>.own 2 s.C|1=>.own 3 s.C|_=>.own 4 s.C) :: rowF s.C (x 0) :: rowF s.C (x 1) :: rowF s.C (x 2) :: rowB 3 (fun k=>vis P k) :: rowB s.C (fun k=>vis P (s.R + k)) :: qR s.R P (k + 2) L) [0,1,2,3,4,5,6,7] (wO rfl rfl rfl (wV rfl LnB.A (wV rfl (LnB.rwg3 (Ln.ownE rfl rfl) (Ln.ownE rfl rfl) (Ln.ownE rfl rfl) (Nat.le_refl _)) (wV rfl LnB.A (wV rfl LnB.A (wV rfl LnB.A (wV rfl (LnB.visE fun k hk=>rfl) (wV rfl (LnB.visE fun k hk=>rfl) (wV rfl (LnB.rowE (Nat.le_refl _) fun _ _ _ _=>rfl) wX))))))))) ⟨Ln.A,Ln.A,Ln.A,Ln.oslE rfl (by omega),Ln.le _ _ True.intro (LeV.of hatk.symm),True.intro⟩ ?_
     (repeat' ((try conv=>whnf);first|(with_reducible first|refine wT ?_|refine wF ?_|(refine wI (fun hq=>?_) (fun hq=>?_) <;> try simp only [zA,zE,zD,zJ,zB,zI,wK,wL] at hq)|refine wA ?_|refine wB ?_|refine wC ?_|refine wD ?_|refine wE ?_)|((with_reducible refine wN ?_ ?_);focus exact needA)|(with_reducible refine wG ?_)|(refine FCall.pure (cols) ⟨Ln.sameB _ rfl,True.intro⟩ rfl ?_)|(with_reducible refine wP ?_)))
     all_goals (try conv=>whnf)
     exact FLoop.of4 (ACalls.mono _) (fun (j e:Nat) (P:Pth) (L:List Nat)=>[(0,.ptr 0 0),(3,.own 5 3),(4,.own 6 s.C),(5,qY 7 e L),(6,.ip 4 (ofL [.bool false,AI (h - s.R:Nat),aCh s.R u,AI w]) 0),(137,AI 3),(138,AI j)]) (fun j e P L=>(.box 5 (ofL [iSt f s z em m,.own 1 3,AI r0,AI c0,AI (-1)]) :: .rwg 3 1 (fun k _=>match k with|0=>.own 2 s.C|1=>.own 3 s.C|_=>.own 4 s.C) :: rowF s.C (x 0) :: rowF s.C (x 1) :: rowF s.C (x 2) :: rowB 3 (fun k=>vis P k) :: rowB s.C (fun k=>vis P (s.R + k)) :: qR s.R P e L)) (fun j e P L=>j ≤ s.R ∧ (∀ i,i < j → (gPr s m r0 c0 x false).adj h i = true → P i ≠ []) ∧ Bfs (gPr s m r0 c0 x false) r0 P (h :: L.drop (e - 1)) ∧ L.length + unv P N ≤ N ∧ (e = 0 → L = []) ∧ unv P N + (L.length - (e - 1)) = M0 ∧ e - 1 ≤ L.length ∧ (∀ i,i ∈ L → P i ≠ []) ∧ P (s.R + c0) = [] ∧ P h = (h,w) :: u) (fun j e P L=>s.R - j) 0 (k + 2) P L ⟨⟨Nat.zero_le _,fun i hi=>absurd hi (Nat.not_lt_zero i),by show Bfs _ _ _ (h :: L.drop (k + 1));rw [q3];exact hB,hLu,(fun h=>by cases h),by show unv P N + (L.length - (k + 1)) = M0;omega,by show k + 1 ≤ _;omega,hLv,hPt,hh0⟩,[0,1,2,3,4,5,6,7],(wO rfl rfl rfl (wV rfl LnB.A (wV rfl (LnB.rwg3 (Ln.ownE rfl rfl) (Ln.ownE rfl rfl) (Ln.ownE rfl rfl) (Nat.le_refl _)) (wV rfl LnB.A (wV rfl LnB.A (wV rfl LnB.A (wV rfl (LnB.visE fun k hk=>rfl) (wV rfl (LnB.visE fun k hk=>rfl) (wV rfl (LnB.rowE (Nat.le_refl _) fun _ _ _ _=>rfl) wX))))))))),⟨Ln.A,Ln.A,Ln.A,Ln.oslE rfl rfl,Ln.A,Ln.A,Ln.A,True.intro⟩⟩ rest.h
   ·clear hB hLu hle hM0 h0 hq q1 q2 q3 q4 hμ hcu hLv hPt hh0
    rintro j e P L ⟨hj,hno,hB,hLu,hL0,hM,hle,hLv,hPt,hPh⟩
    have hun:=unv_le P N
    by_cases hlt:j < s.R
    ·have cO:=outP_ok f s z em m j (h - s.R) (by omega) (hmd j hlt) (by omega)
     have hhe:s.R + (h - s.R) = h:=by omega
     have hcase:j = 0 ∨ j = 1 ∨ j = 2:=by omega
     rcases e with _|k
     ·have hLe:L = []:=hL0 rfl
      subst hLe
      rcases hcase with hcase|hcase|hcase
      all_goals
       have hxh:=congrArg x hcase
       have hxj:x j (h - s.R) = x _ (h - s.R):=congrFun hxh (h - s.R)
       have hxn:0 ≤ x j (h - s.R):=hx j (h - s.R) hlt (by omega)
       rw [hxh] at hxn
       (repeat' ((try conv=>whnf);first|(with_reducible refine FIdx.eqN 0 (by omega) (by omega) ?_)|(with_reducible refine FIdx.eqN 1 (by omega) (by omega) ?_)|(with_reducible refine FIdx.eqN 2 (by omega) (by omega) ?_)|(with_reducible first|refine FCond.t rfl ?_|refine FCond.f rfl ?_)|((with_reducible refine FCond.uT (fun hq=>?_));rw [hq];(with_reducible refine FCond.t rfl ?_);clear hq)|((with_reducible refine FCond.uF (fun hq=>?_));rw [hq];(with_reducible refine FCond.f rfl ?_);clear hq)|((with_reducible refine wJ (fun hq=>?_) (fun hq=>?_)) <;> (rw [hq];(with_reducible first|refine FCond.t rfl ?_|refine FCond.f rfl ?_);(try simp only [zA,zE,zD,zJ,zB,zI,wK,wL] at hq)))|(with_reducible first|refine wA ?_|refine wB ?_|refine wC ?_|refine wD ?_|refine wE ?_)|((with_reducible refine wN ?_ ?_);focus exact needA)|(with_reducible refine wG ?_)|(refine FCall.pure (cO) ⟨Ln.sameB _ rfl,Ln.sameB _ rfl,Ln.sameB _ rfl,True.intro⟩ rfl ?_)|(with_reducible refine wP ?_)))
       all_goals (try conv=>whnf)
       all_goals (try rw [← hxj])
       all_goals
        first
        | (refine ⟨⟨j + 1,0,P,[],⟨hlt,no_next hno ?_,hB,hLu,hL0,hM,hle,hLv,hPt,hPh⟩,?_,[0,1,2,3,4,5,6],(wO rfl rfl rfl (wV rfl LnB.A (wV rfl (LnB.rwg3 (Ln.ownE rfl rfl) (Ln.ownE rfl rfl) (Ln.ownE rfl rfl) (Nat.le_refl _)) (wV rfl LnB.A (wV rfl LnB.A (wV rfl LnB.A (wV rfl (LnB.visE fun k hk=>rfl) (wV rfl (LnB.visE fun k hk=>rfl) wX)))))))),⟨Ln.A,Ln.A,Ln.A,Ln.slz _ _ _ _ _ _ _ (by decide),Ln.A,Ln.A,Ln.A,True.intro⟩⟩⟩;(focus ((intro ha hP);(have hv:vis P j = false:=vis_f.2 hP);(rw [← hhe] at ha);(obtain ⟨a1,a2,a3⟩:=adj_pr (g:=(gPr s m r0 c0 x false)) hlt ha);(first|omega|(rw [a1] at hq;cases hq)|(simp_all;done)|(simp_all;omega)|fail)));(show s.R - (j + 1) < s.R - j);omega)
        | (
          have hvj:P j = []:=vis_f.1 (by rw [hcase];assumption)
          have hf:=fnd_rD (g:=(gPr s m r0 c0 x false)) (c:=h - s.R) (j:=j) (w:=w) hlt rfl (by assumption) (show ¬ (j = r0 ∧ h - s.R = c0) by omega) (show 0 < x j (h - s.R) by omega)
          rw [show ((gPr s m r0 c0 x false)).R + (h - s.R) = h from hhe] at hf
          have hpush:=hB.push (v:=min w (x j (h - s.R))) (show j < s.R + s.C by omega) hvj hPh hf.1 (show (1:Int) ≤ min w (x j (h - s.R)) by omega) (show min w (x j (h - s.R)) ≤ w by omega) hf.2
          have hunp:=unv_push (q:=(j,min w (x j (h - s.R)))) (l:=P h) hvj (show j < N by omega)
          have hnew:aCh s.R ((j,min w (x j (h - s.R))) :: P h) = .ip 4 (ofL [.bool true,AI j,.ip 4 (ofL [.bool false,AI (h - s.R:Nat),aCh s.R u,AI w]) 0,AI (min w (x j (h - s.R)))]) 0:=by rw [hPh,aCh_row hlt,hatv]
          have hjc:s.R + c0 ≠ j:=by omega
          have hjh:h ≠ j:=by omega
          first
           | exact ⟨⟨j + 1,1,P.set j ((j,min w (x j (h - s.R))) :: P h),[j],⟨hlt,no_push' hno hvj,hpush,by show 1 + _ ≤ N;have hLu2:0 + unv P N ≤ N:=hLu;omega,(fun h=>by cases h),by show _ + (1 - 0) = M0;have hM2:unv P N + 0 = M0:=hM;omega,Nat.zero_le _,drop_L (L:=[]) (k:=0) (fun i hi=>by cases hi) hvj,by rw [Pth.set_ne hjc];exact hPt,by rw [Pth.set_ne hjh];exact hPh⟩,by show s.R - (j + 1) < s.R - j;omega,[0,1,2,3,4,5,6,8],(wO rfl rfl rfl (wV rfl LnB.A (wV rfl (LnB.rwg3 (Ln.ownE rfl rfl) (Ln.ownE rfl rfl) (Ln.ownE rfl rfl) (Nat.le_refl _)) (wV rfl LnB.A (wV rfl LnB.A (wV rfl LnB.A (wV rfl (LnB.visS fun k hk=>by rw [vis_set,hcase]) (wV rfl (LnB.visE fun k hk=>by rw [vis_set,if_neg (by omega)]) (wV rfl (LnB.rowE (Nat.le_refl _) fun i hi o ho=>rowQ_dr (L:=[]) (k:=0) (fun i hi=>by cases hi) hvj hnew hi ho) wX))))))))),⟨Ln.A,Ln.A,Ln.A,Ln.osl0E rfl rfl,Ln.A,Ln.A,Ln.A,True.intro⟩⟩⟩
           | fail
         )
        | fail
     ·have hle':k ≤ L.length:=hle
      rcases hcase with hcase|hcase|hcase
      all_goals
       have hxh:=congrArg x hcase
       have hxj:x j (h - s.R) = x _ (h - s.R):=congrFun hxh (h - s.R)
       have hxn:0 ≤ x j (h - s.R):=hx j (h - s.R) hlt (by omega)
       rw [hxh] at hxn
       (repeat' ((try conv=>whnf);first|(with_reducible refine FIdx.eqN 0 (by omega) (by omega) ?_)|(with_reducible refine FIdx.eqN 1 (by omega) (by omega) ?_)|(with_reducible refine FIdx.eqN 2 (by omega) (by omega) ?_)|(with_reducible first|refine FCond.t rfl ?_|refine FCond.f rfl ?_)|((with_reducible refine FCond.uT (fun hq=>?_));rw [hq];(with_reducible refine FCond.t rfl ?_);clear hq)|((with_reducible refine FCond.uF (fun hq=>?_));rw [hq];(with_reducible refine FCond.f rfl ?_);clear hq)|((with_reducible refine wJ (fun hq=>?_) (fun hq=>?_)) <;> (rw [hq];(with_reducible first|refine FCond.t rfl ?_|refine FCond.f rfl ?_);(try simp only [zA,zE,zD,zJ,zB,zI,wK,wL] at hq)))|(with_reducible first|refine wA ?_|refine wB ?_|refine wC ?_|refine wD ?_|refine wE ?_)|((with_reducible refine wN ?_ ?_);focus exact needA)|(refine FCall.pure (cO) ⟨Ln.sameB _ rfl,Ln.sameB _ rfl,Ln.sameB _ rfl,True.intro⟩ rfl ?_)|(refine FApp.share (Need.mk (by omega) (Need.mk ?_ ?_)))|(with_reducible refine wP ?_)))
       all_goals (try conv=>whnf)
       all_goals (try rw [← hxj])
       all_goals
        first
        | (refine ⟨⟨j + 1,k + 1,P,L,⟨hlt,no_next hno ?_,hB,hLu,hL0,hM,hle,hLv,hPt,hPh⟩,?_,[0,1,2,3,4,5,6,7],(wO rfl rfl rfl (wV rfl LnB.A (wV rfl (LnB.rwg3 (Ln.ownE rfl rfl) (Ln.ownE rfl rfl) (Ln.ownE rfl rfl) (Nat.le_refl _)) (wV rfl LnB.A (wV rfl LnB.A (wV rfl LnB.A (wV rfl (LnB.visE fun k hk=>rfl) (wV rfl (LnB.visE fun k hk=>rfl) (wV rfl (LnB.rowE (Nat.le_refl _) fun _ _ _ _=>rfl) wX))))))))),⟨Ln.A,Ln.A,Ln.A,Ln.oslE rfl rfl,Ln.A,Ln.A,Ln.A,True.intro⟩⟩⟩;(focus ((intro ha hP);(have hv:vis P j = false:=vis_f.2 hP);(rw [← hhe] at ha);(obtain ⟨a1,a2,a3⟩:=adj_pr (g:=(gPr s m r0 c0 x false)) hlt ha);(first|omega|(rw [a1] at hq;cases hq)|(simp_all;done)|(simp_all;omega)|fail)));(show s.R - (j + 1) < s.R - j);omega)
        | (
          have hvj:P j = []:=vis_f.1 (by rw [hcase];assumption)
          have hf:=fnd_rD (g:=(gPr s m r0 c0 x false)) (c:=h - s.R) (j:=j) (w:=w) hlt rfl (by assumption) (show ¬ (j = r0 ∧ h - s.R = c0) by omega) (show 0 < x j (h - s.R) by omega)
          rw [show ((gPr s m r0 c0 x false)).R + (h - s.R) = h from hhe] at hf
          have hpush:=hB.push (v:=min w (x j (h - s.R))) (show j < s.R + s.C by omega) hvj hPh hf.1 (show (1:Int) ≤ min w (x j (h - s.R)) by omega) (show min w (x j (h - s.R)) ≤ w by omega) hf.2
          have hunp:=unv_push (q:=(j,min w (x j (h - s.R)))) (l:=P h) hvj (show j < N by omega)
          have hnew:aCh s.R ((j,min w (x j (h - s.R))) :: P h) = .ip 4 (ofL [.bool true,AI j,.ip 4 (ofL [.bool false,AI (h - s.R:Nat),aCh s.R u,AI w]) 0,AI (min w (x j (h - s.R)))]) 0:=by rw [hPh,aCh_row hlt,hatv]
          have hjc:s.R + c0 ≠ j:=by omega
          have hjh:h ≠ j:=by omega
          first
           | exact ⟨⟨j + 1,k + 1,P.set j ((j,min w (x j (h - s.R))) :: P h),L ++ [j],⟨hlt,no_push' hno hvj,by show Bfs _ _ _ (h :: (L ++ [j]).drop k);rw [drop_sn (show k ≤ L.length from hle) rfl];exact hpush,by rw [len_sn];omega,(fun h=>by cases h),by rw [len_sn];have hM2:unv P N + (L.length - k) = M0:=hM;exact (show unv (P.set j ((j,min w (x j (h - s.R))) :: P h)) N + (L.length + 1 - k) = M0 by omega),by rw [len_sn];show k ≤ _;omega,new_L hLv hvj,by rw [Pth.set_ne hjc];exact hPt,by rw [Pth.set_ne hjh];exact hPh⟩,by show s.R - (j + 1) < s.R - j;omega,[0,1,2,3,4,5,6,7],(wO rfl rfl rfl (wV rfl LnB.A (wV rfl (LnB.rwg3 (Ln.ownE rfl rfl) (Ln.ownE rfl rfl) (Ln.ownE rfl rfl) (Nat.le_refl _)) (wV rfl LnB.A (wV rfl LnB.A (wV rfl LnB.A (wV rfl (LnB.visS fun k hk=>by rw [vis_set,hcase]) (wV rfl (LnB.visE fun k hk=>by rw [vis_set,if_neg (by omega)]) (wV rfl (LnB.rowE (by rw [len_sn];omega) (fun i hi o ho=>rowQ_sn hLv hvj hnew hle (by rw [len_sn] at hi;omega) ho)) wX))))))))),⟨Ln.A,Ln.A,Ln.A,Ln.oslE rfl (by rw [len_sn];omega),Ln.A,Ln.A,Ln.A,True.intro⟩⟩⟩
           | exact ⟨⟨j + 1,1,P.set j ((j,min w (x j (h - s.R))) :: P h),L.drop k ++ [j],⟨hlt,no_push' hno hvj,hpush,by rw [len_sn,List.length_drop];omega,(fun h=>by cases h),by rw [len_sn,List.length_drop];have hM2:unv P N + (L.length - k) = M0:=hM;exact (show unv (P.set j ((j,min w (x j (h - s.R))) :: P h)) N + (L.length - k + 1) = M0 by omega),Nat.zero_le _,drop_L hLv hvj,by rw [Pth.set_ne hjc];exact hPt,by rw [Pth.set_ne hjh];exact hPh⟩,by show s.R - (j + 1) < s.R - j;omega,[0,1,2,3,4,5,6,9],(wO rfl rfl rfl (wV rfl LnB.A (wV rfl (LnB.rwg3 (Ln.ownE rfl rfl) (Ln.ownE rfl rfl) (Ln.ownE rfl rfl) (Nat.le_refl _)) (wV rfl LnB.A (wV rfl LnB.A (wV rfl LnB.A (wV rfl (LnB.visS fun k hk=>by rw [vis_set,hcase]) (wV rfl (LnB.visE fun k hk=>by rw [vis_set,if_neg (by omega)]) (wV rfl (LnB.rowE (by rw [len_sn,List.length_drop];omega) (fun i hi o ho=>rowQ_dr hLv hvj hnew (by rw [len_sn,List.length_drop] at hi;omega) ho)) wX))))))))),⟨Ln.A,Ln.A,Ln.A,Ln.osl0E rfl (show L.length - k + (0 + 1) = (L.drop k ++ [j]).length - 0 by rw [len_sn,List.length_drop];rfl),Ln.A,Ln.A,Ln.A,True.intro⟩⟩⟩
           | fail
         )
        | fail
    ·have hjE:j = s.R:=by omega
     have hpop:=hB.pop (fun i hi ha=>by
      rcases Nat.lt_or_ge i s.R with hi2|hi2
      ·exact hno i (by omega) ha
      ·rw [adj_cc hhR' hi2] at ha;cases ha)
     rcases e with _|k
     ·have hLe:L = []:=hL0 rfl
      subst hLe
      (repeat' ((try conv=>whnf);first|(with_reducible first|refine wT ?_|refine wF ?_|(refine wI (fun hq=>?_) (fun hq=>?_) <;> try simp only [zA,zE,zD,zJ,zB,zI,wK,wL] at hq)|refine wA ?_|refine wB ?_|refine wC ?_|refine wD ?_|refine wE ?_)|((with_reducible refine wN ?_ ?_);focus exact needA)|(with_reducible refine wG ?_)|(with_reducible refine wP ?_)))
      all_goals (try conv=>whnf)
      exact ⟨⟨0,P,[],⟨hpop,by show 0 + unv P N ≤ N;omega,fun _=>.inl rfl,Nat.zero_le _,(fun i hi=>by cases hi),hPt⟩,by show unv P N + (0 - 0) < M;have hM2:unv P N + (0 - 0) = M0:=hM;omega,[0,1,2,3,4,5,6],(wO rfl rfl rfl (wV rfl LnB.A (wV rfl (LnB.rwg3 (Ln.ownE rfl rfl) (Ln.ownE rfl rfl) (Ln.ownE rfl rfl) (Nat.le_refl _)) (wV rfl LnB.A (wV rfl LnB.A (wV rfl LnB.A (wV rfl (LnB.visE fun k hk=>rfl) (wV rfl (LnB.visE fun k hk=>rfl) wX)))))))),⟨Ln.A,Ln.A,Ln.A,Ln.slz _ _ _ _ _ _ _ (by decide),True.intro⟩⟩⟩
     ·have hle':k ≤ L.length:=hle
      (repeat' ((try conv=>whnf);first|(with_reducible first|refine wT ?_|refine wF ?_|(refine wI (fun hq=>?_) (fun hq=>?_) <;> try simp only [zA,zE,zD,zJ,zB,zI,wK,wL] at hq)|refine wA ?_|refine wB ?_|refine wC ?_|refine wD ?_|refine wE ?_)|((with_reducible refine wN ?_ ?_);focus exact needA)|(with_reducible refine wG ?_)|(with_reducible refine wP ?_)))
      all_goals (try conv=>whnf)
      exact ⟨⟨k + 1,P,L,⟨hpop,hLu,(fun h=>by cases h),hle,hLv,hPt⟩,by show unv P N + (L.length - k) < M;have hM2:unv P N + (L.length - k) = M0:=hM;omega,[0,1,2,3,4,5,6,7],(wO rfl rfl rfl (wV rfl LnB.A (wV rfl (LnB.rwg3 (Ln.ownE rfl rfl) (Ln.ownE rfl rfl) (Ln.ownE rfl rfl) (Nat.le_refl _)) (wV rfl LnB.A (wV rfl LnB.A (wV rfl LnB.A (wV rfl (LnB.visE fun k hk=>rfl) (wV rfl (LnB.visE fun k hk=>rfl) (wV rfl (LnB.rowE (Nat.le_refl _) fun _ _ _ _=>rfl) wX))))))))),⟨Ln.A,Ln.A,Ln.A,Ln.oslE rfl rfl,True.intro⟩⟩⟩
end Go.Proofs.Ytlffjnmbpoemnaa

namespace Go.Proofs.Ytlffjnmbpoemnaa
open Go.RowKit

set_option maxHeartbeats 16000000
set_option maxRecDepth 100000
theorem push3D (f:ShF) (s:Sheet) (hs:SheetOk s) (z em:Bool) (m:List Int) (hm:MaskOk s m) (r0 c0:Nat) (hr0:r0 < s.R) (hc0:c0 < s.C) (ho:outS m r0 c0 = true) (most:Int) (hmo:0 ≤ most ∧ most ≤ 200000) (hR:s.R = 3):ACall Try.prog 58 [.ptr 0 0,AI most] [.box 5 (ofL [iSt f s z em m,.own 1 3,AI r0,AI c0,AI (-1)]),.rwg 3 1 (fun k _=>match k with|0=>.own 2 s.C|1=>.own 3 s.C|_=>.own 4 s.C),rowF s.C (s.A 0),rowF s.C (s.A 1),rowF s.C (s.A 2)] (fun v h=>∃ y d,v = AI d ∧ h = [.box 5 (ofL [iSt f s z em m,.own 1 3,AI r0,AI c0,AI (-1)]),.rwg 3 1 (fun k _=>match k with|0=>.own 2 s.C|1=>.own 3 s.C|_=>.own 4 s.C),rowF s.C (y 0),rowF s.C (y 1),rowF s.C (y 2)] ∧ PushOut s m r0 c0 false (min most (s.A r0 c0)) y d):=by
 have c4:=hs.c4
 have c1:=hs.c1
 have hml:=hm.len
 have hA0:=hs.amt r0 c0 hr0 hc0
 (refine fcall_of mixed Try.func58 rfl (by decide) (hs:={}) ?k (ac:=?ac) ?c (rs:=?rs) ?r ?l ?H;(case k=>kernel_rfl);(case c=>(conv=>(lhs;cbv)));(case r=>(conv=>(lhs;cbv)));(case l=>exact Nat.le_of_ble_eq_true rfl))
 apply cutG
 ·intro rest
  have h0:r0 = 0 ∨ r0 = 1 ∨ r0 = 2:=by omega
  rcases h0 with h0|h0|h0
  all_goals
   have hxr:=congrArg s.A h0
   have hxj:s.A r0 c0 = s.A _ c0:=congrFun hxr c0
   (repeat' ((try conv=>whnf);first|(with_reducible refine FIdx.eqN 0 (by omega) (by omega) ?_)|(with_reducible refine FIdx.eqN 1 (by omega) (by omega) ?_)|(with_reducible refine FIdx.eqN 2 (by omega) (by omega) ?_)|(with_reducible first|refine wT ?_|refine wF ?_|(refine wI (fun hq=>?_) (fun hq=>?_) <;> try simp only [zA,zE,zD,zJ,zB,zI,wK,wL] at hq)|refine wA ?_|refine wB ?_|refine wC ?_|refine wD ?_|refine wE ?_)|((with_reducible refine wN ?_ ?_);focus exact needA)|(with_reducible refine wG ?_)|(with_reducible refine wP ?_)))
   all_goals (try conv=>whnf)
   all_goals (try rw [← hxj])
   all_goals exact FLoop.of (ACalls.mono _) (X:=(Nat → Nat → Int) × Int) (fun q=>[(0,.ptr 0 0),(1,AI (min most (s.A r0 c0))),(5,AI q.2)]) (fun q=>[.box 5 (ofL [iSt f s z em m,.own 1 3,AI r0,AI c0,AI (-1)]),.rwg 3 1 (fun k _=>match k with|0=>.own 2 s.C|1=>.own 3 s.C|_=>.own 4 s.C),rowF s.C (q.1 0),rowF s.C (q.1 1),rowF s.C (q.1 2)]) (fun q=>Ag s m q.1 ∧ 0 ≤ q.2 ∧ q.2 ≤ (min most (s.A r0 c0)) ∧ q.1 r0 c0 = s.A r0 c0 - q.2) (fun q=>((min most (s.A r0 c0)) - q.2).toNat) (s.A,0) ⟨⟨Ag.self hs m,Int.le_refl 0,by show 0 ≤ (min most (s.A r0 c0));omega,by show s.A r0 c0 = _;simp⟩,[0,1,2,3,4],(wO rfl rfl rfl (wV rfl LnB.A (wV rfl (LnB.rwg3 (Ln.ownE rfl rfl) (Ln.ownE rfl rfl) (Ln.ownE rfl rfl) (Nat.le_refl _)) (wV rfl LnB.A (wV rfl LnB.A (wV rfl LnB.A wX)))))),⟨Ln.A,Ln.A,Ln.A,True.intro⟩⟩ rest.h
 rintro ⟨x,d⟩ ⟨hx,hd0,hd1,hxd⟩
 have hx:Ag s m x:=hx
 have hd0:0 ≤ d:=hd0
 have hd1:d ≤ (min most (s.A r0 c0)):=hd1
 have hxd:x r0 c0 = s.A r0 c0 - d:=hxd
 by_cases hlt:d < (min most (s.A r0 c0))
 ·have hx40:∀ r c,r < s.R → c < s.C → 0 ≤ x r c ∧ x r c ≤ 40000:=fun r c hr hc=>⟨hx.nn r c hr hc,hx.le hs hr hc⟩
  (repeat' ((try conv=>whnf);first|(with_reducible first|refine wT ?_|refine wF ?_|(refine wI (fun hq=>?_) (fun hq=>?_) <;> try simp only [zA,zE,zD,zJ,zB,zI,wK,wL] at hq)|refine wA ?_|refine wB ?_|refine wC ?_|refine wD ?_|refine wE ?_)|((with_reducible refine wN ?_ ?_);focus exact needA)|(with_reducible refine wG ?_)|(with_reducible refine wP ?_)))
  all_goals (try conv=>whnf)
  refine FCall.give [0,1,2,3,4] [] (way3D f s hs z em m hm r0 c0 hr0 hc0 x hx.nn hR) rfl rfl ⟨⟨_,rfl,trivial,LnB.A⟩,⟨_,rfl,trivial,(LnB.rwg3 (Ln.ownE rfl rfl) (Ln.ownE rfl rfl) (Ln.ownE rfl rfl) (Nat.le_refl _))⟩,⟨_,rfl,trivial,LnB.A⟩,⟨_,rfl,trivial,LnB.A⟩,⟨_,rfl,trivial,LnB.A⟩,True.intro⟩ ⟨Ln.A,True.intro⟩ ?_
  rintro _ _ ⟨⟨rfl,P,hB,hPt⟩|⟨p,C,hto,rfl⟩,rfl⟩
  ·refine ⟨Nat.le_of_ble_eq_true rfl,.inl rfl,?_⟩
   have S:=hB.shut
   (repeat' ((try conv=>whnf);first|(with_reducible first|refine wT ?_|refine wF ?_|(refine wI (fun hq=>?_) (fun hq=>?_) <;> try simp only [zA,zE,zD,zJ,zB,zI,wK,wL] at hq)|refine wA ?_|refine wB ?_|refine wC ?_|refine wD ?_|refine wE ?_)|((with_reducible refine wN ?_ ?_);focus exact needA)|(with_reducible refine wG ?_)|(with_reducible refine wP ?_)))
   all_goals (try conv=>whnf)
   exact ⟨⟨AI d,[.box 5 (ofL [iSt f s z em m,.own 1 3,AI r0,AI c0,AI (-1)]),.rwg 3 1 (fun k _=>match k with|0=>.own 2 s.C|1=>.own 3 s.C|_=>.own 4 s.C),rowF s.C (x 0),rowF s.C (x 1),rowF s.C (x 2)],[0,1,2,3,4],(wO rfl rfl rfl (wV rfl LnB.A (wV rfl (LnB.rwg3 (Ln.ownE rfl rfl) (Ln.ownE rfl rfl) (Ln.ownE rfl rfl) (Nat.le_refl _)) (wV rfl LnB.A (wV rfl LnB.A (wV rfl LnB.A wX)))))),Ln.A,x,d,rfl,rfl,hx,⟨hd0,hd1⟩,(fun h=>by cases h),fun _=>hxd,.inr ⟨(fun h=>by cases h),fun _=>S.lo_row rfl rfl hr0 hc0 rfl (vis0 hB) (by simp [hPt]) hx⟩⟩⟩
  ·obtain ⟨⟨t0,v0⟩,pr,rfl⟩:=List.exists_cons_of_ne_nil C.ne
   have hto:t0 = s.R + c0:=hto
   subst hto
   have hv1:1 ≤ v0:=C.pos
   obtain ⟨p,hp⟩:∃ p,(s.R + c0,v0) :: pr = p:=⟨_,rfl⟩
   rw [show aCh (gPr s m r0 c0 x false).R ((s.R + c0,v0) :: pr) = .ip 4 (ofL [.bool false,AI (c0:Nat),aCh s.R pr,AI v0]) 0 from aCh_col s.R c0 v0 pr]
   refine ⟨Nat.le_of_ble_eq_true rfl,.inl rfl,?_⟩
   obtain ⟨k,hk'⟩:∃ k,min ((min most (s.A r0 c0)) - d) v0 = k:=⟨_,rfl⟩
   have hk:1 ≤ k ∧ k ≤ 200000:=by omega
   have hk1:k ≤ v0:=by omega
   have hk2:k ≤ (min most (s.A r0 c0)) - d:=by omega
   (repeat' ((try conv=>whnf);first|(with_reducible first|refine wT ?_|refine wF ?_|(refine wI (fun hq=>?_) (fun hq=>?_) <;> try simp only [zA,zE,zD,zJ,zB,zI,wK,wL] at hq)|refine wA ?_|refine wB ?_|refine wC ?_|refine wD ?_|refine wE ?_)|((with_reducible refine wN ?_ ?_);focus exact needA)|(with_reducible refine wG ?_)|(with_reducible refine wP ?_)))
   all_goals (try conv=>whnf)
   refine FLoop.of (ACalls.mono _) (X:=Nat) (fun i=>[(0,.ptr 0 0),(1,AI (min most (s.A r0 c0))),(5,AI d),(7,AI k),(8,aCh s.R (p.drop i))]) (fun i=>[.box 5 (ofL [iSt f s z em m,.own 1 3,AI r0,AI c0,AI (-1)]),.rwg 3 1 (fun k _=>match k with|0=>.own 2 s.C|1=>.own 3 s.C|_=>.own 4 s.C),rowF s.C ((pushF s.R p k x i) 0),rowF s.C ((pushF s.R p k x i) 1),rowF s.C ((pushF s.R p k x i) 2)]) (fun i=>i + 1 ≤ p.length) (fun i=>p.length - 1 - i) 0 ⟨by rw [← hp];simp,[0,1,2,3,4],(wO rfl rfl rfl (wV rfl LnB.A (wV rfl (LnB.rwg3 (Ln.ownE rfl rfl) (Ln.ownE rfl rfl) (Ln.ownE rfl rfl) (Nat.le_refl _)) (wV rfl (LnB.offR fun j=>pushF_zero _ _ _ _ _ _) (wV rfl (LnB.offR fun j=>pushF_zero _ _ _ _ _ _) (wV rfl (LnB.offR fun j=>pushF_zero _ _ _ _ _ _) wX)))))),⟨Ln.A,Ln.A,Ln.A,Ln.int (by omega),Ln.le _ _ True.intro (LeV.of (by rw [← hp];exact aCh_col s.R c0 v0 pr)),True.intro⟩⟩ ?_
   intro i hi
   have C:Chn (gPr s m r0 c0 x false) r0 p:=by have C2:=C;rw [hp] at C2;exact C2
   have hpl9:p.length ≤ 1000:=by
    have h2:(p.map (·.1)).length ≤ (List.range (s.R + s.C)).length:=pig C.nod fun y hy=>by
     obtain ⟨q,hq,rfl⟩:=List.mem_map.1 hy
     have:q.1 < s.R + s.C:=C.lt q hq
     exact List.mem_range.2 (by omega)
    rw [List.length_map,List.length_range] at h2
    omega
   have hhd:(p.head C.ne).2 = v0:=by subst hp;rfl
   have hhd1:(p.head C.ne).1 = s.R + c0:=by subst hp;rfl
   by_cases hi2:i + 1 + 1 ≤ p.length
   ·obtain ⟨⟨a,va⟩,⟨b,vb⟩,t,hdr⟩:=drop_two hi2
    have ha1:atW p i = a:=atW_drop hdr
    have hb1:atW p (i + 1) = b:=atW_drop1 hdr
    have hadj:=C.adj (j:=i) (by omega)
    rw [ha1,hb1] at hadj
    have hbN:b < s.R + s.C:=by rw [← hb1];exact atW_lt C (by omega)
    have haN:a < s.R + s.C:=by rw [← ha1];exact atW_lt C (by omega)
    have hnx0:p.drop (i + 1) = (b,vb) :: t:=drop_next hdr
    rw [hdr]
    rcases (al_d (adj_d hadj).1).1 with ⟨x1,x2⟩|⟨x1,x2⟩
    ·have x1:b < s.R:=x1
     have x2:s.R ≤ a:=x2
     have hstp:=fun r=>push_rc (g:=k) x hb1 ha1 x1 x2 r
     have e1:=aCh_col s.R (a - s.R) va ((b,vb) :: t)
     rw [show s.R + (a - s.R) = a by omega] at e1
     have e2:=aCh_row x1 vb t
     rw [e1,e2]
     have hnx:aCh s.R (p.drop (i + 1)) = .ip 4 (ofL [.bool true,AI b,aCh s.R t,AI vb]) 0:=by rw [hnx0,e2]
     have h0:b = 0 ∨ b = 1 ∨ b = 2:=by omega
     rcases h0 with h0|h0|h0
     ·have hbd:=pushF_bd (R:=s.R) (p:=p) (g:=k) (i:=i) (hx40 0 (a - s.R) (by omega) (by omega)) hk
      (repeat' ((try conv=>whnf);first|(with_reducible refine FIdx.eqN 0 (by omega) (by omega) ?_)|(with_reducible refine FIdx.eqN 1 (by omega) (by omega) ?_)|(with_reducible refine FIdx.eqN 2 (by omega) (by omega) ?_)|(with_reducible first|refine wT ?_|refine wF ?_|(refine wI (fun hq=>?_) (fun hq=>?_) <;> try simp only [zA,zE,zD,zJ,zB,zI,wK,wL] at hq)|refine wA ?_|refine wB ?_|refine wC ?_|refine wD ?_|refine wE ?_)|((with_reducible refine wN ?_ ?_);focus exact needA)|(with_reducible refine wG ?_)|(with_reducible refine wP ?_)))
      all_goals (try conv=>whnf)
      exact ⟨⟨i + 1,hi2,by show p.length - 1 - (i + 1) < p.length - 1 - i;omega,[0,1,2,3,4],(wO rfl rfl rfl (wV rfl LnB.A (wV rfl (LnB.rwg3 (Ln.ownE rfl rfl) (Ln.ownE rfl rfl) (Ln.ownE rfl rfl) (Nat.le_refl _)) (wV rfl (LnB.hitR (hitV (hstp 0) h0.symm (by omega) (by omega))) (wV rfl (LnB.offR (off1 (hstp 1) (by omega))) (wV rfl (LnB.offR (off1 (hstp 2) (by omega))) wX)))))),⟨Ln.A,Ln.A,Ln.A,Ln.A,Ln.le _ _ True.intro (LeV.of hnx),True.intro⟩⟩⟩
     ·have hbd:=pushF_bd (R:=s.R) (p:=p) (g:=k) (i:=i) (hx40 1 (a - s.R) (by omega) (by omega)) hk
      (repeat' ((try conv=>whnf);first|(with_reducible refine FIdx.eqN 0 (by omega) (by omega) ?_)|(with_reducible refine FIdx.eqN 1 (by omega) (by omega) ?_)|(with_reducible refine FIdx.eqN 2 (by omega) (by omega) ?_)|(with_reducible first|refine wT ?_|refine wF ?_|(refine wI (fun hq=>?_) (fun hq=>?_) <;> try simp only [zA,zE,zD,zJ,zB,zI,wK,wL] at hq)|refine wA ?_|refine wB ?_|refine wC ?_|refine wD ?_|refine wE ?_)|((with_reducible refine wN ?_ ?_);focus exact needA)|(with_reducible refine wG ?_)|(with_reducible refine wP ?_)))
      all_goals (try conv=>whnf)
      exact ⟨⟨i + 1,hi2,by show p.length - 1 - (i + 1) < p.length - 1 - i;omega,[0,1,2,3,4],(wO rfl rfl rfl (wV rfl LnB.A (wV rfl (LnB.rwg3 (Ln.ownE rfl rfl) (Ln.ownE rfl rfl) (Ln.ownE rfl rfl) (Nat.le_refl _)) (wV rfl (LnB.offR (off1 (hstp 0) (by omega))) (wV rfl (LnB.hitR (hitV (hstp 1) h0.symm (by omega) (by omega))) (wV rfl (LnB.offR (off1 (hstp 2) (by omega))) wX)))))),⟨Ln.A,Ln.A,Ln.A,Ln.A,Ln.le _ _ True.intro (LeV.of hnx),True.intro⟩⟩⟩
     ·have hbd:=pushF_bd (R:=s.R) (p:=p) (g:=k) (i:=i) (hx40 2 (a - s.R) (by omega) (by omega)) hk
      (repeat' ((try conv=>whnf);first|(with_reducible refine FIdx.eqN 0 (by omega) (by omega) ?_)|(with_reducible refine FIdx.eqN 1 (by omega) (by omega) ?_)|(with_reducible refine FIdx.eqN 2 (by omega) (by omega) ?_)|(with_reducible first|refine wT ?_|refine wF ?_|(refine wI (fun hq=>?_) (fun hq=>?_) <;> try simp only [zA,zE,zD,zJ,zB,zI,wK,wL] at hq)|refine wA ?_|refine wB ?_|refine wC ?_|refine wD ?_|refine wE ?_)|((with_reducible refine wN ?_ ?_);focus exact needA)|(with_reducible refine wG ?_)|(with_reducible refine wP ?_)))
      all_goals (try conv=>whnf)
      exact ⟨⟨i + 1,hi2,by show p.length - 1 - (i + 1) < p.length - 1 - i;omega,[0,1,2,3,4],(wO rfl rfl rfl (wV rfl LnB.A (wV rfl (LnB.rwg3 (Ln.ownE rfl rfl) (Ln.ownE rfl rfl) (Ln.ownE rfl rfl) (Nat.le_refl _)) (wV rfl (LnB.offR (off1 (hstp 0) (by omega))) (wV rfl (LnB.offR (off1 (hstp 1) (by omega))) (wV rfl (LnB.hitR (hitV (hstp 2) h0.symm (by omega) (by omega))) wX)))))),⟨Ln.A,Ln.A,Ln.A,Ln.A,Ln.le _ _ True.intro (LeV.of hnx),True.intro⟩⟩⟩
    ·have x1:s.R ≤ b:=x1
     have x2:a < s.R:=x2
     have hstp:=fun r=>push_cr (g:=k) x hb1 ha1 x1 x2 r
     have e1:=aCh_row x2 va ((b,vb) :: t)
     have e2:=aCh_col s.R (b - s.R) vb t
     rw [show s.R + (b - s.R) = b by omega] at e2
     rw [e1,e2]
     have hnx:aCh s.R (p.drop (i + 1)) = .ip 4 (ofL [.bool false,AI (b - s.R:Nat),aCh s.R t,AI vb]) 0:=by rw [hnx0,e2]
     have h0:a = 0 ∨ a = 1 ∨ a = 2:=by omega
     rcases h0 with h0|h0|h0
     ·have hbd:=pushF_bd (R:=s.R) (p:=p) (g:=k) (i:=i) (hx40 0 (b - s.R) (by omega) (by omega)) hk
      (repeat' ((try conv=>whnf);first|(with_reducible refine FIdx.eqN 0 (by omega) (by omega) ?_)|(with_reducible refine FIdx.eqN 1 (by omega) (by omega) ?_)|(with_reducible refine FIdx.eqN 2 (by omega) (by omega) ?_)|(with_reducible first|refine wT ?_|refine wF ?_|(refine wI (fun hq=>?_) (fun hq=>?_) <;> try simp only [zA,zE,zD,zJ,zB,zI,wK,wL] at hq)|refine wA ?_|refine wB ?_|refine wC ?_|refine wD ?_|refine wE ?_)|((with_reducible refine wN ?_ ?_);focus exact needA)|(with_reducible refine wG ?_)|(with_reducible refine wP ?_)))
      all_goals (try conv=>whnf)
      exact ⟨⟨i + 1,hi2,by show p.length - 1 - (i + 1) < p.length - 1 - i;omega,[0,1,2,3,4],(wO rfl rfl rfl (wV rfl LnB.A (wV rfl (LnB.rwg3 (Ln.ownE rfl rfl) (Ln.ownE rfl rfl) (Ln.ownE rfl rfl) (Nat.le_refl _)) (wV rfl (LnB.hitR (hitV (hstp 0) h0.symm (by omega) (by omega))) (wV rfl (LnB.offR (off1 (hstp 1) (by omega))) (wV rfl (LnB.offR (off1 (hstp 2) (by omega))) wX)))))),⟨Ln.A,Ln.A,Ln.A,Ln.A,Ln.le _ _ True.intro (LeV.of hnx),True.intro⟩⟩⟩
     ·have hbd:=pushF_bd (R:=s.R) (p:=p) (g:=k) (i:=i) (hx40 1 (b - s.R) (by omega) (by omega)) hk
      (repeat' ((try conv=>whnf);first|(with_reducible refine FIdx.eqN 0 (by omega) (by omega) ?_)|(with_reducible refine FIdx.eqN 1 (by omega) (by omega) ?_)|(with_reducible refine FIdx.eqN 2 (by omega) (by omega) ?_)|(with_reducible first|refine wT ?_|refine wF ?_|(refine wI (fun hq=>?_) (fun hq=>?_) <;> try simp only [zA,zE,zD,zJ,zB,zI,wK,wL] at hq)|refine wA ?_|refine wB ?_|refine wC ?_|refine wD ?_|refine wE ?_)|((with_reducible refine wN ?_ ?_);focus exact needA)|(with_reducible refine wG ?_)|(with_reducible refine wP ?_)))
      all_goals (try conv=>whnf)
      exact ⟨⟨i + 1,hi2,by show p.length - 1 - (i + 1) < p.length - 1 - i;omega,[0,1,2,3,4],(wO rfl rfl rfl (wV rfl LnB.A (wV rfl (LnB.rwg3 (Ln.ownE rfl rfl) (Ln.ownE rfl rfl) (Ln.ownE rfl rfl) (Nat.le_refl _)) (wV rfl (LnB.offR (off1 (hstp 0) (by omega))) (wV rfl (LnB.hitR (hitV (hstp 1) h0.symm (by omega) (by omega))) (wV rfl (LnB.offR (off1 (hstp 2) (by omega))) wX)))))),⟨Ln.A,Ln.A,Ln.A,Ln.A,Ln.le _ _ True.intro (LeV.of hnx),True.intro⟩⟩⟩
     ·have hbd:=pushF_bd (R:=s.R) (p:=p) (g:=k) (i:=i) (hx40 2 (b - s.R) (by omega) (by omega)) hk
      (repeat' ((try conv=>whnf);first|(with_reducible refine FIdx.eqN 0 (by omega) (by omega) ?_)|(with_reducible refine FIdx.eqN 1 (by omega) (by omega) ?_)|(with_reducible refine FIdx.eqN 2 (by omega) (by omega) ?_)|(with_reducible first|refine wT ?_|refine wF ?_|(refine wI (fun hq=>?_) (fun hq=>?_) <;> try simp only [zA,zE,zD,zJ,zB,zI,wK,wL] at hq)|refine wA ?_|refine wB ?_|refine wC ?_|refine wD ?_|refine wE ?_)|((with_reducible refine wN ?_ ?_);focus exact needA)|(with_reducible refine wG ?_)|(with_reducible refine wP ?_)))
      all_goals (try conv=>whnf)
      exact ⟨⟨i + 1,hi2,by show p.length - 1 - (i + 1) < p.length - 1 - i;omega,[0,1,2,3,4],(wO rfl rfl rfl (wV rfl LnB.A (wV rfl (LnB.rwg3 (Ln.ownE rfl rfl) (Ln.ownE rfl rfl) (Ln.ownE rfl rfl) (Nat.le_refl _)) (wV rfl (LnB.offR (off1 (hstp 0) (by omega))) (wV rfl (LnB.offR (off1 (hstp 1) (by omega))) (wV rfl (LnB.hitR (hitV (hstp 2) h0.symm (by omega) (by omega))) wX)))))),⟨Ln.A,Ln.A,Ln.A,Ln.A,Ln.le _ _ True.intro (LeV.of hnx),True.intro⟩⟩⟩
   ·obtain ⟨⟨a,va⟩,hdr⟩:=drop_one (show p.length = i + 1 by omega)
    have har:a = r0:=by
     have h5:=(chn_last C (show i < p.length by omega)).2 (by omega)
     rw [show (p.getD i (0,0)).1 = atW p i from rfl,atW_drop hdr] at h5
     exact h5
    rw [hdr,har,aCh_row hr0]
    have hpl:p.length - 1 = i:=by omega
    have hW:=C.way rfl rfl (s:=s) (down:=true) (t:=s.R + c0) rfl rfl hr0 hhd1
    have hAg:=hx.shift (g:=k) hW hr0 hc0 ho (fun _ r c hm'=>by have h1:=C.cap_col rfl hm';rw [hhd] at h1;show k ≤ x r c;have h1:v0 ≤ x r c:=h1;omega) (fun h=>absurd h (by omega)) (by show 0 ≤ x r0 c0 + k * _;simp;omega)
    have hLe:=lastP_eq (R:=s.R) (p:=p) (x:=x) (r0:=r0) (c0:=c0) (g:=k) (n:=i) hpl
    have hat:=shift_at hW k
    have hAg:Ag s m (lastP s.R p k x r0 c0 ((-1) * k) ):=by
     have e5:lastP s.R p k x r0 c0 ((-1) * k) = fun r c=>x r c + wayD true (nds s.R p) r0 c0 k r c:=by rw [← hLe];congr 1;omega
     rw [e5];exact hAg
    have hL0:lastP s.R p k x r0 c0 ((-1) * k) r0 c0 = x r0 c0 + (-1) * k:=by
     have e5:lastP s.R p k x r0 c0 ((-1) * k) = fun r c=>x r c + wayD true (nds s.R p) r0 c0 k r c:=by rw [← hLe];congr 1;omega
     rw [e5]
     show x r0 c0 + wayD true (nds s.R p) r0 c0 k r0 c0 = _
     have hat2:wayD true (nds s.R p) r0 c0 k r0 c0 = k * (if true = true then -1 else 1):=hat
     rw [hat2];simp
    have hbd:=pushF_bd (R:=s.R) (p:=p) (g:=k) (i:=i) (hx40 r0 c0 hr0 hc0) (by omega)
    have hlf:∀ r j,lastP s.R p k x r0 c0 ((-1) * k) r j = if r = r0 ∧ j = c0 then pushF s.R p k x i r j + (-1) * k else pushF s.R p k x i r j:=fun r j=>by unfold lastP;rw [hpl]
    have h0:r0 = 0 ∨ r0 = 1 ∨ r0 = 2:=by omega
    rcases h0 with rfl|rfl|rfl
    ·(repeat' ((try conv=>whnf);first|(with_reducible first|refine wT ?_|refine wF ?_|(refine wI (fun hq=>?_) (fun hq=>?_) <;> try simp only [zA,zE,zD,zJ,zB,zI,wK,wL] at hq)|refine wA ?_|refine wB ?_|refine wC ?_|refine wD ?_|refine wE ?_)|((with_reducible refine wN ?_ ?_);focus exact needA)|(with_reducible refine wG ?_)|(with_reducible refine wP ?_)))
     all_goals (try conv=>whnf)
     exact ⟨⟨(lastP s.R p k x 0 c0 ((-1) * k),d + k),⟨hAg,by show 0 ≤ d + k;omega,by show d + k ≤ (min most (s.A 0 c0));omega,by show lastP s.R p k x 0 c0 ((-1) * k) 0 c0 = s.A 0 c0 - (d + k);rw [hL0];omega⟩,by show ((min most (s.A 0 c0)) - (d + k)).toNat < ((min most (s.A 0 c0)) - d).toNat;omega,[0,1,2,3,4],(wO rfl rfl rfl (wV rfl LnB.A (wV rfl (LnB.rwg3 (Ln.ownE rfl rfl) (Ln.ownE rfl rfl) (Ln.ownE rfl rfl) (Nat.le_refl _)) (wV rfl (LnB.hitR (hitV (hlf 0) rfl rfl (by omega))) (wV rfl (LnB.offR (off1 (hlf 1) (by decide))) (wV rfl (LnB.offR (off1 (hlf 2) (by decide))) wX)))))),⟨Ln.A,Ln.A,Ln.int rfl,True.intro⟩⟩⟩
    ·(repeat' ((try conv=>whnf);first|(with_reducible first|refine wT ?_|refine wF ?_|(refine wI (fun hq=>?_) (fun hq=>?_) <;> try simp only [zA,zE,zD,zJ,zB,zI,wK,wL] at hq)|refine wA ?_|refine wB ?_|refine wC ?_|refine wD ?_|refine wE ?_)|((with_reducible refine wN ?_ ?_);focus exact needA)|(with_reducible refine wG ?_)|(with_reducible refine wP ?_)))
     all_goals (try conv=>whnf)
     exact ⟨⟨(lastP s.R p k x 1 c0 ((-1) * k),d + k),⟨hAg,by show 0 ≤ d + k;omega,by show d + k ≤ (min most (s.A 1 c0));omega,by show lastP s.R p k x 1 c0 ((-1) * k) 1 c0 = s.A 1 c0 - (d + k);rw [hL0];omega⟩,by show ((min most (s.A 1 c0)) - (d + k)).toNat < ((min most (s.A 1 c0)) - d).toNat;omega,[0,1,2,3,4],(wO rfl rfl rfl (wV rfl LnB.A (wV rfl (LnB.rwg3 (Ln.ownE rfl rfl) (Ln.ownE rfl rfl) (Ln.ownE rfl rfl) (Nat.le_refl _)) (wV rfl (LnB.offR (off1 (hlf 0) (by decide))) (wV rfl (LnB.hitR (hitV (hlf 1) rfl rfl (by omega))) (wV rfl (LnB.offR (off1 (hlf 2) (by decide))) wX)))))),⟨Ln.A,Ln.A,Ln.int rfl,True.intro⟩⟩⟩
    ·(repeat' ((try conv=>whnf);first|(with_reducible first|refine wT ?_|refine wF ?_|(refine wI (fun hq=>?_) (fun hq=>?_) <;> try simp only [zA,zE,zD,zJ,zB,zI,wK,wL] at hq)|refine wA ?_|refine wB ?_|refine wC ?_|refine wD ?_|refine wE ?_)|((with_reducible refine wN ?_ ?_);focus exact needA)|(with_reducible refine wG ?_)|(with_reducible refine wP ?_)))
     all_goals (try conv=>whnf)
     exact ⟨⟨(lastP s.R p k x 2 c0 ((-1) * k),d + k),⟨hAg,by show 0 ≤ d + k;omega,by show d + k ≤ (min most (s.A 2 c0));omega,by show lastP s.R p k x 2 c0 ((-1) * k) 2 c0 = s.A 2 c0 - (d + k);rw [hL0];omega⟩,by show ((min most (s.A 2 c0)) - (d + k)).toNat < ((min most (s.A 2 c0)) - d).toNat;omega,[0,1,2,3,4],(wO rfl rfl rfl (wV rfl LnB.A (wV rfl (LnB.rwg3 (Ln.ownE rfl rfl) (Ln.ownE rfl rfl) (Ln.ownE rfl rfl) (Nat.le_refl _)) (wV rfl (LnB.offR (off1 (hlf 0) (by decide))) (wV rfl (LnB.offR (off1 (hlf 1) (by decide))) (wV rfl (LnB.hitR (hitV (hlf 2) rfl rfl (by omega))) wX)))))),⟨Ln.A,Ln.A,Ln.int rfl,True.intro⟩⟩⟩
 ·have hdE:d = (min most (s.A r0 c0)):=by omega
  (repeat' ((try conv=>whnf);first|(with_reducible first|refine wT ?_|refine wF ?_|(refine wI (fun hq=>?_) (fun hq=>?_) <;> try simp only [zA,zE,zD,zJ,zB,zI,wK,wL] at hq)|refine wA ?_|refine wB ?_|refine wC ?_|refine wD ?_|refine wE ?_)|((with_reducible refine wN ?_ ?_);focus exact needA)|(with_reducible refine wG ?_)|(with_reducible refine wP ?_)))
  all_goals (try conv=>whnf)
  exact ⟨⟨AI d,[.box 5 (ofL [iSt f s z em m,.own 1 3,AI r0,AI c0,AI (-1)]),.rwg 3 1 (fun k _=>match k with|0=>.own 2 s.C|1=>.own 3 s.C|_=>.own 4 s.C),rowF s.C (x 0),rowF s.C (x 1),rowF s.C (x 2)],[0,1,2,3,4],(wO rfl rfl rfl (wV rfl LnB.A (wV rfl (LnB.rwg3 (Ln.ownE rfl rfl) (Ln.ownE rfl rfl) (Ln.ownE rfl rfl) (Nat.le_refl _)) (wV rfl LnB.A (wV rfl LnB.A (wV rfl LnB.A wX)))))),Ln.A,x,d,rfl,rfl,hx,⟨hd0,hd1⟩,(fun h=>by cases h),fun _=>hxd,.inl hdE⟩⟩
end Go.Proofs.Ytlffjnmbpoemnaa

namespace Go.Proofs.Ytlffjnmbpoemnaa
open Go.RowKit

theorem push_lo {s:Sheet} {m:List Int} {r c:Nat} (hr:r < s.R) (hc:c < s.C) {y:Nat → Nat → Int} {d:Int} {most:Int} (hm:s.A r c ≤ most) (h:PushOut s m r c false (min most (s.A r c)) y d):loV s m r c = s.A r c - d:=by
 obtain ⟨hy,hd,_,h2,h3⟩:=h
 have h2:=h2 rfl
 refine IsLo.eq ⟨⟨y,hy,h2⟩,fun w hw=>?_⟩
 rcases h3 with h3|h3
 ·have:=hw.nn r c hr hc;omega
 ·have:=h3.2 rfl w hw;omega
theorem push_hi {s:Sheet} (hs:SheetOk s) {m:List Int} {r c:Nat} (hr:r < s.R) (hc:c < s.C) {y:Nat → Nat → Int} {d:Int} {most:Int} (hm:40000 < most) (h:PushOut s m r c true most y d):hiV s m r c = s.A r c + d:=by
 obtain ⟨hy,hd,h1,_,h3⟩:=h
 have h1:=h1 rfl
 refine IsHi.eq ⟨⟨y,hy,h1⟩,fun w hw=>?_⟩
 rcases h3 with h3|h3
 ·have:=hy.le hs hr hc
  have:=hs.amt r c hr hc
  omega
 ·have:=h3.1 rfl w hw;omega
set_option maxHeartbeats 16000000
set_option maxRecDepth 100000
theorem span1 (f:ShF) (s:Sheet) (hs:SheetOk s) (z em:Bool) (m:List Int) (hm:MaskOk s m) (r0 c0:Nat) (hr0:r0 < s.R) (hc0:c0 < s.C) (ho:outS m r0 c0 = true) (hR:s.R = 1):ACall Try.prog 49 [iSt f s z em m,AI r0,AI c0] [] (fun v h=>v = spanA (loV s m r0 c0) (hiV s m r0 c0) ∧ h = []):=by
 have c4:=hs.c4
 have hml:=hm.len
 have hR':s.amounts.length = 1:=hR
 have hrow:=hs.row r0 hr0
 have hA0:0 ≤ (s.amounts.getD r0 []).getD c0 0 ∧ (s.amounts.getD r0 []).getD c0 0 ≤ 10000:=hs.amt r0 c0 hr0 hc0
 have hAA:s.A r0 c0 = (s.amounts.getD r0 []).getD c0 0:=rfl
 have cO:=outP_ok f s z em m r0 c0 (by omega) (hm.bd r0 hr0).1 (by omega)
 rw [ho] at cO
 have cb1:=begin_ok f s hs (by omega) z em m r0 c0 (-1)
 have cb2:=begin_ok f s hs (by omega) z em m r0 c0 1
 rw [hR] at cb1 cb2
 (refine fcall_of mixed Try.func49 rfl (by decide) (hs:={}) ?k (ac:=?ac) ?c (rs:=?rs) ?r ?l ?H;(case k=>kernel_rfl);(case c=>(conv=>(lhs;cbv)));(case r=>(conv=>(lhs;cbv)));(case l=>exact Nat.le_of_ble_eq_true rfl))
 (repeat' ((try conv=>whnf);first|(with_reducible first|refine wT ?_|refine wF ?_|(refine wI (fun hq=>?_) (fun hq=>?_) <;> try simp only [zA,zE,zD,zJ,zB,zI,wK,wL] at hq)|refine wA ?_|refine wB ?_|refine wC ?_|refine wD ?_|refine wE ?_)|((with_reducible refine wN ?_ ?_);focus exact needA)|(with_reducible refine wG ?_)|(refine FCall.pure (cO) ⟨Ln.sameB _ rfl,Ln.sameB _ rfl,Ln.sameB _ rfl,True.intro⟩ rfl ?_)|(with_reducible refine wP ?_)))
 all_goals (try conv=>whnf)
 ((refine FCall.give [] [] (cb1) rfl rfl True.intro ⟨Ln.A,Ln.A,Ln.A,Ln.A,True.intro⟩ ?_);rintro _ _ ⟨rfl,rfl⟩;(refine ⟨by first|exact Nat.le_of_ble_eq_true rfl|omega,.inl rfl,?_⟩))
 (repeat' ((try conv=>whnf);first|(with_reducible first|refine wT ?_|refine wF ?_|(refine wI (fun hq=>?_) (fun hq=>?_) <;> try simp only [zA,zE,zD,zJ,zB,zI,wK,wL] at hq)|refine wA ?_|refine wB ?_|refine wC ?_|refine wD ?_|refine wE ?_)|((with_reducible refine wN ?_ ?_);focus exact needA)|(with_reducible refine wG ?_)|(with_reducible refine wP ?_)))
 all_goals (try conv=>whnf)
 refine FCall.give [1,2,3] [] (push1D f s hs z em m hm r0 c0 hr0 hc0 ho 160000 (by decide) hR) rfl rfl ⟨⟨_,rfl,trivial,LnB.boxN ⟨⟨⟨⟨⟨True.intro,Ln.A⟩,Ln.ownE rfl rfl⟩,Ln.A⟩,Ln.A⟩,Ln.A⟩⟩,⟨_,rfl,trivial,LnB.rwg1 (Ln.ownE rfl rfl) (Nat.le_refl _)⟩,⟨_,rfl,trivial,LnB.A⟩,True.intro⟩ ⟨Ln.A,Ln.A,True.intro⟩ ?_
 rintro _ _ ⟨y1,d1,rfl,rfl,hP1⟩
 refine ⟨Nat.le_of_ble_eq_true rfl,.inl rfl,?_⟩
 have e1:=push_lo hr0 hc0 (by omega) hP1
 have b1:=hP1.2.1
 (repeat' ((try conv=>whnf);first|(with_reducible first|refine wT ?_|refine wF ?_|(refine wI (fun hq=>?_) (fun hq=>?_) <;> try simp only [zA,zE,zD,zJ,zB,zI,wK,wL] at hq)|refine wA ?_|refine wB ?_|refine wC ?_|refine wD ?_|refine wE ?_)|((with_reducible refine wN ?_ ?_);focus exact needA)|(with_reducible refine wG ?_)|(with_reducible refine wP ?_)))
 all_goals (try conv=>whnf)
 ((refine FCall.give [] [] (cb2) rfl rfl True.intro ⟨Ln.A,Ln.A,Ln.A,Ln.A,True.intro⟩ ?_);rintro _ _ ⟨rfl,rfl⟩;(refine ⟨by first|exact Nat.le_of_ble_eq_true rfl|omega,.inl rfl,?_⟩))
 (repeat' ((try conv=>whnf);first|(with_reducible first|refine wT ?_|refine wF ?_|(refine wI (fun hq=>?_) (fun hq=>?_) <;> try simp only [zA,zE,zD,zJ,zB,zI,wK,wL] at hq)|refine wA ?_|refine wB ?_|refine wC ?_|refine wD ?_|refine wE ?_)|((with_reducible refine wN ?_ ?_);focus exact needA)|(with_reducible refine wG ?_)|(with_reducible refine wP ?_)))
 all_goals (try conv=>whnf)
 refine FCall.give [4,5,6] [] (push1U f s hs z em m hm r0 c0 hr0 hc0 ho 160000 (by decide) hR) rfl rfl ⟨⟨_,rfl,trivial,LnB.boxN ⟨⟨⟨⟨⟨True.intro,Ln.A⟩,Ln.ownE rfl rfl⟩,Ln.A⟩,Ln.A⟩,Ln.A⟩⟩,⟨_,rfl,trivial,LnB.rwg1 (Ln.ownE rfl rfl) (Nat.le_refl _)⟩,⟨_,rfl,trivial,LnB.A⟩,True.intro⟩ ⟨Ln.A,Ln.A,True.intro⟩ ?_
 rintro _ _ ⟨y2,d2,rfl,rfl,hP2⟩
 refine ⟨Nat.le_of_ble_eq_true rfl,.inl rfl,?_⟩
 have e2:=push_hi hs hr0 hc0 (by omega) hP2
 have b2:=hP2.2.1
 (repeat' ((try conv=>whnf);first|(with_reducible first|refine wT ?_|refine wF ?_|(refine wI (fun hq=>?_) (fun hq=>?_) <;> try simp only [zA,zE,zD,zJ,zB,zI,wK,wL] at hq)|refine wA ?_|refine wB ?_|refine wC ?_|refine wD ?_|refine wE ?_)|((with_reducible refine wN ?_ ?_);focus exact needA)|(with_reducible refine wG ?_)|(with_reducible refine wP ?_)))
 all_goals (try conv=>whnf)
 rw [e1,e2]
 (refine ⟨⟨_,[],[],Cut.nil _,Ln.sameB _ rfl,?_,rfl⟩⟩)
 rfl
theorem span2 (f:ShF) (s:Sheet) (hs:SheetOk s) (z em:Bool) (m:List Int) (hm:MaskOk s m) (r0 c0:Nat) (hr0:r0 < s.R) (hc0:c0 < s.C) (ho:outS m r0 c0 = true) (hR:s.R = 2):ACall Try.prog 49 [iSt f s z em m,AI r0,AI c0] [] (fun v h=>v = spanA (loV s m r0 c0) (hiV s m r0 c0) ∧ h = []):=by
 have c4:=hs.c4
 have hml:=hm.len
 have hR':s.amounts.length = 2:=hR
 have hrow:=hs.row r0 hr0
 have hA0:0 ≤ (s.amounts.getD r0 []).getD c0 0 ∧ (s.amounts.getD r0 []).getD c0 0 ≤ 10000:=hs.amt r0 c0 hr0 hc0
 have hAA:s.A r0 c0 = (s.amounts.getD r0 []).getD c0 0:=rfl
 have cO:=outP_ok f s z em m r0 c0 (by omega) (hm.bd r0 hr0).1 (by omega)
 rw [ho] at cO
 have cb1:=begin_ok f s hs (by omega) z em m r0 c0 (-1)
 have cb2:=begin_ok f s hs (by omega) z em m r0 c0 1
 rw [hR] at cb1 cb2
 (refine fcall_of mixed Try.func49 rfl (by decide) (hs:={}) ?k (ac:=?ac) ?c (rs:=?rs) ?r ?l ?H;(case k=>kernel_rfl);(case c=>(conv=>(lhs;cbv)));(case r=>(conv=>(lhs;cbv)));(case l=>exact Nat.le_of_ble_eq_true rfl))
 (repeat' ((try conv=>whnf);first|(with_reducible first|refine wT ?_|refine wF ?_|(refine wI (fun hq=>?_) (fun hq=>?_) <;> try simp only [zA,zE,zD,zJ,zB,zI,wK,wL] at hq)|refine wA ?_|refine wB ?_|refine wC ?_|refine wD ?_|refine wE ?_)|((with_reducible refine wN ?_ ?_);focus exact needA)|(with_reducible refine wG ?_)|(refine FCall.pure (cO) ⟨Ln.sameB _ rfl,Ln.sameB _ rfl,Ln.sameB _ rfl,True.intro⟩ rfl ?_)|(with_reducible refine wP ?_)))
 all_goals (try conv=>whnf)
 ((refine FCall.give [] [] (cb1) rfl rfl True.intro ⟨Ln.A,Ln.A,Ln.A,Ln.A,True.intro⟩ ?_);rintro _ _ ⟨rfl,rfl⟩;(refine ⟨by first|exact Nat.le_of_ble_eq_true rfl|omega,.inl rfl,?_⟩))
 (repeat' ((try conv=>whnf);first|(with_reducible first|refine wT ?_|refine wF ?_|(refine wI (fun hq=>?_) (fun hq=>?_) <;> try simp only [zA,zE,zD,zJ,zB,zI,wK,wL] at hq)|refine wA ?_|refine wB ?_|refine wC ?_|refine wD ?_|refine wE ?_)|((with_reducible refine wN ?_ ?_);focus exact needA)|(with_reducible refine wG ?_)|(with_reducible refine wP ?_)))
 all_goals (try conv=>whnf)
 refine FCall.give [1,2,3,4] [] (push2D f s hs z em m hm r0 c0 hr0 hc0 ho 160000 (by decide) hR) rfl rfl ⟨⟨_,rfl,trivial,LnB.boxN ⟨⟨⟨⟨⟨True.intro,Ln.A⟩,Ln.ownE rfl rfl⟩,Ln.A⟩,Ln.A⟩,Ln.A⟩⟩,⟨_,rfl,trivial,LnB.rwg2 (Ln.ownE rfl rfl) (Ln.ownE rfl rfl) (Nat.le_refl _)⟩,⟨_,rfl,trivial,LnB.A⟩,⟨_,rfl,trivial,LnB.A⟩,True.intro⟩ ⟨Ln.A,Ln.A,True.intro⟩ ?_
 rintro _ _ ⟨y1,d1,rfl,rfl,hP1⟩
 refine ⟨Nat.le_of_ble_eq_true rfl,.inl rfl,?_⟩
 have e1:=push_lo hr0 hc0 (by omega) hP1
 have b1:=hP1.2.1
 (repeat' ((try conv=>whnf);first|(with_reducible first|refine wT ?_|refine wF ?_|(refine wI (fun hq=>?_) (fun hq=>?_) <;> try simp only [zA,zE,zD,zJ,zB,zI,wK,wL] at hq)|refine wA ?_|refine wB ?_|refine wC ?_|refine wD ?_|refine wE ?_)|((with_reducible refine wN ?_ ?_);focus exact needA)|(with_reducible refine wG ?_)|(with_reducible refine wP ?_)))
 all_goals (try conv=>whnf)
 ((refine FCall.give [] [] (cb2) rfl rfl True.intro ⟨Ln.A,Ln.A,Ln.A,Ln.A,True.intro⟩ ?_);rintro _ _ ⟨rfl,rfl⟩;(refine ⟨by first|exact Nat.le_of_ble_eq_true rfl|omega,.inl rfl,?_⟩))
 (repeat' ((try conv=>whnf);first|(with_reducible first|refine wT ?_|refine wF ?_|(refine wI (fun hq=>?_) (fun hq=>?_) <;> try simp only [zA,zE,zD,zJ,zB,zI,wK,wL] at hq)|refine wA ?_|refine wB ?_|refine wC ?_|refine wD ?_|refine wE ?_)|((with_reducible refine wN ?_ ?_);focus exact needA)|(with_reducible refine wG ?_)|(with_reducible refine wP ?_)))
 all_goals (try conv=>whnf)
 refine FCall.give [5,6,7,8] [] (push2U f s hs z em m hm r0 c0 hr0 hc0 ho 160000 (by decide) hR) rfl rfl ⟨⟨_,rfl,trivial,LnB.boxN ⟨⟨⟨⟨⟨True.intro,Ln.A⟩,Ln.ownE rfl rfl⟩,Ln.A⟩,Ln.A⟩,Ln.A⟩⟩,⟨_,rfl,trivial,LnB.rwg2 (Ln.ownE rfl rfl) (Ln.ownE rfl rfl) (Nat.le_refl _)⟩,⟨_,rfl,trivial,LnB.A⟩,⟨_,rfl,trivial,LnB.A⟩,True.intro⟩ ⟨Ln.A,Ln.A,True.intro⟩ ?_
 rintro _ _ ⟨y2,d2,rfl,rfl,hP2⟩
 refine ⟨Nat.le_of_ble_eq_true rfl,.inl rfl,?_⟩
 have e2:=push_hi hs hr0 hc0 (by omega) hP2
 have b2:=hP2.2.1
 (repeat' ((try conv=>whnf);first|(with_reducible first|refine wT ?_|refine wF ?_|(refine wI (fun hq=>?_) (fun hq=>?_) <;> try simp only [zA,zE,zD,zJ,zB,zI,wK,wL] at hq)|refine wA ?_|refine wB ?_|refine wC ?_|refine wD ?_|refine wE ?_)|((with_reducible refine wN ?_ ?_);focus exact needA)|(with_reducible refine wG ?_)|(with_reducible refine wP ?_)))
 all_goals (try conv=>whnf)
 rw [e1,e2]
 (refine ⟨⟨_,[],[],Cut.nil _,Ln.sameB _ rfl,?_,rfl⟩⟩)
 rfl
theorem span3 (f:ShF) (s:Sheet) (hs:SheetOk s) (z em:Bool) (m:List Int) (hm:MaskOk s m) (r0 c0:Nat) (hr0:r0 < s.R) (hc0:c0 < s.C) (ho:outS m r0 c0 = true) (hR:s.R = 3):ACall Try.prog 49 [iSt f s z em m,AI r0,AI c0] [] (fun v h=>v = spanA (loV s m r0 c0) (hiV s m r0 c0) ∧ h = []):=by
 have c4:=hs.c4
 have hml:=hm.len
 have hR':s.amounts.length = 3:=hR
 have hrow:=hs.row r0 hr0
 have hA0:0 ≤ (s.amounts.getD r0 []).getD c0 0 ∧ (s.amounts.getD r0 []).getD c0 0 ≤ 10000:=hs.amt r0 c0 hr0 hc0
 have hAA:s.A r0 c0 = (s.amounts.getD r0 []).getD c0 0:=rfl
 have cO:=outP_ok f s z em m r0 c0 (by omega) (hm.bd r0 hr0).1 (by omega)
 rw [ho] at cO
 have cb1:=begin_ok f s hs (by omega) z em m r0 c0 (-1)
 have cb2:=begin_ok f s hs (by omega) z em m r0 c0 1
 rw [hR] at cb1 cb2
 (refine fcall_of mixed Try.func49 rfl (by decide) (hs:={}) ?k (ac:=?ac) ?c (rs:=?rs) ?r ?l ?H;(case k=>kernel_rfl);(case c=>(conv=>(lhs;cbv)));(case r=>(conv=>(lhs;cbv)));(case l=>exact Nat.le_of_ble_eq_true rfl))
 (repeat' ((try conv=>whnf);first|(with_reducible first|refine wT ?_|refine wF ?_|(refine wI (fun hq=>?_) (fun hq=>?_) <;> try simp only [zA,zE,zD,zJ,zB,zI,wK,wL] at hq)|refine wA ?_|refine wB ?_|refine wC ?_|refine wD ?_|refine wE ?_)|((with_reducible refine wN ?_ ?_);focus exact needA)|(with_reducible refine wG ?_)|(refine FCall.pure (cO) ⟨Ln.sameB _ rfl,Ln.sameB _ rfl,Ln.sameB _ rfl,True.intro⟩ rfl ?_)|(with_reducible refine wP ?_)))
 all_goals (try conv=>whnf)
 ((refine FCall.give [] [] (cb1) rfl rfl True.intro ⟨Ln.A,Ln.A,Ln.A,Ln.A,True.intro⟩ ?_);rintro _ _ ⟨rfl,rfl⟩;(refine ⟨by first|exact Nat.le_of_ble_eq_true rfl|omega,.inl rfl,?_⟩))
 (repeat' ((try conv=>whnf);first|(with_reducible first|refine wT ?_|refine wF ?_|(refine wI (fun hq=>?_) (fun hq=>?_) <;> try simp only [zA,zE,zD,zJ,zB,zI,wK,wL] at hq)|refine wA ?_|refine wB ?_|refine wC ?_|refine wD ?_|refine wE ?_)|((with_reducible refine wN ?_ ?_);focus exact needA)|(with_reducible refine wG ?_)|(with_reducible refine wP ?_)))
 all_goals (try conv=>whnf)
 refine FCall.give [1,2,3,4,5] [] (push3D f s hs z em m hm r0 c0 hr0 hc0 ho 160000 (by decide) hR) rfl rfl ⟨⟨_,rfl,trivial,LnB.boxN ⟨⟨⟨⟨⟨True.intro,Ln.A⟩,Ln.ownE rfl rfl⟩,Ln.A⟩,Ln.A⟩,Ln.A⟩⟩,⟨_,rfl,trivial,LnB.rwg3 (Ln.ownE rfl rfl) (Ln.ownE rfl rfl) (Ln.ownE rfl rfl) (Nat.le_refl _)⟩,⟨_,rfl,trivial,LnB.A⟩,⟨_,rfl,trivial,LnB.A⟩,⟨_,rfl,trivial,LnB.A⟩,True.intro⟩ ⟨Ln.A,Ln.A,True.intro⟩ ?_
 rintro _ _ ⟨y1,d1,rfl,rfl,hP1⟩
 refine ⟨Nat.le_of_ble_eq_true rfl,.inl rfl,?_⟩
 have e1:=push_lo hr0 hc0 (by omega) hP1
 have b1:=hP1.2.1
 (repeat' ((try conv=>whnf);first|(with_reducible first|refine wT ?_|refine wF ?_|(refine wI (fun hq=>?_) (fun hq=>?_) <;> try simp only [zA,zE,zD,zJ,zB,zI,wK,wL] at hq)|refine wA ?_|refine wB ?_|refine wC ?_|refine wD ?_|refine wE ?_)|((with_reducible refine wN ?_ ?_);focus exact needA)|(with_reducible refine wG ?_)|(with_reducible refine wP ?_)))
 all_goals (try conv=>whnf)
 ((refine FCall.give [] [] (cb2) rfl rfl True.intro ⟨Ln.A,Ln.A,Ln.A,Ln.A,True.intro⟩ ?_);rintro _ _ ⟨rfl,rfl⟩;(refine ⟨by first|exact Nat.le_of_ble_eq_true rfl|omega,.inl rfl,?_⟩))
 (repeat' ((try conv=>whnf);first|(with_reducible first|refine wT ?_|refine wF ?_|(refine wI (fun hq=>?_) (fun hq=>?_) <;> try simp only [zA,zE,zD,zJ,zB,zI,wK,wL] at hq)|refine wA ?_|refine wB ?_|refine wC ?_|refine wD ?_|refine wE ?_)|((with_reducible refine wN ?_ ?_);focus exact needA)|(with_reducible refine wG ?_)|(with_reducible refine wP ?_)))
 all_goals (try conv=>whnf)
 refine FCall.give [6,7,8,9,10] [] (push3U f s hs z em m hm r0 c0 hr0 hc0 ho 160000 (by decide) hR) rfl rfl ⟨⟨_,rfl,trivial,LnB.boxN ⟨⟨⟨⟨⟨True.intro,Ln.A⟩,Ln.ownE rfl rfl⟩,Ln.A⟩,Ln.A⟩,Ln.A⟩⟩,⟨_,rfl,trivial,LnB.rwg3 (Ln.ownE rfl rfl) (Ln.ownE rfl rfl) (Ln.ownE rfl rfl) (Nat.le_refl _)⟩,⟨_,rfl,trivial,LnB.A⟩,⟨_,rfl,trivial,LnB.A⟩,⟨_,rfl,trivial,LnB.A⟩,True.intro⟩ ⟨Ln.A,Ln.A,True.intro⟩ ?_
 rintro _ _ ⟨y2,d2,rfl,rfl,hP2⟩
 refine ⟨Nat.le_of_ble_eq_true rfl,.inl rfl,?_⟩
 have e2:=push_hi hs hr0 hc0 (by omega) hP2
 have b2:=hP2.2.1
 (repeat' ((try conv=>whnf);first|(with_reducible first|refine wT ?_|refine wF ?_|(refine wI (fun hq=>?_) (fun hq=>?_) <;> try simp only [zA,zE,zD,zJ,zB,zI,wK,wL] at hq)|refine wA ?_|refine wB ?_|refine wC ?_|refine wD ?_|refine wE ?_)|((with_reducible refine wN ?_ ?_);focus exact needA)|(with_reducible refine wG ?_)|(with_reducible refine wP ?_)))
 all_goals (try conv=>whnf)
 rw [e1,e2]
 (refine ⟨⟨_,[],[],Cut.nil _,Ln.sameB _ rfl,?_,rfl⟩⟩)
 rfl
theorem span_ok (f:ShF) (s:Sheet) (hs:SheetOk s) (h3:s.R ≤ 3) (z em:Bool) (m:List Int) (hm:MaskOk s m) (r0 c0:Nat) (hr0:r0 < s.R) (hc0:c0 < s.C):ACall Try.prog 49 [iSt f s z em m,AI r0,AI c0] [] (fun v h=>v = spanA (loV s m r0 c0) (hiV s m r0 c0) ∧ h = []):=by
 have r1:=hs.r1
 have hR:s.R = 1 ∨ s.R = 2 ∨ s.R = 3:=by omega
 cases ho:outS m r0 c0
 ·have c4:=hs.c4
  have hml:=hm.len
  have hRl:s.R = s.amounts.length:=rfl
  have hrow:=hs.row r0 hr0
  have cO:=outP_ok f s z em m r0 c0 (by omega) (hm.bd r0 hr0).1 (by omega)
  rw [ho] at cO
  have hlo:=shown_lo hs m hr0 hc0 ho
  rw [hlo.1,hlo.2]
  (refine fcall_of mixed Try.func49 rfl (by decide) (hs:={}) ?k (ac:=?ac) ?c (rs:=?rs) ?r ?l ?H;(case k=>kernel_rfl);(case c=>(conv=>(lhs;cbv)));(case r=>(conv=>(lhs;cbv)));(case l=>exact Nat.le_of_ble_eq_true rfl))
  (repeat' ((try conv=>whnf);first|(with_reducible first|refine wT ?_|refine wF ?_|(refine wI (fun hq=>?_) (fun hq=>?_) <;> try simp only [zA,zE,zD,zJ,zB,zI,wK,wL] at hq)|refine wA ?_|refine wB ?_|refine wC ?_|refine wD ?_|refine wE ?_)|((with_reducible refine wN ?_ ?_);focus exact needA)|(with_reducible refine wG ?_)|(refine FCall.pure (cO) ⟨Ln.sameB _ rfl,Ln.sameB _ rfl,Ln.sameB _ rfl,True.intro⟩ rfl ?_)|(with_reducible refine wP ?_)))
  all_goals (try conv=>whnf)
  (refine ⟨⟨_,[],[],Cut.nil _,Ln.sameB _ rfl,?_,rfl⟩⟩)
  rfl
 ·rcases hR with h|h|h
  ·exact span1 f s hs z em m hm r0 c0 hr0 hc0 ho h
  ·exact span2 f s hs z em m hm r0 c0 hr0 hc0 ho h
  ·exact span3 f s hs z em m hm r0 c0 hr0 hc0 ho h
theorem pRange_ok (f:ShF) (s:Sheet) (hn:Near s) (h3:s.ok = true → s.R ≤ 3) (z e:Bool) (m:List Int) (hm:m.length ≤ 1000) (r c:Int):ACall Try.prog 20 [aSh f s,aInts z e m,AI r,AI c] [] (fun v h=>v = rangeV s m r c ∧ h = []):=by
 have cP:=spot_ok f s hn z e m hm r c
 (refine fcall_of mixed Try.func20 rfl (by decide) (hs:={}) ?k (ac:=?ac) ?c (rs:=?rs) ?r ?l ?H;(case k=>kernel_rfl);(case c=>(conv=>(lhs;cbv)));(case r=>(conv=>(lhs;cbv)));(case l=>exact Nat.le_of_ble_eq_true rfl))
 by_cases h0:checkP s m r c = 0
 ·have hp:=checkP_0 h0
  have hM0:checkM s m = 0:=by unfold checkM;rw [hp.ok,if_pos rfl,if_pos];unfold checkP at h0;by_cases hm0:checkM s m = 0;exact (checkM_0 hm0).2;rw [if_neg hm0] at h0;exact (hm0 h0).elim
  obtain ⟨r',rfl⟩:=Int.eq_ofNat_of_zero_le hp.r.1
  obtain ⟨c',rfl⟩:=Int.eq_ofNat_of_zero_le hp.c.1
  have cS:=span_ok f s hp.sh (h3 hp.ok) z e m hp.m r' c' (by have:=hp.r;omega) (by have:=hp.c;omega)
  rw [show rangeV s m r' c' = .tup 2 (ofL [spanA (loV s m r' c') (hiV s m r' c'),AI 0]) from by unfold rangeV;rw [if_pos h0,h0];rfl]
  rw [show spotV f s z e m r' c' = .tup 2 (ofL [iSt f s z e m,AI 0]) from by unfold spotV;rw [if_pos hM0,h0]] at cP
  (repeat' ((try conv=>whnf);first|(with_reducible first|refine wT ?_|refine wF ?_|(refine wI (fun hq=>?_) (fun hq=>?_) <;> try simp only [zA,zE,zD,zJ,zB,zI,wK,wL] at hq)|refine wA ?_|refine wB ?_|refine wC ?_|refine wD ?_|refine wE ?_)|((with_reducible refine wN ?_ ?_);focus exact needA)|(with_reducible refine wG ?_)|(refine FCall.pure (cP) ⟨Ln.sameB _ rfl,Ln.sameB _ rfl,Ln.sameB _ rfl,Ln.sameB _ rfl,True.intro⟩ rfl ?_)|(refine FCall.pure (cS) ⟨Ln.sameB _ rfl,Ln.sameB _ rfl,Ln.sameB _ rfl,True.intro⟩ rfl ?_)|(with_reducible refine wP ?_)))
  all_goals (try conv=>whnf)
  all_goals ((refine ⟨⟨_,[],[],Cut.nil _,Ln.sameB _ rfl,?_,rfl⟩⟩);rfl)
 ·rw [show rangeV s m r c = .tup 2 (ofL [spanA 0 0,AI (checkP s m r c)]) from by unfold rangeV;rw [if_neg h0]]
  by_cases hM0:checkM s m = 0
  ·rw [show spotV f s z e m r c = .tup 2 (ofL [iSt f s z e m,AI (checkP s m r c)]) from by unfold spotV;rw [if_pos hM0]] at cP
   (repeat' ((try conv=>whnf);first|(with_reducible first|refine wT ?_|refine wF ?_|(refine wI (fun hq=>?_) (fun hq=>?_) <;> try simp only [zA,zE,zD,zJ,zB,zI,wK,wL] at hq)|refine wA ?_|refine wB ?_|refine wC ?_|refine wD ?_|refine wE ?_)|((with_reducible refine wN ?_ ?_);focus exact needA)|(with_reducible refine wG ?_)|(refine FCall.pure (cP) ⟨Ln.sameB _ rfl,Ln.sameB _ rfl,Ln.sameB _ rfl,Ln.sameB _ rfl,True.intro⟩ rfl ?_)|(with_reducible refine wP ?_)))
   all_goals (try conv=>whnf)
   all_goals ((refine ⟨⟨_,[],[],Cut.nil _,Ln.sameB _ rfl,?_,rfl⟩⟩);rfl)
  ·rw [show spotV f s z e m r c = .tup 2 (ofL [.nilp,AI (checkP s m r c)]) from by unfold spotV;rw [if_neg hM0]] at cP
   (repeat' ((try conv=>whnf);first|(with_reducible first|refine wT ?_|refine wF ?_|(refine wI (fun hq=>?_) (fun hq=>?_) <;> try simp only [zA,zE,zD,zJ,zB,zI,wK,wL] at hq)|refine wA ?_|refine wB ?_|refine wC ?_|refine wD ?_|refine wE ?_)|((with_reducible refine wN ?_ ?_);focus exact needA)|(with_reducible refine wG ?_)|(refine FCall.pure (cP) ⟨Ln.sameB _ rfl,Ln.sameB _ rfl,Ln.sameB _ rfl,Ln.sameB _ rfl,True.intro⟩ rfl ?_)|(with_reducible refine wP ?_)))
   all_goals (try conv=>whnf)
   all_goals ((refine ⟨⟨_,[],[],Cut.nil _,Ln.sameB _ rfl,?_,rfl⟩⟩);rfl)
theorem safeP_ok (f:ShF) (s:Sheet) (hs:SheetOk s) (h3:s.R ≤ 3) (z e:Bool) (m:List Int) (hm:MaskOk s m):ACall Try.prog 52 [iSt f s z e m] [] (fun v h=>v = .bool (safeS s m) ∧ h = []):=by
 have r4:=hs.r4
 have c4:=hs.c4
 have hR:s.R = s.amounts.length:=rfl
 have hml:=hm.len
 have hsl:=hs.sec.len
 have gap:=hs.gap
 have cC:=colsP_ok f s (by have:=hs.r1;omega) z e m
 (refine fcall_of mixed Try.func52 rfl (by decide) (hs:={}) ?k (ac:=?ac) ?c (rs:=?rs) ?r ?l ?H;(case k=>kernel_rfl);(case c=>(conv=>(lhs;cbv)));(case r=>(conv=>(lhs;cbv)));(case l=>exact Nat.le_of_ble_eq_true rfl))
 (repeat' ((try conv=>whnf);first|(with_reducible first|refine wT ?_|refine wF ?_|(refine wI (fun hq=>?_) (fun hq=>?_) <;> try simp only [zA,zE,zD,zJ,zB,zI,wK,wL] at hq)|refine wA ?_|refine wB ?_|refine wC ?_|refine wD ?_|refine wE ?_)|((with_reducible refine wN ?_ ?_);focus exact needA)|(with_reducible refine wG ?_)|(with_reducible refine wP ?_)))
 all_goals (try conv=>whnf)
 refine FLoop.of (ACalls.mono _) (X:=Nat) (fun r=>[(0,iSt f s z e m),(11,aInts f.zs f.es s.secret),(12,AI s.secret.length),(13,AI r)]) (fun _=>[]) (fun r=>r ≤ s.R ∧ ∀ k,k < r → rowSafe s m k = true) (fun r=>s.R - r) 0 ⟨⟨Nat.zero_le _,fun k hk=>absurd hk (Nat.not_lt_zero k)⟩,[],Cut.A,allA⟩ ?_
 rintro r ⟨hr,hup⟩
 by_cases hlt:r < s.R
 ·have hsb:=hs.sec.bd r hlt
  obtain ⟨k,hk⟩:∃ k:Nat,s.secret.getD r 0 = k:=⟨(s.secret.getD r 0).toNat,by omega⟩
  (repeat' ((try conv=>whnf);first|(with_reducible first|refine wT ?_|refine wF ?_|(refine wI (fun hq=>?_) (fun hq=>?_) <;> try simp only [zA,zE,zD,zJ,zB,zI,wK,wL] at hq)|refine wA ?_|refine wB ?_|refine wC ?_|refine wD ?_|refine wE ?_)|((with_reducible refine wN ?_ ?_);focus exact needA)|(with_reducible refine wG ?_)|(refine FCall.pure (cC) ⟨Ln.sameB _ rfl,True.intro⟩ rfl ?_)|(with_reducible refine wP ?_)))
  all_goals (try conv=>whnf)
  refine FLoop.of (ACalls.mono _) (X:=Nat) (fun c=>[(0,iSt f s z e m),(3,AI r),(4,AI (s.secret.getD r 0)),(11,aInts f.zs f.es s.secret),(12,AI s.secret.length),(13,AI r),(19,AI s.C),(20,AI c)]) (fun _=>[]) (fun c=>c ≤ s.C ∧ ∀ k,k < c → cellSafe s m r k = true) (fun c=>s.C - c) 0 ⟨⟨Nat.zero_le _,fun k hk=>absurd hk (Nat.not_lt_zero k)⟩,[],Cut.A,allA⟩ ?_
  rintro c ⟨hc,hupc⟩
  by_cases hltc:c < s.C
  ·have noc:cellSafe s m r c = false → safeS s m = false:=fun hx=>by unfold safeS;exact rall_no hlt (by unfold rowSafe;exact rall_no hltc hx)
   have cO:=outP_ok f s z e m r c (by omega) (hm.bd r hlt).1 (by omega)
   have cP:=span_ok f s hs h3 z e m hm r c hlt hltc
   have hle:=lo_le hs m hlt hltc
   have eo:outS s.secret r c = k.testBit c:=by unfold outS;rw [hk];rfl
   cases hq7:k.testBit c
   ·rw [hq7] at eo
    (repeat' ((try conv=>whnf);first|(with_reducible first|refine wT ?_|refine wF ?_|(refine wI (fun hq=>?_) (fun hq=>?_) <;> try simp only [zA,zE,zD,zJ,zB,zI,wK,wL] at hq)|refine wA ?_|refine wB ?_|refine wC ?_|refine wD ?_|refine wE ?_)|((with_reducible refine wN ?_ ?_);focus exact needA)|(with_reducible refine wG ?_)|(rw [hk];refine FBit.shrN rfl (by omega) ?_)|(refine FBit.hasF rfl hq7 ?_)|(with_reducible refine wP ?_)))
    all_goals (try conv=>whnf)
    all_goals exact ⟨⟨c + 1,⟨hltc,below_step hupc (by unfold cellSafe;rw [eo];rfl)⟩,by show s.C - (c + 1) < s.C - c;omega,[],Cut.nil _,allA⟩⟩
   ·rw [hq7] at eo
    cases o2:outS m r c
    ·rw [o2] at cO
     rw [noc (by unfold cellSafe;rw [eo,o2];rfl)]
     (repeat' ((try conv=>whnf);first|(with_reducible first|refine wT ?_|refine wF ?_|(refine wI (fun hq=>?_) (fun hq=>?_) <;> try simp only [zA,zE,zD,zJ,zB,zI,wK,wL] at hq)|refine wA ?_|refine wB ?_|refine wC ?_|refine wD ?_|refine wE ?_)|((with_reducible refine wN ?_ ?_);focus exact needA)|(with_reducible refine wG ?_)|(rw [hk];refine FBit.shrN rfl (by omega) ?_)|(refine FBit.hasT rfl hq7 ?_)|(refine FCall.pure (cP) ⟨Ln.sameB _ rfl,Ln.sameB _ rfl,Ln.sameB _ rfl,True.intro⟩ rfl ?_)|(refine FCall.pure (cO) ⟨Ln.sameB _ rfl,Ln.sameB _ rfl,Ln.sameB _ rfl,True.intro⟩ rfl ?_)|(with_reducible refine wP ?_)))
     all_goals (try conv=>whnf)
     all_goals ((refine ⟨⟨_,[],[],Cut.nil _,Ln.sameB _ rfl,?_,rfl⟩⟩);rfl)
    ·rw [o2] at cO
     by_cases hg:s.gap ≤ hiV s m r c - loV s m r c
     ·(repeat' ((try conv=>whnf);first|(with_reducible first|refine wT ?_|refine wF ?_|(refine wI (fun hq=>?_) (fun hq=>?_) <;> try simp only [zA,zE,zD,zJ,zB,zI,wK,wL] at hq)|refine wA ?_|refine wB ?_|refine wC ?_|refine wD ?_|refine wE ?_)|((with_reducible refine wN ?_ ?_);focus exact needA)|(with_reducible refine wG ?_)|(rw [hk];refine FBit.shrN rfl (by omega) ?_)|(refine FBit.hasT rfl hq7 ?_)|(refine FCall.pure (cP) ⟨Ln.sameB _ rfl,Ln.sameB _ rfl,Ln.sameB _ rfl,True.intro⟩ rfl ?_)|(refine FCall.pure (cO) ⟨Ln.sameB _ rfl,Ln.sameB _ rfl,Ln.sameB _ rfl,True.intro⟩ rfl ?_)|(with_reducible refine wP ?_)))
      all_goals (try conv=>whnf)
      all_goals exact ⟨⟨c + 1,⟨hltc,below_step hupc (by unfold cellSafe;rw [eo,o2,decide_eq_true hg];rfl)⟩,by show s.C - (c + 1) < s.C - c;omega,[],Cut.nil _,allA⟩⟩
     ·rw [noc (by unfold cellSafe;rw [eo,o2,decide_eq_false hg];rfl)]
      (repeat' ((try conv=>whnf);first|(with_reducible first|refine wT ?_|refine wF ?_|(refine wI (fun hq=>?_) (fun hq=>?_) <;> try simp only [zA,zE,zD,zJ,zB,zI,wK,wL] at hq)|refine wA ?_|refine wB ?_|refine wC ?_|refine wD ?_|refine wE ?_)|((with_reducible refine wN ?_ ?_);focus exact needA)|(with_reducible refine wG ?_)|(rw [hk];refine FBit.shrN rfl (by omega) ?_)|(refine FBit.hasT rfl hq7 ?_)|(refine FCall.pure (cP) ⟨Ln.sameB _ rfl,Ln.sameB _ rfl,Ln.sameB _ rfl,True.intro⟩ rfl ?_)|(refine FCall.pure (cO) ⟨Ln.sameB _ rfl,Ln.sameB _ rfl,Ln.sameB _ rfl,True.intro⟩ rfl ?_)|(with_reducible refine wP ?_)))
      all_goals (try conv=>whnf)
      all_goals ((refine ⟨⟨_,[],[],Cut.nil _,Ln.sameB _ rfl,?_,rfl⟩⟩);rfl)
  ·have hcE:s.C = c:=by omega
   (repeat' ((try conv=>whnf);first|(with_reducible first|refine wT ?_|refine wF ?_|(refine wI (fun hq=>?_) (fun hq=>?_) <;> try simp only [zA,zE,zD,zJ,zB,zI,wK,wL] at hq)|refine wA ?_|refine wB ?_|refine wC ?_|refine wD ?_|refine wE ?_)|((with_reducible refine wN ?_ ?_);focus exact needA)|(with_reducible refine wG ?_)|(with_reducible refine wP ?_)))
   all_goals (try conv=>whnf)
   all_goals exact ⟨⟨r + 1,⟨hlt,below_step hup (by unfold rowSafe;rw [hcE];exact rall_yes hupc)⟩,by show s.R - (r + 1) < s.R - r;omega,[],Cut.nil _,allA⟩⟩
 ·have hrE:s.R = r:=by omega
  rw [show safeS s m = true from by unfold safeS;rw [hrE];exact rall_yes hup]
  (repeat' ((try conv=>whnf);first|(with_reducible first|refine wT ?_|refine wF ?_|(refine wI (fun hq=>?_) (fun hq=>?_) <;> try simp only [zA,zE,zD,zJ,zB,zI,wK,wL] at hq)|refine wA ?_|refine wB ?_|refine wC ?_|refine wD ?_|refine wE ?_)|((with_reducible refine wN ?_ ?_);focus exact needA)|(with_reducible refine wG ?_)|(with_reducible refine wP ?_)))
  all_goals (try conv=>whnf)
  all_goals ((refine ⟨⟨_,[],[],Cut.nil _,Ln.sameB _ rfl,?_,rfl⟩⟩);rfl)
theorem pSafe_ok (f:ShF) (s:Sheet) (hn:Near s) (h3:s.ok = true → s.R ≤ 3) (z e:Bool) (m:List Int) (hm:m.length ≤ 1000):ACall Try.prog 25 [aSh f s,aInts z e m] [] (fun v h=>v = safeV s m ∧ h = []):=by
 have cM:=open_ok f s hn z e m hm
 (refine fcall_of mixed Try.func25 rfl (by decide) (hs:={}) ?k (ac:=?ac) ?c (rs:=?rs) ?r ?l ?H;(case k=>kernel_rfl);(case c=>(conv=>(lhs;cbv)));(case r=>(conv=>(lhs;cbv)));(case l=>exact Nat.le_of_ble_eq_true rfl))
 by_cases h0:checkM s m = 0
 ·obtain ⟨hk,hmk⟩:=checkM_0 h0
  have cS:=safeP_ok f s (sheet_d hk) (h3 hk) z e m (mask_d hmk)
  rw [show safeV s m = .tup 2 (ofL [.bool (safeS s m),AI 0]) from by unfold safeV;rw [h0];rfl]
  rw [show openV f s z e m = .tup 2 (ofL [iSt f s z e m,AI 0]) from by unfold openV;rw [if_pos h0,h0]] at cM
  (repeat' ((try conv=>whnf);first|(with_reducible first|refine wT ?_|refine wF ?_|(refine wI (fun hq=>?_) (fun hq=>?_) <;> try simp only [zA,zE,zD,zJ,zB,zI,wK,wL] at hq)|refine wA ?_|refine wB ?_|refine wC ?_|refine wD ?_|refine wE ?_)|((with_reducible refine wN ?_ ?_);focus exact needA)|(with_reducible refine wG ?_)|(refine FCall.pure (cM) ⟨Ln.sameB _ rfl,Ln.sameB _ rfl,True.intro⟩ rfl ?_)|(refine FCall.pure (cS) ⟨Ln.sameB _ rfl,True.intro⟩ rfl ?_)|(with_reducible refine wP ?_)))
  all_goals (try conv=>whnf)
  all_goals ((refine ⟨⟨_,[],[],Cut.nil _,Ln.sameB _ rfl,?_,rfl⟩⟩);rfl)
 ·rw [show safeV s m = .tup 2 (ofL [.bool false,AI (checkM s m)]) from by unfold safeV;rw [decide_eq_false h0];rfl]
  rw [show openV f s z e m = .tup 2 (ofL [.nilp,AI (checkM s m)]) from by unfold openV;rw [if_neg h0]] at cM
  (repeat' ((try conv=>whnf);first|(with_reducible first|refine wT ?_|refine wF ?_|(refine wI (fun hq=>?_) (fun hq=>?_) <;> try simp only [zA,zE,zD,zJ,zB,zI,wK,wL] at hq)|refine wA ?_|refine wB ?_|refine wC ?_|refine wD ?_|refine wE ?_)|((with_reducible refine wN ?_ ?_);focus exact needA)|(with_reducible refine wG ?_)|(refine FCall.pure (cM) ⟨Ln.sameB _ rfl,Ln.sameB _ rfl,True.intro⟩ rfl ?_)|(with_reducible refine wP ?_)))
  all_goals (try conv=>whnf)
  all_goals ((refine ⟨⟨_,[],[],Cut.nil _,Ln.sameB _ rfl,?_,rfl⟩⟩);rfl)
end Go.Proofs.Ytlffjnmbpoemnaa
