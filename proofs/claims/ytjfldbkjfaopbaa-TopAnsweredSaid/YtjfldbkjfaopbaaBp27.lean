/- Relay: right answers, of the reference and of the program. / Relay: best answers in a form that computes; the example (the parts of ReV and ReX that need little). -/
import Derived.Test.YtjfldbkjfaopbaaBp26
set_option linter.unusedSimpArgs false
set_option linter.unusedVariables false
namespace Go.Proofs.Ytjfldbkjfaopbaa.Q
open Go.RowKit

theorem anr_na {a:Anr} (h1:a.t = -1) (h2:a.g = -1):a = na:=by cases a;simp_all [na]
theorem anr_ne {a:Anr} (h:¬ (a.t = -1 ∧ a.g = -1)):a ≠ na:=fun e=>h (by rw [e];exact ⟨rfl,rfl⟩)
theorem anr_eq {a b:Anr} (h1:a.t = b.t) (h2:a.g = b.g):a = b:=by cases a;cases b;simp_all
def keyT (a:Anr):List Int:=[a.g,a.t]
theorem keyT_inj {a b:Anr} (h:keyT a = keyT b):a = b:=by
 unfold keyT at h
 simp only [List.cons.injEq,and_true] at h
 exact anr_eq h.2 h.1
/-- The spots that are taken by the first answers. -/
def takL (l:List Anr):Nat → List (List Int × AV)
 | 0=>[]
 | c + 1=>if l.getD c na = na then takL l c else takL l c ++ [(keyT (l.getD c na),.int .i64 1)]
theorem takL_na {l:List Anr} {c:Nat} (h:l.getD c na = na):takL l (c + 1) = takL l c:=by simp only [takL];rw [if_pos h]
theorem takL_no {l:List Anr} {c:Nat} (h:l.getD c na ≠ na):takL l (c + 1) = takL l c ++ [(keyT (l.getD c na),.int .i64 1)]:=by simp only [takL];rw [if_neg h]
theorem takL_mem {l:List Anr} {p:List Int × AV}:∀ {c:Nat},p ∈ takL l c → ∃ k,k < c ∧ l.getD k na ≠ na ∧ p = (keyT (l.getD k na),.int .i64 1)
 | 0,h=>by cases h
 | c + 1,h=>by
  by_cases e:l.getD c na = na
  ·rw [takL_na e] at h
   obtain ⟨k,h1,h2⟩:=takL_mem h
   exact ⟨k,by omega,h2⟩
  ·rw [takL_no e] at h
   rcases List.mem_append.1 h with h|h
   ·obtain ⟨k,h1,h2⟩:=takL_mem h
    exact ⟨k,by omega,h2⟩
   ·rw [List.mem_singleton] at h
    exact ⟨c,by omega,e,h⟩
theorem takL_has {l:List Anr} {k:Nat} (hk:l.getD k na ≠ na):∀ {c:Nat},k < c → (keyT (l.getD k na),AV.int .i64 1) ∈ takL l c
 | 0,h=>by omega
 | c + 1,h=>by
  by_cases e:k = c
  ·subst e;rw [takL_no hk];simp
  ·have:=takL_has hk (c:=c) (by omega)
   by_cases e2:l.getD c na = na
   ·rw [takL_na e2];exact this
   ·rw [takL_no e2];exact List.mem_append_left _ this
/-- No earlier answer takes the spot. -/
def fresh (l:List Anr) (c:Nat):Prop:=∀ k,k < c → l.getD k na ≠ l.getD c na
theorem fresh_iff {l:List Anr} {c:Nat}:(List.range c).all (fun k=>!decide (l.getD k na = l.getD c na)) = true ↔ fresh l c:=by
 unfold fresh
 simp only [List.all_eq_true,List.mem_range,Bool.not_eq_true',decide_eq_false_iff_not]
theorem tak_fresh {l:List Anr} {c:Nat} (h:fresh l c):aidx (takL l c) (keyT (l.getD c na)) = none:=by
 unfold aidx
 rw [List.findIdx?_eq_none_iff]
 intro p hp
 obtain ⟨k,h1,h2,rfl⟩:=takL_mem hp
 simp only [beq_eq_false_iff_ne]
 exact fun e=>h k h1 (keyT_inj e)
theorem tak_dup {l:List Anr} {c:Nat} (hc:l.getD c na ≠ na) (h:¬ fresh l c):∃ i,aidx (takL l c) (keyT (l.getD c na)) = some i ∧ i < (takL l c).length ∧ (takL l c).getD i default = (keyT (l.getD c na),.int .i64 1):=by
 have h':∃ k,k < c ∧ l.getD k na = l.getD c na:=by
  refine Classical.byContradiction fun hn=>h fun k hk e=>hn ⟨k,hk,e⟩
 obtain ⟨k,hk,e⟩:=h'
 cases hi:aidx (takL l c) (keyT (l.getD c na)) with
 | none =>
  have:=(aidx_none hi).1
  refine (this ?_).elim
  rw [← e]
  exact List.mem_map.2 ⟨_,takL_has (by rw [e];exact hc) hk,rfl⟩
 | some i =>
  obtain ⟨h1,h2,h3,_⟩:=aidx_some hi
  refine ⟨i,rfl,h1,?_⟩
  have hm:(takL l c).getD i default ∈ takL l c:=by
   simp only [List.getD,List.getElem?_eq_getElem h1,Option.getD_some]
   exact List.getElem_mem h1
  obtain ⟨k',_,_,e'⟩:=takL_mem hm
  rw [e'] at h2 ⊢
  simp only at h2
  rw [h2]
theorem alook_put (L:List (List Int × AV)) (k:List Int) (v:AV):alook (aput L k v) k = some v:=by
 cases hi:aidx L k with
 | none =>
  have h:=(aidx_none hi)
  rw [h.2.2]
  unfold alook
  rw [List.find?_append]
  have h0:L.find? (fun p=>p.1 == k) = none:=by
   have:=h.2.1
   unfold alook at this
   simpa using this
  rw [h0]
  simp
 | some i =>
  obtain ⟨h1,h2,h3,h4⟩:=aidx_some hi
  rw [h4]
  unfold alook
  unfold aidx at hi
  obtain ⟨_,_,h6⟩:=List.findIdx?_eq_some_iff_getElem.1 hi
  have:(L.set i (k,v)).find? (fun p=>p.1 == k) = some (k,v):=by
   rw [List.find?_eq_some_iff_getElem]
   refine ⟨by simp,i,by simpa using h1,by simp,fun j hj=>?_⟩
   rw [List.getElem_set_ne (by omega)]
   have:=h6 j hj
   simpa using this
  rw [this];rfl
theorem tak_put {l:List Anr} {c:Nat} (h:fresh l c) (v:AV):(takL l c ++ [(keyT (l.getD c na),v)]).set (takL l c).length (keyT (l.getD c na),.int .i64 1) = takL l c ++ [(keyT (l.getD c na),.int .i64 1)]:=by
 rw [List.set_append_right _ _ (Nat.le_refl _),Nat.sub_self];rfl
set_option maxHeartbeats 4000000
set_option maxRecDepth 100000
theorem rall_no' {p:Nat → Bool} {n i:Nat} (h:i < n) (hp:p i = false):(List.range n).all p = false:=rall_no h hp
theorem right_len {s:Std} {l:List Anr} (h:l.length ≠ s.C):rightL s l = false:=by unfold rightL;rw [decide_eq_false h];rfl
theorem right_at {s:Std} {l:List Anr} {i:Nat} (hi:i < s.C) (h:okAt s l i = false):rightL s l = false:=by unfold rightL;rw [rall_no hi h,Bool.and_false]
theorem right_yes {s:Std} {l:List Anr} (hl:l.length = s.C) (h:∀ i,i < s.C → okAt s l i = true):rightL s l = true:=by unfold rightL;rw [decide_eq_true hl,rall_yes h];rfl
theorem okAt_na {s:Std} {l:List Anr} {i:Nat} (h:l.getD i na = na):okAt s l i = true:=by unfold okAt;rw [decide_eq_true h];rfl
theorem okAt_yes {s:Std} {l:List Anr} {i:Nat} (h1:0 ≤ (l.getD i na).g ∧ (l.getD i na).g ≤ (s.n:Int) - 1) (h2:canA s (l.getD i na).g.toNat (l.getD i na).t i = true) (h3:fresh l i):okAt s l i = true:=by
 unfold okAt;rw [h2,show inB (l.getD i na).g 0 (s.n - 1) = true from decide_eq_true h1,fresh_iff.2 h3];simp
theorem okAt_no {s:Std} {l:List Anr} {i:Nat} (h0:l.getD i na ≠ na) (h:¬ (0 ≤ (l.getD i na).g ∧ (l.getD i na).g ≤ (s.n:Int) - 1) ∨ canA s (l.getD i na).g.toNat (l.getD i na).t i = false ∨ ¬ fresh l i):okAt s l i = false:=by
 unfold okAt
 rw [decide_eq_false h0,Bool.false_or]
 rcases h with h|h|h
 ·rw [show inB (l.getD i na).g 0 (s.n - 1) = false from decide_eq_false h];rfl
 ·rw [h,Bool.and_false];rfl
 ·rw [Bool.eq_false_iff.2 (fun e=>h (fresh_iff.1 e)),Bool.and_false]
theorem Need.in64 {a:Int} {K:Prop} (h:-9223372036854775808 ≤ a ∧ a ≤ 9223372036854775807) (k:K):Need (in64 a) K:=⟨h,k⟩
theorem pairT {a b c d:Int} (h:a = b ∧ c = d):(decide (a = b) && (decide (c = d) && true)) = true:=by rw [decide_eq_true h.1,decide_eq_true h.2];rfl
theorem pairF {a b c d:Int} (h:¬ (a = b ∧ c = d)):(decide (a = b) && (decide (c = d) && true)) = false:=by
 rw [Bool.and_true,Bool.and_eq_false_iff,decide_eq_false_iff_not,decide_eq_false_iff_not];omega
theorem refCan_i (f:StF) (s:Std) (hs:StdOk s) (g:Int) (c:Nat) (t:Int) (hg:0 ≤ g ∧ g ≤ (s.n:Int) - 1) (hc:c < s.C):ACall Try.prog 25 [aStd f s,AI g,AI c,AI t] [] (fun r h=>r = .bool (canA s g.toNat t c) ∧ h = []):=by
 have:=refCan_ok f s hs g.toNat c t (by omega) hc
 rwa [Int.toNat_of_nonneg hg.1] at this
theorem can_i (f:StF) (s:Std) (hs:StdOk s) (g:Int) (c:Nat) (t:Int) (hg:0 ≤ g ∧ g ≤ (s.n:Int) - 1) (hc:c < s.C):ACall Try.prog 37 [aStd f s,aSpot g t,AI c] [] (fun r h=>r = .bool (canA s g.toNat t c) ∧ h = []):=by
 have:=can_ok f s hs g.toNat c t (by omega) hc
 rwa [Int.toNat_of_nonneg hg.1] at this
theorem areRight_ok (f:StF) (s:Std) (hs:StdOk s) (z e:Bool) (l:List Anr) (hl:l.length ≤ 1000):ACall Try.prog 13 [aStd f s,aAns z e l] [] (fun r h=>r = .bool (rightL s l) ∧ h = []):=by
 have n4:s.sg.length ≤ 4:=hs.n4
 have hsn:s.n = s.sg.length:=rfl
 have c12:s.rg.length ≤ 12:=hs.c12
 (refine fcall_of mixed Try.func13 rfl (by decide) (hs:={}) ?k (ac:=?ac) ?c (rs:=?rs) ?r ?l ?H;(case k=>kernel_rfl);(case c=>(conv=>(lhs;cbv)));(case r=>(conv=>(lhs;cbv)));(case l=>exact Nat.le_of_ble_eq_true rfl))
 (repeat' ((try conv=>whnf);first|(with_reducible first|refine wT ?_|refine wF ?_|(refine wI (fun hq=>?_) (fun hq=>?_) <;> try simp only [zA,zE,zD,zJ,zB,zI,wK,wL] at hq)|refine wA ?_|refine wB ?_|refine wC ?_|refine wD ?_|refine wE ?_)|((with_reducible refine wN ?_ ?_);focus exact needA)|(with_reducible refine wG ?_)|(with_reducible refine wP ?_)))
 all_goals (try conv=>whnf)
 ·(refine ⟨⟨_,[],[],Cut.nil _,Ln.sameB _ rfl,?_,rfl⟩⟩)
  rw [right_len (show l.length ≠ s.rg.length by omega)]
 ·have hlen:l.length = s.rg.length:=by omega
  refine FLoop.of (ACalls.mono _) (X:=Nat) (fun i=>[(1,aAns z e l),(2,.ptr 0 0),(5,AI i)]) (fun _=>[.box 3 (cStd f s)]) (fun i=>i ≤ l.length ∧ ∀ k,k < i → okAt s l k = true) (fun i=>l.length - i) 0 ⟨⟨Nat.zero_le _,below_zero⟩,[0],Cut.A,allA⟩ ?_
  rintro i ⟨hi,hL⟩
  by_cases hlt:i < l.length
  ·have hic:i < s.C:=by show i < s.rg.length;omega
   by_cases hna:(l.getD i na).t = -1 ∧ (l.getD i na).g = -1
   ·(repeat' ((try conv=>whnf);first|(with_reducible first|refine wT ?_|refine wF ?_|(refine wI (fun hq=>?_) (fun hq=>?_) <;> try simp only [zA,zE,zD,zJ,zB,zI,wK,wL] at hq)|refine wA ?_|refine wB ?_|refine wC ?_|refine wD ?_|refine wE ?_)|((with_reducible refine wN ?_ ?_);focus exact needA)|(with_reducible refine wG ?_)|(with_reducible refine wP ?_)))
    all_goals (try conv=>whnf)
    (exact ⟨⟨(i + 1),⟨hlt,below_step hL (okAt_na (anr_na hna.1 hna.2))⟩,by show _ < _;omega,[0],Cut.A,allA⟩⟩)
   ·have hne:=anr_ne hna
    by_cases hg:0 ≤ (l.getD i na).g ∧ (l.getD i na).g ≤ (s.n:Int) - 1
    ·have hcan:=refCan_i f s hs (l.getD i na).g i (l.getD i na).t hg hic
     cases hc:canA s (l.getD i na).g.toNat (l.getD i na).t i
     ·rw [hc] at hcan
      (repeat' ((try conv=>whnf);first|(with_reducible first|refine wT ?_|refine wF ?_|(refine wI (fun hq=>?_) (fun hq=>?_) <;> try simp only [zA,zE,zD,zJ,zB,zI,wK,wL] at hq)|refine wA ?_|refine wB ?_|refine wC ?_|refine wD ?_|refine wE ?_)|((with_reducible refine wN ?_ ?_);focus exact needA)|(with_reducible refine wG ?_)|(refine FCall.pure ((within_ok _ _ _)) ⟨Ln.sameB _ rfl,Ln.sameB _ rfl,Ln.sameB _ rfl,True.intro⟩ rfl ?_)|(refine FCall.pure (hcan) ⟨Ln.sameB _ rfl,Ln.sameB _ rfl,Ln.sameB _ rfl,Ln.sameB _ rfl,True.intro⟩ rfl ?_)|(with_reducible refine wP ?_)))
      all_goals (try conv=>whnf)
      all_goals ((refine ⟨⟨_,[],[],Cut.nil _,Ln.sameB _ rfl,?_,rfl⟩⟩);rw [right_at hic (okAt_no hne (.inr (.inl hc)))])
     ·rw [hc] at hcan
      (repeat' ((try conv=>whnf);first|(with_reducible first|refine wT ?_|refine wF ?_|(refine wI (fun hq=>?_) (fun hq=>?_) <;> try simp only [zA,zE,zD,zJ,zB,zI,wK,wL] at hq)|refine wA ?_|refine wB ?_|refine wC ?_|refine wD ?_|refine wE ?_)|((with_reducible refine wN ?_ ?_);focus exact needA)|(with_reducible refine wG ?_)|(refine FCall.pure ((within_ok _ _ _)) ⟨Ln.sameB _ rfl,Ln.sameB _ rfl,Ln.sameB _ rfl,True.intro⟩ rfl ?_)|(refine FCall.pure (hcan) ⟨Ln.sameB _ rfl,Ln.sameB _ rfl,Ln.sameB _ rfl,Ln.sameB _ rfl,True.intro⟩ rfl ?_)|(with_reducible refine wP ?_)))
      all_goals (try conv=>whnf)
      all_goals refine FLoop.of (ACalls.mono _) (X:=Nat) (fun k=>[(1,aAns z e l),(2,.ptr 0 0),(5,AI i),(6,.ptr 1 0),(7,AI k)]) (fun _=>[.box 3 (cStd f s),.box 2 (cAn (l.getD i na))]) (fun k=>k ≤ i ∧ ∀ j,j < k → l.getD j na ≠ l.getD i na) (fun k=>i - k) 0 ⟨⟨Nat.zero_le _,below_zero⟩,[0,1],Cut.A,allA⟩ ?_
      all_goals
       rintro k ⟨hk,hK⟩
       by_cases hlk:k < i
       ·by_cases he:(l.getD k na).t = (l.getD i na).t ∧ (l.getD k na).g = (l.getD i na).g
        ·have hpt:=pairT he
         (repeat' ((try conv=>whnf);first|(with_reducible first|refine wT ?_|refine wF ?_|(refine wI (fun hq=>?_) (fun hq=>?_) <;> try simp only [zA,zE,zD,zJ,zB,zI,wK,wL] at hq)|refine wA ?_|refine wB ?_|refine wC ?_|refine wD ?_|refine wE ?_)|((with_reducible refine wN ?_ ?_);focus exact needA)|(with_reducible refine wG ?_)|(with_reducible refine And.intro rfl ?_)|(with_reducible refine wP ?_)))
         all_goals (try conv=>whnf)
         (refine ⟨⟨_,[],[],Cut.nil _,Ln.sameB _ rfl,?_,rfl⟩⟩)
         rw [right_at hic (okAt_no hne (.inr (.inr fun hf=>hf k hlk (anr_eq he.1 he.2))))]
        ·have hpf:=pairF he
         (repeat' ((try conv=>whnf);first|(with_reducible first|refine wT ?_|refine wF ?_|(refine wI (fun hq=>?_) (fun hq=>?_) <;> try simp only [zA,zE,zD,zJ,zB,zI,wK,wL] at hq)|refine wA ?_|refine wB ?_|refine wC ?_|refine wD ?_|refine wE ?_)|((with_reducible refine wN ?_ ?_);focus exact needA)|(with_reducible refine wG ?_)|(with_reducible refine And.intro rfl ?_)|(with_reducible refine wP ?_)))
         all_goals (try conv=>whnf)
         (exact ⟨⟨(k + 1),⟨hlk,below_step hK (fun e=>he (by rw [e];exact ⟨rfl,rfl⟩))⟩,by show _ < _;omega,[0,1],Cut.A,allA⟩⟩)
       ·obtain rfl:k = i:=by omega
        (repeat' ((try conv=>whnf);first|(with_reducible first|refine wT ?_|refine wF ?_|(refine wI (fun hq=>?_) (fun hq=>?_) <;> try simp only [zA,zE,zD,zJ,zB,zI,wK,wL] at hq)|refine wA ?_|refine wB ?_|refine wC ?_|refine wD ?_|refine wE ?_)|((with_reducible refine wN ?_ ?_);focus exact needA)|(with_reducible refine wG ?_)|(with_reducible refine wP ?_)))
        all_goals (try conv=>whnf)
        (exact ⟨⟨(k + 1),⟨hlt,below_step hL (okAt_yes hg hc hK)⟩,by show _ < _;omega,[0],Cut.A,allA⟩⟩)
    ·(repeat' ((try conv=>whnf);first|(with_reducible first|refine wT ?_|refine wF ?_|(refine wI (fun hq=>?_) (fun hq=>?_) <;> try simp only [zA,zE,zD,zJ,zB,zI,wK,wL] at hq)|refine wA ?_|refine wB ?_|refine wC ?_|refine wD ?_|refine wE ?_)|((with_reducible refine wN ?_ ?_);focus exact needA)|(with_reducible refine wG ?_)|(refine FCall.pure ((within_ok _ _ _)) ⟨Ln.sameB _ rfl,Ln.sameB _ rfl,Ln.sameB _ rfl,True.intro⟩ rfl ?_)|(with_reducible refine wP ?_)))
     all_goals (try conv=>whnf)
     all_goals ((refine ⟨⟨_,[],[],Cut.nil _,Ln.sameB _ rfl,?_,rfl⟩⟩);rw [right_at hic (okAt_no hne (.inl hg))])
  ·obtain rfl:i = l.length:=by omega
   (repeat' ((try conv=>whnf);first|(with_reducible first|refine wT ?_|refine wF ?_|(refine wI (fun hq=>?_) (fun hq=>?_) <;> try simp only [zA,zE,zD,zJ,zB,zI,wK,wL] at hq)|refine wA ?_|refine wB ?_|refine wC ?_|refine wD ?_|refine wE ?_)|((with_reducible refine wN ?_ ?_);focus exact needA)|(with_reducible refine wG ?_)|(with_reducible refine wP ?_)))
   all_goals (try conv=>whnf)
   (refine ⟨⟨_,[],[],Cut.nil _,Ln.sameB _ rfl,?_,rfl⟩⟩)
   rw [right_yes (show l.length = s.C from hlen) (fun i hi=>hL i (by have:i < s.rg.length:=hi;omega))]
end Go.Proofs.Ytjfldbkjfaopbaa.Q

namespace Go.Proofs.Ytjfldbkjfaopbaa.Q
open Go.RowKit

theorem stepRow_congr {s:Std} {p:Nat × Nat} {b b':Nat → Stp} (h:∀ S,S < 2 ^ s.C → b S = b' S):∀ c S,S < 2 ^ s.C → stepRow s p b c S = stepRow s p b' c S
 | 0,S,hS=>by simp only [stepRow];rw [h S hS]
 | c + 1,S,hS=>by
  simp only [stepRow]
  rw [stepRow_congr h c S hS,h (rem S c) (rem_lt hS)]
/-- The same, each part computed once. -/
def stepX (s:Std) (p:Nat × Nat) (b:List Stp) (S:Nat):Nat → Stp
 | 0=>{ b.getD S default with call:=-1 }
 | c + 1=>match stepX s p b S c with
  | x=>match canA s p.1 p.2 c,S.testBit c,b.getD (rem S c) default with
   | true,true,⟨w,_,false⟩=>match x.never || (w.more (s.R c) p.2).lt x.w with
    | true=>⟨w.more (s.R c) p.2,c,false⟩
    | false=>x
   | _,_,_=>x
theorem stepX_eq (s:Std) (p:Nat × Nat) (b:List Stp) (S:Nat):∀ c,stepX s p b S c = stepRow s p (fun S=>b.getD S default) c S
 | 0=>rfl
 | c + 1=>by
  simp only [stepX,stepRow]
  rw [stepX_eq s p b S c]
  cases canA s p.1 p.2 c
  ·simp
  ·cases S.testBit c
   ·simp
   ·rcases hb:b.getD (rem S c) default with ⟨w,k,nv⟩
    cases nv
    ·simp only [Bool.true_and,Bool.not_false,if_true]
     cases (stepRow s p (fun S=>b.getD S default) c S).never || (w.more (s.R c) p.2).lt (stepRow s p (fun S=>b.getD S default) c S).w <;> simp
    ·simp
def rowsX (s:Std):Nat → List Stp
 | 0=>(List.range (2 ^ s.C)).map (row s 0)
 | k + 1=>(List.range (2 ^ s.C)).map fun S=>stepX s (sp s.T k) (rowsX s k) S s.C
theorem rowsX_get (s:Std):∀ k S,S < 2 ^ s.C → (rowsX s k).getD S default = row s k S
 | 0,S,h=>by simp [rowsX,List.getD,h]
 | k + 1,S,h=>by
  have:(rowsX s (k + 1)).getD S default = stepX s (sp s.T k) (rowsX s k) S s.C:=by simp [rowsX,List.getD,h]
  rw [this,stepX_eq]
  exact stepRow_congr (fun S hS=>rowsX_get s k S hS) s.C S h
def leftX (s:Std) (S:Nat):Nat → Wt
 | 0=>w0
 | k + 1=>if S.testBit k then leftX s S k else (leftX s S k).more (s.R k) s.times
theorem leftX_eq (s:Std) (S:Nat):∀ k,leftX s S k = leftK s S k
 | 0=>rfl
 | k + 1=>by
  have e:leftK s S (k + 1) = (leftK s S k).add (if S.testBit k then w0 else (s.R k).w s.times):=rfl
  rw [e]
  simp only [leftX]
  rw [leftX_eq s S k]
  cases S.testBit k
  ·simp [more_add]
  ·simp [add_w0]
/-- The least of a list. -/
def minX : List Wt → Option Wt
 | []=>none
 | w :: l=>match minX l with
  | none=>some w
  | some v=>if w.lt v then some w else some v
theorem minX_mem : ∀ {l:List Wt} {v:Wt},minX l = some v → v ∈ l ∧ ∀ w,w ∈ l → w.lt v = false
 | [],v,h=>by cases h
 | w :: l,v,h=>by
  simp only [minX] at h
  cases hl:minX l with
  | none =>
   rw [hl] at h
   injection h with h
   subst h
   have:l = []:=by
    cases l with
    | nil=>rfl
    | cons x xs =>
     simp only [minX] at hl
     cases hm:minX xs with
     | none=>rw [hm] at hl;cases hl
     | some y =>
      rw [hm] at hl
      simp only at hl
      split at hl <;> cases hl
   subst this
   exact ⟨List.mem_cons_self,fun x hx=>by rw [List.mem_singleton.1 hx];exact lt_self _⟩
  | some u =>
   rw [hl] at h
   obtain ⟨h1,h2⟩:=minX_mem hl
   simp only at h
   cases hw:w.lt u with
   | true =>
    rw [hw,if_pos rfl] at h
    injection h with h
    subst h
    refine ⟨List.mem_cons_self,fun x hx=>?_⟩
    rcases List.mem_cons.1 hx with rfl|hx
    ·exact lt_self _
    ·exact lt_trans' (h2 x hx) hw
   | false =>
    rw [hw,if_neg (by decide)] at h
    injection h with h
    subst h
    refine ⟨List.mem_cons_of_mem _ h1,fun x hx=>?_⟩
    rcases List.mem_cons.1 hx with rfl|hx
    ·exact hw
    ·exact h2 x hx
def bestX (s:Std):Option Wt:=match rowsX s (s.n * s.T) with
 | R=>minX (((List.range (2 ^ s.C)).filter fun S=>!(R.getD S default).never).map fun S=>(R.getD S default).w.add (leftX s S s.C))
theorem bestX_eq {s:Std} {v:Wt} (h:bestX s = some v):bestW s = v:=by
 unfold bestX at h
 obtain ⟨h1,h2⟩:=minX_mem h
 obtain ⟨_,b1,b2,b3,b4⟩:=bestAt_eq s
 obtain ⟨S,hS,e⟩:=List.mem_map.1 h1
 simp only [List.mem_filter,List.mem_range,Bool.not_eq_true'] at hS
 rw [rowsX_get s _ S hS.1] at hS e
 rw [leftX_eq] at e
 have a1:=b4 S hS.1 hS.2
 have a2:=h2 (fin' s (bestAt s)) (List.mem_map.2 ⟨bestAt s,by
  simp only [List.mem_filter,List.mem_range,Bool.not_eq_true']
  exact ⟨b1,by rw [rowsX_get s _ _ b1];exact b2⟩,by rw [rowsX_get s _ _ b1,leftX_eq];rfl⟩)
 have e':fin' s S = v:=e
 rw [e'] at a1
 rw [← b3] at a2
 rw [nlt_iff] at a1 a2
 exact Wt.ext' (by omega) (by omega)
def exS : Std:=⟨5,[⟨3,0,4⟩,⟨2,1,5⟩],[⟨0,0,false⟩,⟨1,0,false⟩,⟨0,1,true⟩,⟨1,1,true⟩,⟨1,1,false⟩]⟩
theorem ex_best : bestW exS = ⟨0,3⟩:=bestX_eq (by decide +kernel)
theorem k2 {p:Nat → Prop} (h0:p 0) (h1:p 1):∀ k,k < 2 → p k:=fun k hk=>by
 rcases (show k = 0 ∨ k = 1 by omega) with rfl|rfl
 ·exact h0
 ·exact h1
theorem k3 {p:Nat → Prop} (h0:p 0) (h1:p 1) (h2:p 2):∀ k,k < 3 → p k:=fun k hk=>by
 rcases (show k = 0 ∨ k = 1 ∨ k = 2 by omega) with rfl|rfl|rfl
 ·exact h0
 ·exact h1
 ·exact h2
theorem k5 {p:Nat → Prop} (h0:p 0) (h1:p 1) (h2:p 2) (h3:p 3) (h4:p 4):∀ k,k < 5 → p k:=fun k hk=>by
 rcases (show k = 0 ∨ k = 1 ∨ k = 2 ∨ k = 3 ∨ k = 4 by omega) with rfl|rfl|rfl|rfl|rfl
 ·exact h0
 ·exact h1
 ·exact h2
 ·exact h3
 ·exact h4
set_option maxHeartbeats 4000000
set_option maxRecDepth 100000
def exF : StF:=⟨false,true,false,true⟩
theorem example_ok : ACall Try.prog 19 [] [] (fun r h'=>r = aStd exF exS ∧ h' = []):=by
 (refine fcall_of mixed Try.func19 rfl (by decide) (hs:={}) ?k (ac:=?ac) ?c (rs:=?rs) ?r ?l ?H;(case k=>kernel_rfl);(case c=>(conv=>(lhs;cbv)));(case r=>(conv=>(lhs;cbv)));(case l=>exact Nat.le_of_ble_eq_true rfl))
 (repeat' ((try conv=>whnf);first|(with_reducible first|refine wT ?_|refine wF ?_|(refine wI (fun hq=>?_) (fun hq=>?_) <;> try simp only [zA,zE,zD,zJ,zB,zI,wK,wL] at hq)|refine wA ?_|refine wB ?_|refine wC ?_|refine wD ?_|refine wE ?_)|((with_reducible refine wN ?_ ?_);focus exact needA)|(with_reducible refine wG ?_)|(with_reducible refine wP ?_)))
 all_goals (try conv=>whnf)
 refine ⟨⟨aStd exF exS,[],[],Cut.nil _,Ln.aggN ⟨⟨⟨True.intro,Ln.A⟩,Ln.sl _ _ _ _ _ _ _ (fun h=>h) ?sg⟩,Ln.sl _ _ _ _ _ _ _ (fun h=>h) ?rg⟩,rfl,rfl⟩⟩
 case sg=>exact k2 (k3 rfl rfl rfl) (k3 rfl rfl rfl)
 case rg=>exact k5 (k3 rfl rfl rfl) (k3 rfl rfl rfl) (k3 rfl rfl rfl) (k3 rfl rfl rfl) (k3 rfl rfl rfl)
theorem ex_near : NearS exS:=⟨by decide,by decide⟩
theorem ex_planC : ACall Try.prog 12 [aStd exF exS] [] (fun r h=>r = .tup 4 (ofL [aAns false false (bestL exS),AI 0,AI 3,AI 0]) ∧ h = []):=by
 have:=plan_yes exF exS ex_near (by decide)
 rwa [ex_best] at this
end Go.Proofs.Ytjfldbkjfaopbaa.Q
