/- Secrets: all masks, as the reference lists them (every). / Secrets: two times nothing is the same. / Secrets: Least and Worth are those of the reference (SecretsBest). -/
import Derived.Test.YtlffjnmbpoemnaaBb1
import Derived.Test.YtlffjnmbpoemnaaBq2
import Derived.Test.YtlffjnmbpoemnaaBs14
set_option linter.unusedSimpArgs false
set_option linter.unusedVariables false
namespace Go.Proofs.Ytlffjnmbpoemnaa
open Go.RowKit

def nI (l:List Nat):List Int:=l.map fun x:Nat=>(x:Int)
theorem nI_len (l:List Nat):(nI l).length = l.length:=List.length_map ..
/-- All ways to go on for r rows. -/
def evS (C:Nat):Nat → List (List Nat)
 | 0=>[[]]
 | r + 1=>(List.range (2 ^ C)).flatMap fun g=>(evS C r).map (g :: ·)
def evGS (C r:Nat) (first:List Nat) (g:Nat):List (List Int):=(evS C r).map fun v=>nI (first ++ g :: v)
def evToS (C r:Nat) (first:List Nat):Nat → List (List Int)
 | 0=>[]
 | k + 1=>evToS C r first k ++ evGS C r first k
theorem evToS_flat (C r:Nat) (first:List Nat):∀ k,evToS C r first k = (List.range k).flatMap (evGS C r first)
 | 0=>rfl
 | k + 1=>by rw [evToS,evToS_flat C r first k,List.range_succ,List.flatMap_append];simp
theorem evToS_end (C r:Nat) (first:List Nat):evToS C r first (2 ^ C) = (evS C (r + 1)).map fun v=>nI (first ++ v):=by
 rw [evToS_flat,evS,List.map_flatMap]
 congr 1
 funext g
 unfold evGS
 rw [List.map_map];rfl
theorem evS_len (C:Nat) (hC:C ≤ 3):∀ r,(evS C r).length ≤ 8 ^ r
 | 0=>Nat.le_refl _
 | r + 1=>by
  have ih:=evS_len C hC r
  have h8:2 ^ C ≤ 8:=Nat.le_trans (Nat.pow_le_pow_right (by decide) hC) (by decide)
  have e:∀ k,((List.range k).flatMap fun g=>(evS C r).map (g :: ·)).length = k * (evS C r).length:=fun k=>by
   induction k with
   | zero=>simp
   | succ k ih=>rw [List.range_succ,List.flatMap_append,List.length_append,ih,Nat.succ_mul];simp
  rw [evS,e,Nat.pow_succ,Nat.mul_comm (8 ^ r) 8]
  exact Nat.mul_le_mul h8 ih
theorem evToS_len {C r:Nat} (hC:C ≤ 3) (hr:r ≤ 3) (first:List Nat):∀ k,(evToS C r first k).length ≤ k * 512
 | 0=>Nat.zero_le _
 | k + 1=>by
  have ih:=evToS_len hC hr first k
  have h:=evS_len C hC r
  have:8 ^ r ≤ 512:=Nat.le_trans (Nat.pow_le_pow_right (by decide) hr) (by decide)
  rw [evToS,List.length_append]
  unfold evGS
  rw [List.length_map]
  omega
theorem getD_snS (l:List Int) (x:Int) (k:Nat):(l ++ [x]).getD k 0 = if k < l.length then l.getD k 0 else if k = l.length then x else 0:=by
 by_cases h:k < l.length
 ·rw [if_pos h];simp only [List.getD,List.getElem?_append_left h]
 ·rw [if_neg h]
  by_cases e:k = l.length
  ·subst e;rw [if_pos rfl];simp [List.getD]
  ·rw [if_neg e];simp only [List.getD,List.getElem?_eq_none (show (l ++ [x]).length ≤ k by simp;omega)];rfl
theorem ext0S {first:List Nat} {g:Nat} {c:Nat → Nat → AV} (hf:first.length = 0) {k o:Nat} (hk:k < 0 + (0 + 1)) (ho:o < 1):AI ((nI (first ++ [g])).getD k 0) = appc 0 c (bslC (fun _=>ofL [AI 0]) [(0,AI (g:Int))]) k o:=by
 obtain rfl:first = []:=List.length_eq_zero_iff.1 hf
 obtain rfl:k = 0:=by omega
 obtain rfl:o = 0:=Nat.lt_one_iff.1 ho
 rfl
theorem ext1S {first:List Nat} {g s:Nat} {c:Nat → Nat → AV} (hf:first.length = s + 1) {k o:Nat} (hk:k < 0 + (s + 1) + 1) (ho:o < 1):AI ((nI (first ++ [g])).getD k 0) = appc (0 + (s + 1)) (appc 0 c (fun k _=>AI ((nI first).getD k 0))) (bslC (fun _=>ofL [AI 0]) [(0,AI (g:Int))]) k o:=by
 obtain rfl:o = 0:=Nat.lt_one_iff.1 ho
 have e:nI (first ++ [g]) = nI first ++ [(g:Int)]:=by simp [nI]
 have hl:=nI_len first
 rw [e,getD_snS]
 by_cases h:k < s + 1
 ·rw [if_pos (by omega),appc,if_pos (by omega),appc,if_neg (Nat.not_lt_zero k),Nat.sub_zero]
 ·obtain rfl:k = s + 1:=by omega
  rw [if_neg (by omega),if_pos (by omega),appc,if_neg (by omega),show s + 1 - (0 + (s + 1)) = 0 by omega]
  rfl
theorem getD_appS {a:List Int} {q l:List (List Int)} {k o:Nat} (ho:o < 1):aInts false false ((a :: (q ++ l)).getD k []) = appc (q.length + 1) (fun k _=>aInts false false ((a :: q).getD k [])) (fun k _=>aInts false false (l.getD k [])) k o:=by
 have e:(a :: (q ++ l)) = (a :: q) ++ l:=rfl
 by_cases h:k < q.length + 1
 ·rw [appc,if_pos h,e]
  simp only [List.getD,List.getElem?_append_left (show k < (a :: q).length by simpa using h)]
 ·rw [appc,if_neg h,e]
  simp only [List.getD,List.getElem?_append_right (show (a :: q).length ≤ k by simp;omega),List.length_cons]
abbrev aLS (l:List (List Int)):AV:=.sl l.isEmpty l.isEmpty l.length 1 (fun k _=>aInts false false (l.getD k []))
abbrev rowLS (n:Nat) (l:List (List Int)):AB:=.row n 1 (fun k _=>aInts false false (l.getD k []))
abbrev aFS (fz fe:Bool) (s:Nat) (first:List Nat):AV:=.sl fz fe s 1 (fun k _=>AI ((nI first).getD k 0))
def EvOk (f:ShF) (s:Sheet) (r:Nat):Prop:=∀ i,i + r = s.R → ∀ first:List Nat,first.length = i → ∀ fz fe,(r = 0 → fz = false) → ACall Try.prog 72 [aSh f s,aInts fz fe (nI first)] [] (fun v h=>v = aLS ((evS s.C r).map fun v=>nI (first ++ v)) ∧ h = [])
set_option maxHeartbeats 8000000
set_option maxRecDepth 100000
theorem ev_zero (f:ShF) (s:Sheet) (h1:1 ≤ s.R) (h3:s.R ≤ 3):EvOk f s 0:=by
 intro i hs first hf fz fe hz
 obtain rfl:=hz rfl
 have hlen:=nI_len first
 have hRl:s.R = s.amounts.length:=rfl
 (refine fcall_of mixed Try.func72 rfl (by decide) (hs:={ ord:=[(7,[(0,[]),(1,[]),(2,[]),(3,[]),(5,[]),(6,[]),(4,[1]),(7,[1]),(8,[]),(9,[]),(10,[])])] }) ?k (ac:=?ac) ?c (rs:=?rs) ?r ?l ?H;(case k=>kernel_rfl);(case c=>(conv=>(lhs;cbv)));(case r=>(conv=>(lhs;cbv)));(case l=>exact Nat.le_of_ble_eq_true rfl))
 (repeat' ((try conv=>whnf);first|(with_reducible first|refine wT ?_|refine wF ?_|(refine wI (fun hq=>?_) (fun hq=>?_) <;> try simp only [zA,zE,zD,zJ,zB,zI,wK,wL] at hq)|refine wA ?_|refine wB ?_|refine wC ?_|refine wD ?_|refine wE ?_)|((with_reducible refine wN ?_ ?_);focus exact needA)|(with_reducible refine wG ?_)|(with_reducible refine wP ?_)))
 all_goals (try conv=>whnf)
 refine ⟨⟨aLS [nI (first ++ [])],[],[],Cut.nil _,Ln.le _ _ (show True from trivial) (LeV.sl (fun h=>by cases h) (fun k hk o ho=>?_)),rfl,rfl⟩⟩
 obtain rfl:k = 0:=Nat.lt_one_iff.1 hk
 obtain rfl:o = 0:=Nat.lt_one_iff.1 ho
 rw [List.append_nil]
 exact LeV.sl (fun h=>by cases h) (fun k _ o _=>LeV.refl _)
theorem ev_step (f:ShF) (s:Sheet) (h1:1 ≤ s.R) (h3:s.R ≤ 3) (hC:s.C ≤ 3) (r:Nat) (ih:EvOk f s r):EvOk f s (r + 1):=by
 intro i hs first hf fz fe hz
 have hRl:s.R = s.amounts.length:=rfl
 have h8:2 ^ s.C ≤ 8:=Nat.le_trans (Nat.pow_le_pow_right (by decide) hC) (by decide)
 have hlen:=nI_len first
 have cC:=columns_ok f s (by omega)
 have hel:=fun k=>evToS_len (C:=s.C) (r:=r) hC (by omega) first k
 have harg:aInts fz fe (nI first) = aFS fz fe i first:=by
  show AV.sl _ _ _ _ _ = _
  rw [hlen,hf]
 rw [harg,← evToS_end s.C r first]
 have hih:=fun g=>ih (i + 1) (by omega) (first ++ [g]) (by rw [List.length_append,hf];rfl) false false (fun _=>rfl)
 (refine fcall_of mixed Try.func72 rfl (by decide) (hs:={ ord:=[(7,[(0,[]),(1,[]),(2,[]),(3,[]),(5,[]),(6,[]),(4,[1]),(7,[1]),(8,[]),(9,[]),(10,[])])] }) ?k (ac:=?ac) ?c (rs:=?rs) ?r ?l ?H;(case k=>kernel_rfl);(case c=>(conv=>(lhs;cbv)));(case r=>(conv=>(lhs;cbv)));(case l=>exact Nat.le_of_ble_eq_true rfl))
 (repeat' ((try conv=>whnf);first|(with_reducible first|refine wT ?_|refine wF ?_|(refine wI (fun hq=>?_) (fun hq=>?_) <;> try simp only [zA,zE,zD,zJ,zB,zI,wK,wL] at hq)|refine wA ?_|refine wB ?_|refine wC ?_|refine wD ?_|refine wE ?_)|((with_reducible refine wN ?_ ?_);focus exact needA)|(with_reducible refine wG ?_)|(with_reducible refine wP ?_)))
 all_goals (try conv=>whnf)
 refine FLoop.of (ACalls.mono _) (X:=Nat × List (List Int)) (fun x=>[(1,aFS fz fe i first),(2,.ptr 0 0),(5,match x.2 with|[]=>nilS|_ :: q=>.own 1 (q.length + 1)),(6,AI x.1)]) (fun x=>match x.2 with
  | []=>[.box 3 (cSh f s)]
  | a :: q=>[.box 3 (cSh f s),rowLS (q.length + 1) (a :: q)]) (fun x=>x.1 ≤ 2 ^ s.C ∧ evToS s.C r first x.1 = x.2) (fun x=>2 ^ s.C - x.1) (0,[]) ⟨⟨Nat.zero_le _,rfl⟩,[0],Cut.A,allA⟩ ?_
 rintro ⟨g,lst⟩ ⟨hg,hL⟩
 simp only at hg hL
 have hlg:=hel g
 rw [hL] at hlg
 by_cases hlt:g < 2 ^ s.C
 ·have hI:=hih g
  have hst:evToS s.C r first (g + 1) = lst ++ evGS s.C r first g:=by rw [evToS,hL]
  have hev:evGS s.C r first g = (evS s.C r).map fun v=>nI ((first ++ [g]) ++ v):=by
   unfold evGS
   congr 1;funext v;rw [List.append_assoc];rfl
  have hlg2:=hel (g + 1)
  rw [hst] at hlg2
  rw [← hev] at hI
  generalize evGS s.C r first g = Lg at hst hI hlg2
  rw [List.length_append] at hlg2
  rcases lst with _|⟨a,q⟩
  ·have hxs:∀ x xs,Lg = x :: xs → xs.length ≤ 1000000:=fun x xs e=>by subst e;simp only [List.length_cons,List.length_nil] at hlg2;omega
   rcases i with _|i
   ·have hxs:=hxs
    (repeat' ((try conv=>whnf);first|(with_reducible first|refine wT ?_|refine wF ?_|(refine wI (fun hq=>?_) (fun hq=>?_) <;> try simp only [zA,zE,zD,zJ,zB,zI,wK,wL] at hq)|refine wA ?_|refine wB ?_|refine wC ?_|refine wD ?_|refine wE ?_)|((with_reducible refine wN ?_ ?_);focus exact needA)|(with_reducible first|refine FBit.hasT rfl (by assumption) ?_|refine FBit.hasF rfl (by assumption) ?_|refine FBit.shrN rfl (by omega) ?_|refine FBit.half rfl ?_|refine FBit.shl1 rfl (by omega) ?_|refine Fits.inU (by omega) ?_|refine FBit.shrNI rfl (by omega) ?_|refine FBit.shrIN rfl (by omega) (by omega) ?_|refine FBit.shrI rfl (by omega) (by omega) ?_|refine FBit.shl1I rfl (by omega) ?_)|(with_reducible refine FBit.has rfl (fun hq=>?_) (fun hq=>?_))|(with_reducible first|refine FBit.and1 rfl ?_|refine FBit.andN rfl (by omega) (by omega) ?_|refine FBit.orN rfl (by omega) (by omega) ?_|refine FBit.andNotN rfl (by omega) (by omega) ?_)|(with_reducible refine wG ?_)|(refine FBit.shl1 (j:=s.C) rfl (by omega) ?_)|(refine FCall.pure (cC) ⟨Ln.sameB _ rfl,True.intro⟩ rfl ?_)|(with_reducible refine wP ?_)))
    all_goals (try conv=>whnf)
    refine FCall.bury 1 [aSh f s,aInts false false (nI (first ++ [g]))] ⟨Ln.sameB _ rfl,Ln.pubE rfl rfl (Nat.le_refl _) (by rw [nI_len,List.length_append,hf,List.length_singleton] <;> omega) (fun k hk o ho=>ext0S hf hk ho),True.intro⟩ ?_
    refine FCall.pure hI ⟨Ln.sameB _ rfl,Ln.sameB _ rfl,True.intro⟩ rfl ?_
    rcases Lg with _|⟨x,xs⟩
    ·(repeat' ((try conv=>whnf);first|(with_reducible first|refine wT ?_|refine wF ?_|(refine wI (fun hq=>?_) (fun hq=>?_) <;> try simp only [zA,zE,zD,zJ,zB,zI,wK,wL] at hq)|refine wA ?_|refine wB ?_|refine wC ?_|refine wD ?_|refine wE ?_)|((with_reducible refine wN ?_ ?_);focus exact needA)|(with_reducible first|refine FBit.hasT rfl (by assumption) ?_|refine FBit.hasF rfl (by assumption) ?_|refine FBit.shrN rfl (by omega) ?_|refine FBit.half rfl ?_|refine FBit.shl1 rfl (by omega) ?_|refine Fits.inU (by omega) ?_|refine FBit.shrNI rfl (by omega) ?_|refine FBit.shrIN rfl (by omega) (by omega) ?_|refine FBit.shrI rfl (by omega) (by omega) ?_|refine FBit.shl1I rfl (by omega) ?_)|(with_reducible refine FBit.has rfl (fun hq=>?_) (fun hq=>?_))|(with_reducible first|refine FBit.and1 rfl ?_|refine FBit.andN rfl (by omega) (by omega) ?_|refine FBit.orN rfl (by omega) (by omega) ?_|refine FBit.andNotN rfl (by omega) (by omega) ?_)|(with_reducible refine wG ?_)|(refine Need.mk ⟨.inr rfl,by decide,by decide⟩ ?_)|(with_reducible refine wP ?_)))
     all_goals (try conv=>whnf)
     (exact ⟨⟨(g + 1,[]),⟨hlt,hst⟩,by show _ < _;omega,[0],Cut.A,allA⟩⟩)
    ·(repeat' ((try conv=>whnf);first|(with_reducible first|refine wT ?_|refine wF ?_|(refine wI (fun hq=>?_) (fun hq=>?_) <;> try simp only [zA,zE,zD,zJ,zB,zI,wK,wL] at hq)|refine wA ?_|refine wB ?_|refine wC ?_|refine wD ?_|refine wE ?_)|((with_reducible refine wN ?_ ?_);focus exact needA)|(with_reducible first|refine FBit.hasT rfl (by assumption) ?_|refine FBit.hasF rfl (by assumption) ?_|refine FBit.shrN rfl (by omega) ?_|refine FBit.half rfl ?_|refine FBit.shl1 rfl (by omega) ?_|refine Fits.inU (by omega) ?_|refine FBit.shrNI rfl (by omega) ?_|refine FBit.shrIN rfl (by omega) (by omega) ?_|refine FBit.shrI rfl (by omega) (by omega) ?_|refine FBit.shl1I rfl (by omega) ?_)|(with_reducible refine FBit.has rfl (fun hq=>?_) (fun hq=>?_))|(with_reducible first|refine FBit.and1 rfl ?_|refine FBit.andN rfl (by omega) (by omega) ?_|refine FBit.orN rfl (by omega) (by omega) ?_|refine FBit.andNotN rfl (by omega) (by omega) ?_)|(with_reducible refine wG ?_)|(refine Need.mk ⟨.inl rfl,Nat.le_trans (m:=2000000) (by have:=hxs x xs rfl;simp only [List.length_cons];omega) (by decide),by have:=hxs x xs rfl;simp only [List.length_cons];omega⟩ ?_)|(with_reducible refine wP ?_)))
     all_goals (try conv=>whnf)
     rw [show 0 + (xs.length + 1) = xs.length + 1 by omega]
     (exact ⟨⟨(g + 1,x :: xs),⟨hlt,hst⟩,by show _ < _;omega,[0,2],(by (refine wO rfl rfl rfl ?_;repeat (first|exact wX|(refine wV rfl (by first|exact LnB.rowS|exact LnB.rowE (Nat.le_refl _) (fun k hk o ho=>by simp [appc])|exact LnB.A) ?_)|(refine CutL.gone (Nat.lt_of_lt_of_le (Nat.lt_succ_self _) (Nat.le_of_ble_eq_true rfl)) ?_)))),allA⟩⟩)
   ·have hxs:=hxs
    (repeat' ((try conv=>whnf);first|(with_reducible first|refine wT ?_|refine wF ?_|(refine wI (fun hq=>?_) (fun hq=>?_) <;> try simp only [zA,zE,zD,zJ,zB,zI,wK,wL] at hq)|refine wA ?_|refine wB ?_|refine wC ?_|refine wD ?_|refine wE ?_)|((with_reducible refine wN ?_ ?_);focus exact needA)|(with_reducible first|refine FBit.hasT rfl (by assumption) ?_|refine FBit.hasF rfl (by assumption) ?_|refine FBit.shrN rfl (by omega) ?_|refine FBit.half rfl ?_|refine FBit.shl1 rfl (by omega) ?_|refine Fits.inU (by omega) ?_|refine FBit.shrNI rfl (by omega) ?_|refine FBit.shrIN rfl (by omega) (by omega) ?_|refine FBit.shrI rfl (by omega) (by omega) ?_|refine FBit.shl1I rfl (by omega) ?_)|(with_reducible refine FBit.has rfl (fun hq=>?_) (fun hq=>?_))|(with_reducible first|refine FBit.and1 rfl ?_|refine FBit.andN rfl (by omega) (by omega) ?_|refine FBit.orN rfl (by omega) (by omega) ?_|refine FBit.andNotN rfl (by omega) (by omega) ?_)|(with_reducible refine wG ?_)|(refine FBit.shl1 (j:=s.C) rfl (by omega) ?_)|(refine FCall.pure (cC) ⟨Ln.sameB _ rfl,True.intro⟩ rfl ?_)|(with_reducible refine wP ?_)))
    all_goals (try conv=>whnf)
    refine FCall.bury 2 [aSh f s,aInts false false (nI (first ++ [g]))] ⟨Ln.sameB _ rfl,Ln.pubE rfl rfl (Nat.le_refl _) (by rw [nI_len,List.length_append,hf,List.length_singleton] <;> omega) (fun k hk o ho=>ext1S hf hk ho),True.intro⟩ ?_
    refine FCall.pure hI ⟨Ln.sameB _ rfl,Ln.sameB _ rfl,True.intro⟩ rfl ?_
    rcases Lg with _|⟨x,xs⟩
    ·(repeat' ((try conv=>whnf);first|(with_reducible first|refine wT ?_|refine wF ?_|(refine wI (fun hq=>?_) (fun hq=>?_) <;> try simp only [zA,zE,zD,zJ,zB,zI,wK,wL] at hq)|refine wA ?_|refine wB ?_|refine wC ?_|refine wD ?_|refine wE ?_)|((with_reducible refine wN ?_ ?_);focus exact needA)|(with_reducible first|refine FBit.hasT rfl (by assumption) ?_|refine FBit.hasF rfl (by assumption) ?_|refine FBit.shrN rfl (by omega) ?_|refine FBit.half rfl ?_|refine FBit.shl1 rfl (by omega) ?_|refine Fits.inU (by omega) ?_|refine FBit.shrNI rfl (by omega) ?_|refine FBit.shrIN rfl (by omega) (by omega) ?_|refine FBit.shrI rfl (by omega) (by omega) ?_|refine FBit.shl1I rfl (by omega) ?_)|(with_reducible refine FBit.has rfl (fun hq=>?_) (fun hq=>?_))|(with_reducible first|refine FBit.and1 rfl ?_|refine FBit.andN rfl (by omega) (by omega) ?_|refine FBit.orN rfl (by omega) (by omega) ?_|refine FBit.andNotN rfl (by omega) (by omega) ?_)|(with_reducible refine wG ?_)|(refine Need.mk ⟨.inr rfl,by decide,by decide⟩ ?_)|(with_reducible refine wP ?_)))
     all_goals (try conv=>whnf)
     (exact ⟨⟨(g + 1,[]),⟨hlt,hst⟩,by show _ < _;omega,[0],Cut.A,allA⟩⟩)
    ·(repeat' ((try conv=>whnf);first|(with_reducible first|refine wT ?_|refine wF ?_|(refine wI (fun hq=>?_) (fun hq=>?_) <;> try simp only [zA,zE,zD,zJ,zB,zI,wK,wL] at hq)|refine wA ?_|refine wB ?_|refine wC ?_|refine wD ?_|refine wE ?_)|((with_reducible refine wN ?_ ?_);focus exact needA)|(with_reducible first|refine FBit.hasT rfl (by assumption) ?_|refine FBit.hasF rfl (by assumption) ?_|refine FBit.shrN rfl (by omega) ?_|refine FBit.half rfl ?_|refine FBit.shl1 rfl (by omega) ?_|refine Fits.inU (by omega) ?_|refine FBit.shrNI rfl (by omega) ?_|refine FBit.shrIN rfl (by omega) (by omega) ?_|refine FBit.shrI rfl (by omega) (by omega) ?_|refine FBit.shl1I rfl (by omega) ?_)|(with_reducible refine FBit.has rfl (fun hq=>?_) (fun hq=>?_))|(with_reducible first|refine FBit.and1 rfl ?_|refine FBit.andN rfl (by omega) (by omega) ?_|refine FBit.orN rfl (by omega) (by omega) ?_|refine FBit.andNotN rfl (by omega) (by omega) ?_)|(with_reducible refine wG ?_)|(refine Need.mk ⟨.inl rfl,Nat.le_trans (m:=2000000) (by have:=hxs x xs rfl;simp only [List.length_cons];omega) (by decide),by have:=hxs x xs rfl;simp only [List.length_cons];omega⟩ ?_)|(with_reducible refine wP ?_)))
     all_goals (try conv=>whnf)
     rw [show 0 + (xs.length + 1) = xs.length + 1 by omega]
     (exact ⟨⟨(g + 1,x :: xs),⟨hlt,hst⟩,by show _ < _;omega,[0,3],(by (refine wO rfl rfl rfl ?_;repeat (first|exact wX|(refine wV rfl (by first|exact LnB.rowS|exact LnB.rowE (Nat.le_refl _) (fun k hk o ho=>by simp [appc])|exact LnB.A) ?_)|(refine CutL.gone (Nat.lt_of_lt_of_le (Nat.lt_succ_self _) (Nat.le_of_ble_eq_true rfl)) ?_)))),allA⟩⟩)
  ·have hxs:∀ x xs,Lg = x :: xs → xs.length ≤ 1000000:=fun x xs e=>by subst e;simp only [List.length_cons] at hlg2;omega
   have hql:q.length ≤ 1000000:=by simp only [List.length_cons] at hlg;omega
   rcases i with _|i
   ·have hxs:=hxs
    (repeat' ((try conv=>whnf);first|(with_reducible first|refine wT ?_|refine wF ?_|(refine wI (fun hq=>?_) (fun hq=>?_) <;> try simp only [zA,zE,zD,zJ,zB,zI,wK,wL] at hq)|refine wA ?_|refine wB ?_|refine wC ?_|refine wD ?_|refine wE ?_)|((with_reducible refine wN ?_ ?_);focus exact needA)|(with_reducible first|refine FBit.hasT rfl (by assumption) ?_|refine FBit.hasF rfl (by assumption) ?_|refine FBit.shrN rfl (by omega) ?_|refine FBit.half rfl ?_|refine FBit.shl1 rfl (by omega) ?_|refine Fits.inU (by omega) ?_|refine FBit.shrNI rfl (by omega) ?_|refine FBit.shrIN rfl (by omega) (by omega) ?_|refine FBit.shrI rfl (by omega) (by omega) ?_|refine FBit.shl1I rfl (by omega) ?_)|(with_reducible refine FBit.has rfl (fun hq=>?_) (fun hq=>?_))|(with_reducible first|refine FBit.and1 rfl ?_|refine FBit.andN rfl (by omega) (by omega) ?_|refine FBit.orN rfl (by omega) (by omega) ?_|refine FBit.andNotN rfl (by omega) (by omega) ?_)|(with_reducible refine wG ?_)|(refine FBit.shl1 (j:=s.C) rfl (by omega) ?_)|(refine FCall.pure (cC) ⟨Ln.sameB _ rfl,True.intro⟩ rfl ?_)|(with_reducible refine wP ?_)))
    all_goals (try conv=>whnf)
    refine FCall.bury 2 [aSh f s,aInts false false (nI (first ++ [g]))] ⟨Ln.sameB _ rfl,Ln.pubE rfl rfl (Nat.le_refl _) (by rw [nI_len,List.length_append,hf,List.length_singleton] <;> omega) (fun k hk o ho=>ext0S hf hk ho),True.intro⟩ ?_
    refine FCall.pure hI ⟨Ln.sameB _ rfl,Ln.sameB _ rfl,True.intro⟩ rfl ?_
    rcases Lg with _|⟨x,xs⟩
    ·(repeat' ((try conv=>whnf);first|(with_reducible first|refine wT ?_|refine wF ?_|(refine wI (fun hq=>?_) (fun hq=>?_) <;> try simp only [zA,zE,zD,zJ,zB,zI,wK,wL] at hq)|refine wA ?_|refine wB ?_|refine wC ?_|refine wD ?_|refine wE ?_)|((with_reducible refine wN ?_ ?_);focus exact needA)|(with_reducible first|refine FBit.hasT rfl (by assumption) ?_|refine FBit.hasF rfl (by assumption) ?_|refine FBit.shrN rfl (by omega) ?_|refine FBit.half rfl ?_|refine FBit.shl1 rfl (by omega) ?_|refine Fits.inU (by omega) ?_|refine FBit.shrNI rfl (by omega) ?_|refine FBit.shrIN rfl (by omega) (by omega) ?_|refine FBit.shrI rfl (by omega) (by omega) ?_|refine FBit.shl1I rfl (by omega) ?_)|(with_reducible refine FBit.has rfl (fun hq=>?_) (fun hq=>?_))|(with_reducible first|refine FBit.and1 rfl ?_|refine FBit.andN rfl (by omega) (by omega) ?_|refine FBit.orN rfl (by omega) (by omega) ?_|refine FBit.andNotN rfl (by omega) (by omega) ?_)|(with_reducible refine wG ?_)|(refine Need.mk ⟨Nat.le_trans (m:=2000000) (by simp only [List.length_nil];omega) (by decide),by simp only [List.length_nil];omega⟩ ?_)|(with_reducible refine wP ?_)))
     all_goals (try conv=>whnf)
     rw [show q.length + 1 + ([]:List (List Int)).length = q.length + 1 from rfl]
     (exact ⟨⟨(g + 1,a :: q),⟨hlt,by rw [hst,List.append_nil]⟩,by show _ < _;omega,[0,3],(by (refine wO rfl rfl rfl ?_;repeat (first|exact wX|(refine wV rfl (by first|exact LnB.rowS|exact LnB.rowE (Nat.le_refl _) (fun k hk o ho=>by rw [appc,if_pos hk])|exact LnB.A) ?_)|(refine CutL.gone (Nat.lt_of_lt_of_le (Nat.lt_succ_self _) (Nat.le_of_ble_eq_true rfl)) ?_)))),allA⟩⟩)
    ·(repeat' ((try conv=>whnf);first|(with_reducible first|refine wT ?_|refine wF ?_|(refine wI (fun hq=>?_) (fun hq=>?_) <;> try simp only [zA,zE,zD,zJ,zB,zI,wK,wL] at hq)|refine wA ?_|refine wB ?_|refine wC ?_|refine wD ?_|refine wE ?_)|((with_reducible refine wN ?_ ?_);focus exact needA)|(with_reducible first|refine FBit.hasT rfl (by assumption) ?_|refine FBit.hasF rfl (by assumption) ?_|refine FBit.shrN rfl (by omega) ?_|refine FBit.half rfl ?_|refine FBit.shl1 rfl (by omega) ?_|refine Fits.inU (by omega) ?_|refine FBit.shrNI rfl (by omega) ?_|refine FBit.shrIN rfl (by omega) (by omega) ?_|refine FBit.shrI rfl (by omega) (by omega) ?_|refine FBit.shl1I rfl (by omega) ?_)|(with_reducible refine FBit.has rfl (fun hq=>?_) (fun hq=>?_))|(with_reducible first|refine FBit.and1 rfl ?_|refine FBit.andN rfl (by omega) (by omega) ?_|refine FBit.orN rfl (by omega) (by omega) ?_|refine FBit.andNotN rfl (by omega) (by omega) ?_)|(with_reducible refine wG ?_)|(refine Need.mk ⟨Nat.le_trans (m:=3000000) (by have:=hxs x xs rfl;simp only [List.length_cons];omega) (by decide),by have:=hxs x xs rfl;simp only [List.length_cons];omega⟩ ?_)|(with_reducible refine wP ?_)))
     all_goals (try conv=>whnf)
     rw [show q.length + 1 + (x :: xs).length = (q ++ x :: xs).length + 1 by simp only [List.length_append,List.length_cons];omega]
     (exact ⟨⟨(g + 1,a :: (q ++ x :: xs)),⟨hlt,hst⟩,by show _ < _;omega,[0,3],(by (refine wO rfl rfl rfl ?_;repeat (first|exact wX|(refine wV rfl (by first|exact LnB.rowS|exact LnB.rowE (Nat.le_refl _) (fun k hk o ho=>getD_appS ho)|exact LnB.A) ?_)|(refine CutL.gone (Nat.lt_of_lt_of_le (Nat.lt_succ_self _) (Nat.le_of_ble_eq_true rfl)) ?_)))),allA⟩⟩)
   ·have hxs:=hxs
    (repeat' ((try conv=>whnf);first|(with_reducible first|refine wT ?_|refine wF ?_|(refine wI (fun hq=>?_) (fun hq=>?_) <;> try simp only [zA,zE,zD,zJ,zB,zI,wK,wL] at hq)|refine wA ?_|refine wB ?_|refine wC ?_|refine wD ?_|refine wE ?_)|((with_reducible refine wN ?_ ?_);focus exact needA)|(with_reducible first|refine FBit.hasT rfl (by assumption) ?_|refine FBit.hasF rfl (by assumption) ?_|refine FBit.shrN rfl (by omega) ?_|refine FBit.half rfl ?_|refine FBit.shl1 rfl (by omega) ?_|refine Fits.inU (by omega) ?_|refine FBit.shrNI rfl (by omega) ?_|refine FBit.shrIN rfl (by omega) (by omega) ?_|refine FBit.shrI rfl (by omega) (by omega) ?_|refine FBit.shl1I rfl (by omega) ?_)|(with_reducible refine FBit.has rfl (fun hq=>?_) (fun hq=>?_))|(with_reducible first|refine FBit.and1 rfl ?_|refine FBit.andN rfl (by omega) (by omega) ?_|refine FBit.orN rfl (by omega) (by omega) ?_|refine FBit.andNotN rfl (by omega) (by omega) ?_)|(with_reducible refine wG ?_)|(refine FBit.shl1 (j:=s.C) rfl (by omega) ?_)|(refine FCall.pure (cC) ⟨Ln.sameB _ rfl,True.intro⟩ rfl ?_)|(with_reducible refine wP ?_)))
    all_goals (try conv=>whnf)
    refine FCall.bury 3 [aSh f s,aInts false false (nI (first ++ [g]))] ⟨Ln.sameB _ rfl,Ln.pubE rfl rfl (Nat.le_refl _) (by rw [nI_len,List.length_append,hf,List.length_singleton] <;> omega) (fun k hk o ho=>ext1S hf hk ho),True.intro⟩ ?_
    refine FCall.pure hI ⟨Ln.sameB _ rfl,Ln.sameB _ rfl,True.intro⟩ rfl ?_
    rcases Lg with _|⟨x,xs⟩
    ·(repeat' ((try conv=>whnf);first|(with_reducible first|refine wT ?_|refine wF ?_|(refine wI (fun hq=>?_) (fun hq=>?_) <;> try simp only [zA,zE,zD,zJ,zB,zI,wK,wL] at hq)|refine wA ?_|refine wB ?_|refine wC ?_|refine wD ?_|refine wE ?_)|((with_reducible refine wN ?_ ?_);focus exact needA)|(with_reducible first|refine FBit.hasT rfl (by assumption) ?_|refine FBit.hasF rfl (by assumption) ?_|refine FBit.shrN rfl (by omega) ?_|refine FBit.half rfl ?_|refine FBit.shl1 rfl (by omega) ?_|refine Fits.inU (by omega) ?_|refine FBit.shrNI rfl (by omega) ?_|refine FBit.shrIN rfl (by omega) (by omega) ?_|refine FBit.shrI rfl (by omega) (by omega) ?_|refine FBit.shl1I rfl (by omega) ?_)|(with_reducible refine FBit.has rfl (fun hq=>?_) (fun hq=>?_))|(with_reducible first|refine FBit.and1 rfl ?_|refine FBit.andN rfl (by omega) (by omega) ?_|refine FBit.orN rfl (by omega) (by omega) ?_|refine FBit.andNotN rfl (by omega) (by omega) ?_)|(with_reducible refine wG ?_)|(refine Need.mk ⟨Nat.le_trans (m:=2000000) (by simp only [List.length_nil];omega) (by decide),by simp only [List.length_nil];omega⟩ ?_)|(with_reducible refine wP ?_)))
     all_goals (try conv=>whnf)
     rw [show q.length + 1 + ([]:List (List Int)).length = q.length + 1 from rfl]
     (exact ⟨⟨(g + 1,a :: q),⟨hlt,by rw [hst,List.append_nil]⟩,by show _ < _;omega,[0,4],(by (refine wO rfl rfl rfl ?_;repeat (first|exact wX|(refine wV rfl (by first|exact LnB.rowS|exact LnB.rowE (Nat.le_refl _) (fun k hk o ho=>by rw [appc,if_pos hk])|exact LnB.A) ?_)|(refine CutL.gone (Nat.lt_of_lt_of_le (Nat.lt_succ_self _) (Nat.le_of_ble_eq_true rfl)) ?_)))),allA⟩⟩)
    ·(repeat' ((try conv=>whnf);first|(with_reducible first|refine wT ?_|refine wF ?_|(refine wI (fun hq=>?_) (fun hq=>?_) <;> try simp only [zA,zE,zD,zJ,zB,zI,wK,wL] at hq)|refine wA ?_|refine wB ?_|refine wC ?_|refine wD ?_|refine wE ?_)|((with_reducible refine wN ?_ ?_);focus exact needA)|(with_reducible first|refine FBit.hasT rfl (by assumption) ?_|refine FBit.hasF rfl (by assumption) ?_|refine FBit.shrN rfl (by omega) ?_|refine FBit.half rfl ?_|refine FBit.shl1 rfl (by omega) ?_|refine Fits.inU (by omega) ?_|refine FBit.shrNI rfl (by omega) ?_|refine FBit.shrIN rfl (by omega) (by omega) ?_|refine FBit.shrI rfl (by omega) (by omega) ?_|refine FBit.shl1I rfl (by omega) ?_)|(with_reducible refine FBit.has rfl (fun hq=>?_) (fun hq=>?_))|(with_reducible first|refine FBit.and1 rfl ?_|refine FBit.andN rfl (by omega) (by omega) ?_|refine FBit.orN rfl (by omega) (by omega) ?_|refine FBit.andNotN rfl (by omega) (by omega) ?_)|(with_reducible refine wG ?_)|(refine Need.mk ⟨Nat.le_trans (m:=3000000) (by have:=hxs x xs rfl;simp only [List.length_cons];omega) (by decide),by have:=hxs x xs rfl;simp only [List.length_cons];omega⟩ ?_)|(with_reducible refine wP ?_)))
     all_goals (try conv=>whnf)
     rw [show q.length + 1 + (x :: xs).length = (q ++ x :: xs).length + 1 by simp only [List.length_append,List.length_cons];omega]
     (exact ⟨⟨(g + 1,a :: (q ++ x :: xs)),⟨hlt,hst⟩,by show _ < _;omega,[0,4],(by (refine wO rfl rfl rfl ?_;repeat (first|exact wX|(refine wV rfl (by first|exact LnB.rowS|exact LnB.rowE (Nat.le_refl _) (fun k hk o ho=>getD_appS ho)|exact LnB.A) ?_)|(refine CutL.gone (Nat.lt_of_lt_of_le (Nat.lt_succ_self _) (Nat.le_of_ble_eq_true rfl)) ?_)))),allA⟩⟩)
 ·obtain rfl:g = 2 ^ s.C:=by omega
  rw [hL]
  rcases lst with _|⟨a,q⟩
  all_goals
   (repeat' ((try conv=>whnf);first|(with_reducible first|refine wT ?_|refine wF ?_|(refine wI (fun hq=>?_) (fun hq=>?_) <;> try simp only [zA,zE,zD,zJ,zB,zI,wK,wL] at hq)|refine wA ?_|refine wB ?_|refine wC ?_|refine wD ?_|refine wE ?_)|((with_reducible refine wN ?_ ?_);focus exact needA)|(with_reducible first|refine FBit.hasT rfl (by assumption) ?_|refine FBit.hasF rfl (by assumption) ?_|refine FBit.shrN rfl (by omega) ?_|refine FBit.half rfl ?_|refine FBit.shl1 rfl (by omega) ?_|refine Fits.inU (by omega) ?_|refine FBit.shrNI rfl (by omega) ?_|refine FBit.shrIN rfl (by omega) (by omega) ?_|refine FBit.shrI rfl (by omega) (by omega) ?_|refine FBit.shl1I rfl (by omega) ?_)|(with_reducible refine FBit.has rfl (fun hq=>?_) (fun hq=>?_))|(with_reducible first|refine FBit.and1 rfl ?_|refine FBit.andN rfl (by omega) (by omega) ?_|refine FBit.orN rfl (by omega) (by omega) ?_|refine FBit.andNotN rfl (by omega) (by omega) ?_)|(with_reducible refine wG ?_)|(refine FBit.shl1 (j:=s.C) rfl (by omega) ?_)|(refine FCall.pure (cC) ⟨Ln.sameB _ rfl,True.intro⟩ rfl ?_)|(with_reducible refine wP ?_)))
   all_goals (try conv=>whnf)
  ·exact ⟨⟨aLS [],[],[],Cut.nil _,Ln.slz _ _ _ _ _ _ _ (fun _=>rfl),rfl,rfl⟩⟩
  ·exact ⟨⟨aLS (a :: q),[],[],Cut.nil _,Ln.pubE (goneB rfl) rfl (Nat.le_refl _) rfl (fun _ _ _ _=>rfl),rfl,rfl⟩⟩
theorem ev_ok (f:ShF) (s:Sheet) (h1:1 ≤ s.R) (h3:s.R ≤ 3) (hC:s.C ≤ 3):∀ r,r ≤ s.R → EvOk f s r
 | 0,_=>ev_zero f s h1 h3
 | r + 1,h=>ev_step f s h1 h3 hC r (ev_ok f s h1 h3 hC r (by omega))
end Go.Proofs.Ytlffjnmbpoemnaa

namespace Go.Proofs.Ytlffjnmbpoemnaa
open Go.RowKit

set_option maxHeartbeats 4000000
set_option maxRecDepth 100000
theorem sameInts_nil : ACall Try.prog 18 [nilS,nilS] [] (fun r h=>r = .bool true ∧ h = []):=by
 (refine fcall_of mixed Try.func18 rfl (by decide) (hs:={}) ?k (ac:=?ac) ?c (rs:=?rs) ?r ?l ?H;(case k=>kernel_rfl);(case c=>(conv=>(lhs;cbv)));(case r=>(conv=>(lhs;cbv)));(case l=>exact Nat.le_of_ble_eq_true rfl))
 (repeat' ((try conv=>whnf);first|(with_reducible first|refine wT ?_|refine wF ?_|(refine wI (fun hq=>?_) (fun hq=>?_) <;> try simp only [zA,zE,zD,zJ,zB,zI,wK,wL] at hq)|refine wA ?_|refine wB ?_|refine wC ?_|refine wD ?_|refine wE ?_)|((with_reducible refine wN ?_ ?_);focus exact needA)|(with_reducible refine wG ?_)|(with_reducible refine wP ?_)))
 all_goals (try conv=>whnf)
 refine FLoop.of (ACalls.mono _) (X:=Unit) (fun _=>[(0,nilS),(1,nilS),(5,AI (0:Nat))]) (fun _=>[]) (fun _=>True) (fun _=>0) () ⟨True.intro,[],Cut.A,allA⟩ ?_
 rintro _ _
 (repeat' ((try conv=>whnf);first|(with_reducible first|refine wT ?_|refine wF ?_|(refine wI (fun hq=>?_) (fun hq=>?_) <;> try simp only [zA,zE,zD,zJ,zB,zI,wK,wL] at hq)|refine wA ?_|refine wB ?_|refine wC ?_|refine wD ?_|refine wE ?_)|((with_reducible refine wN ?_ ?_);focus exact needA)|(with_reducible refine wG ?_)|(with_reducible refine wP ?_)))
 all_goals (try conv=>whnf)
 all_goals ((refine ⟨⟨_,[],[],Cut.nil _,Ln.sameB _ rfl,?_,rfl⟩⟩);rfl)
end Go.Proofs.Ytlffjnmbpoemnaa

namespace Go.Proofs.Ytlffjnmbpoemnaa
open Go.RowKit

theorem evS_mem {C:Nat}:∀ {r:Nat} {v:List Nat},v ∈ evS C r ↔ v.length = r ∧ ∀ x ∈ v,x < 2 ^ C
 | 0,v=>by
  simp only [evS,List.mem_singleton,List.length_eq_zero_iff]
  exact ⟨fun h=>⟨h,fun x hx=>by rw [h] at hx;cases hx⟩,fun h=>h.1⟩
 | r + 1,v=>by
  simp only [evS,List.mem_flatMap,List.mem_range,List.mem_map]
  constructor
  ·rintro ⟨g,hg,u,hu,rfl⟩
   obtain ⟨h1,h2⟩:=evS_mem.1 hu
   refine ⟨by rw [List.length_cons,h1],fun x hx=>?_⟩
   rcases List.mem_cons.1 hx with rfl|hx
   ·exact hg
   ·exact h2 x hx
  ·rintro ⟨h1,h2⟩
   cases v with
   | nil=>cases h1
   | cons g u=>exact ⟨g,h2 g List.mem_cons_self,u,evS_mem.2 ⟨by simpa using h1,fun x hx=>h2 x (List.mem_cons_of_mem _ hx)⟩,rfl⟩
theorem nI_ok {s:Sheet} {v:List Nat} (h:v ∈ evS s.C s.R):MaskOk s (nI v):=by
 obtain ⟨h1,h2⟩:=evS_mem.1 h
 refine ⟨by rw [nI_len,h1],fun r hr=>?_⟩
 have hr':r < v.length:=by omega
 have e:(nI v).getD r 0 = (v[r]:Int):=by simp [nI,List.getD,List.getElem?_eq_getElem hr']
 have:=h2 v[r] (List.getElem_mem hr')
 rw [e]
 omega
theorem ok_nI {s:Sheet} {m:List Int} (h:MaskOk s m):∃ v,v ∈ evS s.C s.R ∧ nI v = m:=by
 have key:∀ x ∈ m,0 ≤ x ∧ x < ((2 ^ s.C:Nat):Int):=fun x hx=>by
  obtain ⟨k,hk,rfl⟩:=List.getElem_of_mem hx
  have:=h.bd k (by rw [← h.len];exact hk)
  simp only [List.getD,List.getElem?_eq_getElem hk,Option.getD_some] at this
  exact this
 refine ⟨m.map Int.toNat,evS_mem.2 ⟨by rw [List.length_map,h.len],fun x hx=>?_⟩,?_⟩
 ·obtain ⟨y,hy,rfl⟩:=List.mem_map.1 hx
  have:=key y hy
  omega
 ·unfold nI
  rw [List.map_map]
  refine (List.map_congr_left fun x hx=>?_).trans (List.map_id m)
  have:=key x hx
  show ((x.toNat:Nat):Int) = x
  omega
theorem lex_total {a b:List Int}:∀ {n k:Nat},¬ lexK a b n k < 0 → ¬ lexK b a n k < 0 → ∀ i,k ≤ i → i < k + n → a.getD i 0 = b.getD i 0
 | 0,_,_,_,i,h1,h2=>by omega
 | n + 1,k,ha,hb,i,h1,h2=>by
  unfold lexK at ha hb
  by_cases e:a.getD k 0 = b.getD k 0
  ·rw [if_pos e] at ha
   rw [if_pos e.symm] at hb
   by_cases hk:i = k
   ·subst hk;exact e
   ·exact lex_total ha hb i (by omega) (by omega)
  ·rw [if_neg e] at ha
   rw [if_neg (fun h=>e h.symm)] at hb
   unfold cmpI at ha hb
   by_cases hlt:a.getD k 0 < b.getD k 0
   ·rw [if_pos hlt] at ha;exact absurd (by decide) ha
   ·rw [if_pos (show b.getD k 0 < a.getD k 0 by omega)] at hb;exact absurd (by decide) hb
theorem lex_self {a:List Int}:∀ n k,lexK a a n k = 0
 | 0,_=>rfl
 | n + 1,k=>by unfold lexK;rw [if_pos rfl];exact lex_self n (k + 1)
theorem cmp_self (w:Bool) (s:Sheet) (a:List Int):¬ cmpM w s a a < 0:=by
 rw [cmpM_lt,lex_self];omega
theorem cmp_total {w:Bool} {s:Sheet} {a b:List Int} (ha:MaskOk s a) (hb:MaskOk s b) (h1:¬ cmpM w s a b < 0) (h2:¬ cmpM w s b a < 0):a = b:=by
 have e:a.length = b.length:=by rw [ha.len,hb.len]
 rw [cmpM_lt] at h1 h2
 have h3:¬ lexK a b a.length 0 < 0:=fun h=>h1 (by omega)
 have h4:¬ lexK b a b.length 0 < 0:=fun h=>h2 (by omega)
 rw [← e] at h4
 have hl:=lex_total h3 h4
 refine List.ext_getElem e fun i hi hj=>?_
 have:=hl i (Nat.zero_le _) (by omega)
 simpa only [List.getD,List.getElem?_eq_getElem hi,List.getElem?_eq_getElem hj,Option.getD_some] using this
/-- The best of the first masks. -/
def InvB (w:Bool) (s:Sheet) (L:Nat → List Int) (i:Nat):Option (List Int) → Prop
 | none=>∀ k,k < i → safeS s (L k) = false
 | some b=>MaskOk s b ∧ safeS s b = true ∧ ∀ k,k < i → safeS s (L k) = true → ¬ cmpM w s (L k) b < 0
theorem InvB.skip {w:Bool} {s:Sheet} {L:Nat → List Int} {i:Nat} {o:Option (List Int)} (h:InvB w s L i o) (hs:safeS s (L i) = false):InvB w s L (i + 1) o:=by
 cases o with
 | none=>exact below_step h hs
 | some b=>exact ⟨h.1,h.2.1,below_step h.2.2 fun h'=>by rw [hs] at h';cases h'⟩
theorem InvB.worse {w:Bool} {s:Sheet} {L:Nat → List Int} {i:Nat} {b:List Int} (h:InvB w s L i (some b)) (hc:¬ cmpM w s (L i) b < 0):InvB w s L (i + 1) (some b) :=
 ⟨h.1,h.2.1,below_step h.2.2 fun _=>hc⟩
theorem InvB.first {w:Bool} {s:Sheet} {L:Nat → List Int} {i:Nat} (h:InvB w s L i none) (hm:MaskOk s (L i)) (hs:safeS s (L i) = true):InvB w s L (i + 1) (some (L i)) :=
 ⟨hm,hs,below_step (fun k hk h'=>by rw [h k hk] at h';cases h') fun _=>cmp_self w s _⟩
theorem InvB.end {w:Bool} {s:Sheet} (hs:SheetOk s) {L:List (List Int)} (hL:L = (evS s.C s.R).map nI) {o:Option (List Int)} (h:InvB w s (fun k=>L.getD k []) L.length o):bestO w s = o:=by
 have all:∀ m,MaskOk s m → ∃ k,k < L.length ∧ L.getD k [] = m:=fun m hm=>by
  obtain ⟨v,hv,e⟩:=ok_nI hm
  have:m ∈ L:=by rw [hL,← e];exact List.mem_map_of_mem hv
  obtain ⟨k,hk,e2⟩:=List.getElem_of_mem this
  exact ⟨k,hk,by simp only [List.getD,List.getElem?_eq_getElem hk,Option.getD_some];exact e2⟩
 have hb:=best_all w hs
 cases o with
 | none =>
  cases hbo:bestO w s with
  | none=>rfl
  | some g =>
   rw [hbo] at hb
   obtain ⟨k,hk,e⟩:=all g hb.1
   have h':safeS s (L.getD k []) = false:=h k hk
   rw [e,hb.2.1] at h';cases h'
 | some b =>
  obtain ⟨h1,h2,h3⟩:=h
  cases hbo:bestO w s with
  | none=>rw [hbo] at hb;rw [hb b h1] at h2;cases h2
  | some g =>
   rw [hbo] at hb
   obtain ⟨g1,g2,g3⟩:=hb
   obtain ⟨k,hk,e⟩:=all g g1
   have h4:=h3 k hk
   simp only at h4
   rw [e] at h4
   rw [cmp_total g1 h1 (h4 g2) (g3 b h1 h2)]
def outV : Option (List Int) → AV
 | none=>nilS
 | some b=>aInts false false b
set_option maxHeartbeats 16000000
set_option maxRecDepth 100000
theorem rBest_ok (w:Bool) (f:ShF) (s:Sheet) (hn:Near s) (h3:s.ok = true → s.R ≤ 3 ∧ s.C ≤ 3):ACall Try.prog 50 [aSh f s,.bool w] [] (fun v h=>v = bestV w s ∧ h = []):=by
 have cC:=refCheck_ok f s hn
 (refine fcall_of mixed Try.func50 rfl (by decide) (hs:={}) ?k (ac:=?ac) ?c (rs:=?rs) ?r ?l ?H;(case k=>kernel_rfl);(case c=>(conv=>(lhs;cbv)));(case r=>(conv=>(lhs;cbv)));(case l=>exact Nat.le_of_ble_eq_true rfl))
 cases hk:s.ok
 ·rw [show checkS s = 80 from by unfold checkS;rw [hk];rfl] at cC
  rw [show bestV w s = .tup 2 (ofL [nilS,AI 80]) from by unfold bestV;rw [hk];rfl]
  (repeat' ((try conv=>whnf);first|(with_reducible first|refine wT ?_|refine wF ?_|(refine wI (fun hq=>?_) (fun hq=>?_) <;> try simp only [zA,zE,zD,zJ,zB,zI,wK,wL] at hq)|refine wA ?_|refine wB ?_|refine wC ?_|refine wD ?_|refine wE ?_)|((with_reducible refine wN ?_ ?_);focus exact needA)|(with_reducible refine wG ?_)|(refine FCall.pure (cC) ⟨Ln.sameB _ rfl,True.intro⟩ rfl ?_)|(with_reducible refine wP ?_)))
  all_goals (try conv=>whnf)
  all_goals ((refine ⟨⟨_,[],[],Cut.nil _,Ln.sameB _ rfl,?_,rfl⟩⟩);rfl)
 rw [show checkS s = 0 from by unfold checkS;rw [hk];rfl] at cC
 obtain ⟨hR3,hC3⟩:=h3 hk
 have hs:=sheet_d hk
 have r1:=hs.r1
 have cE:=ev_ok f s r1 hR3 hC3 s.R (Nat.le_refl _) 0 (Nat.zero_add _) [] rfl true true (fun h=>by omega)
 obtain ⟨L,hL⟩:∃ L,L = (evS s.C s.R).map nI:=⟨_,rfl⟩
 rw [show ((evS s.C s.R).map fun v=>nI ([] ++ v)) = L from hL.symm] at cE
 have hLl:L.length ≤ 512:=by
  rw [hL,List.length_map]
  exact Nat.le_trans (evS_len s.C hC3 s.R) (Nat.le_trans (Nat.pow_le_pow_right (by decide) hR3) (by decide))
 have hLm:∀ k,k < L.length → MaskOk s (L.getD k []):=fun k hk=>by
  have:L.getD k [] ∈ L:=by simp only [List.getD,List.getElem?_eq_getElem hk,Option.getD_some];exact List.getElem_mem hk
  rw [hL] at this
  obtain ⟨v,hv,e⟩:=List.mem_map.1 this
  rw [hL,← e];exact nI_ok hv
 have hLn:∀ k,(L.getD k []).length = s.R ∨ safeS s (L.getD k []) = false ∨ ¬ k < L.length:=fun k=>by
  by_cases hk:k < L.length
  ·exact .inl (hLm k hk).len
  ·exact .inr (.inr hk)
 have fin:=fun o=>InvB.end (w:=w) hs hL (o:=o)
 clear hL
 (repeat' ((try conv=>whnf);first|(with_reducible first|refine wT ?_|refine wF ?_|(refine wI (fun hq=>?_) (fun hq=>?_) <;> try simp only [zA,zE,zD,zJ,zB,zI,wK,wL] at hq)|refine wA ?_|refine wB ?_|refine wC ?_|refine wD ?_|refine wE ?_)|((with_reducible refine wN ?_ ?_);focus exact needA)|(with_reducible refine wG ?_)|(refine FCall.pure (cC) ⟨Ln.sameB _ rfl,True.intro⟩ rfl ?_)|(refine FCall.pure cE ⟨Ln.sameB _ rfl,Ln.slz _ _ _ _ _ _ _ (fun h=>h),True.intro⟩ rfl ?_)|(with_reducible refine wP ?_)))
 all_goals (try conv=>whnf)
 refine FLoop.of (ACalls.mono _) (X:=Nat × Option (List Int)) (fun x=>[(1,.bool w),(2,.ptr 0 0),(6,outV x.2),(7,aLS L),(8,AI x.1)]) (fun _=>[.box 3 (cSh f s)]) (fun x=>x.1 ≤ L.length ∧ InvB w s (fun k=>L.getD k []) x.1 x.2) (fun x=>L.length - x.1) (0,none) ⟨⟨Nat.zero_le _,fun k hk=>absurd hk (Nat.not_lt_zero k)⟩,[0],Cut.A,allA⟩ ?_
 rintro ⟨i,o⟩ ⟨hi,hI⟩
 simp only at hi hI
 by_cases hlt:i < L.length
 ·have hm:=hLm i hlt
  have cI:=rIsSafe_ok f s hs hR3 false false (L.getD i []) hm
  cases hsf:safeS s (L.getD i [])
  ·rw [hsf] at cI
   have hI2:=hI.skip hsf
   rcases o with _|b
   ·(repeat' ((try conv=>whnf);first|(with_reducible first|refine FCond.t rfl ?_|refine FCond.f rfl ?_)|((with_reducible refine FCond.uT (fun hq=>?_));rw [hq];(with_reducible refine FCond.t rfl ?_);clear hq)|((with_reducible refine FCond.uF (fun hq=>?_));rw [hq];(with_reducible refine FCond.f rfl ?_);clear hq)|((with_reducible refine wJ (fun hq=>?_) (fun hq=>?_)) <;> (rw [hq];(with_reducible first|refine FCond.t rfl ?_|refine FCond.f rfl ?_);(try simp only [zA,zE,zD,zJ,zB,zI,wK,wL] at hq)))|(with_reducible first|refine wA ?_|refine wB ?_|refine wC ?_|refine wD ?_|refine wE ?_)|((with_reducible refine wN ?_ ?_);focus exact needA)|(with_reducible refine wG ?_)|(refine FCall.pure (cI) ⟨Ln.sameB _ rfl,Ln.sameB _ rfl,True.intro⟩ rfl ?_)|(with_reducible refine wP ?_)))
    all_goals (try conv=>whnf)
    exact ⟨⟨(i + 1,none),⟨hlt,hI2⟩,by show L.length - (i + 1) < L.length - i;omega,[0],Cut.A,allA⟩⟩
   ·have cB:=better_ok w f s hs false false (L.getD i []) hm false false b hI.1
    cases hc:decide (cmpM w s (L.getD i []) b < 0)
    ·rw [hc] at cB
     (repeat' ((try conv=>whnf);first|(with_reducible first|refine FCond.t rfl ?_|refine FCond.f rfl ?_)|((with_reducible refine FCond.uT (fun hq=>?_));rw [hq];(with_reducible refine FCond.t rfl ?_);clear hq)|((with_reducible refine FCond.uF (fun hq=>?_));rw [hq];(with_reducible refine FCond.f rfl ?_);clear hq)|((with_reducible refine wJ (fun hq=>?_) (fun hq=>?_)) <;> (rw [hq];(with_reducible first|refine FCond.t rfl ?_|refine FCond.f rfl ?_);(try simp only [zA,zE,zD,zJ,zB,zI,wK,wL] at hq)))|(with_reducible first|refine wA ?_|refine wB ?_|refine wC ?_|refine wD ?_|refine wE ?_)|((with_reducible refine wN ?_ ?_);focus exact needA)|(with_reducible refine wG ?_)|(refine FCall.pure (cI) ⟨Ln.sameB _ rfl,Ln.sameB _ rfl,True.intro⟩ rfl ?_)|(refine FCall.pure (cB) ⟨Ln.sameB _ rfl,Ln.sameB _ rfl,Ln.sameB _ rfl,Ln.sameB _ rfl,True.intro⟩ rfl ?_)|(with_reducible refine wP ?_)))
     all_goals (try conv=>whnf)
     exact ⟨⟨(i + 1,some b),⟨hlt,hI2⟩,by show L.length - (i + 1) < L.length - i;omega,[0],Cut.A,allA⟩⟩
    ·rw [hc] at cB
     (repeat' ((try conv=>whnf);first|(with_reducible first|refine FCond.t rfl ?_|refine FCond.f rfl ?_)|((with_reducible refine FCond.uT (fun hq=>?_));rw [hq];(with_reducible refine FCond.t rfl ?_);clear hq)|((with_reducible refine FCond.uF (fun hq=>?_));rw [hq];(with_reducible refine FCond.f rfl ?_);clear hq)|((with_reducible refine wJ (fun hq=>?_) (fun hq=>?_)) <;> (rw [hq];(with_reducible first|refine FCond.t rfl ?_|refine FCond.f rfl ?_);(try simp only [zA,zE,zD,zJ,zB,zI,wK,wL] at hq)))|(with_reducible first|refine wA ?_|refine wB ?_|refine wC ?_|refine wD ?_|refine wE ?_)|((with_reducible refine wN ?_ ?_);focus exact needA)|(with_reducible refine wG ?_)|(refine FCall.pure (cI) ⟨Ln.sameB _ rfl,Ln.sameB _ rfl,True.intro⟩ rfl ?_)|(refine FCall.pure (cB) ⟨Ln.sameB _ rfl,Ln.sameB _ rfl,Ln.sameB _ rfl,Ln.sameB _ rfl,True.intro⟩ rfl ?_)|(with_reducible refine wP ?_)))
     all_goals (try conv=>whnf)
     exact ⟨⟨(i + 1,some b),⟨hlt,hI2⟩,by show L.length - (i + 1) < L.length - i;omega,[0],Cut.A,allA⟩⟩
  ·rw [hsf] at cI
   rcases o with _|b
   ·have hI2:=hI.first hm hsf
    (repeat' ((try conv=>whnf);first|(with_reducible first|refine FCond.t rfl ?_|refine FCond.f rfl ?_)|((with_reducible refine FCond.uT (fun hq=>?_));rw [hq];(with_reducible refine FCond.t rfl ?_);clear hq)|((with_reducible refine FCond.uF (fun hq=>?_));rw [hq];(with_reducible refine FCond.f rfl ?_);clear hq)|((with_reducible refine wJ (fun hq=>?_) (fun hq=>?_)) <;> (rw [hq];(with_reducible first|refine FCond.t rfl ?_|refine FCond.f rfl ?_);(try simp only [zA,zE,zD,zJ,zB,zI,wK,wL] at hq)))|(with_reducible first|refine wA ?_|refine wB ?_|refine wC ?_|refine wD ?_|refine wE ?_)|((with_reducible refine wN ?_ ?_);focus exact needA)|(with_reducible refine wG ?_)|(refine FCall.pure (cI) ⟨Ln.sameB _ rfl,Ln.sameB _ rfl,True.intro⟩ rfl ?_)|(with_reducible refine wP ?_)))
    all_goals (try conv=>whnf)
    exact ⟨⟨(i + 1,some (L.getD i [])),⟨hlt,hI2⟩,by show L.length - (i + 1) < L.length - i;omega,[0],Cut.A,allA⟩⟩
   ·have cB:=better_ok w f s hs false false (L.getD i []) hm false false b hI.1
    cases hc:decide (cmpM w s (L.getD i []) b < 0)
    ·rw [hc] at cB
     have hI2:=hI.worse (of_decide_eq_false hc)
     (repeat' ((try conv=>whnf);first|(with_reducible first|refine FCond.t rfl ?_|refine FCond.f rfl ?_)|((with_reducible refine FCond.uT (fun hq=>?_));rw [hq];(with_reducible refine FCond.t rfl ?_);clear hq)|((with_reducible refine FCond.uF (fun hq=>?_));rw [hq];(with_reducible refine FCond.f rfl ?_);clear hq)|((with_reducible refine wJ (fun hq=>?_) (fun hq=>?_)) <;> (rw [hq];(with_reducible first|refine FCond.t rfl ?_|refine FCond.f rfl ?_);(try simp only [zA,zE,zD,zJ,zB,zI,wK,wL] at hq)))|(with_reducible first|refine wA ?_|refine wB ?_|refine wC ?_|refine wD ?_|refine wE ?_)|((with_reducible refine wN ?_ ?_);focus exact needA)|(with_reducible refine wG ?_)|(refine FCall.pure (cI) ⟨Ln.sameB _ rfl,Ln.sameB _ rfl,True.intro⟩ rfl ?_)|(refine FCall.pure (cB) ⟨Ln.sameB _ rfl,Ln.sameB _ rfl,Ln.sameB _ rfl,Ln.sameB _ rfl,True.intro⟩ rfl ?_)|(with_reducible refine wP ?_)))
     all_goals (try conv=>whnf)
     exact ⟨⟨(i + 1,some b),⟨hlt,hI2⟩,by show L.length - (i + 1) < L.length - i;omega,[0],Cut.A,allA⟩⟩
    ·rw [hc] at cB
     have hI2:InvB w s (fun k=>L.getD k []) (i + 1) (some (L.getD i [])):=⟨hm,hsf,below_step (fun k hk h' hlt2=>hI.2.2 k hk h' (cmpM_trans (by rw [(hLm k (by omega)).len,hm.len]) hlt2 (of_decide_eq_true hc))) fun _=>cmp_self w s _⟩
     (repeat' ((try conv=>whnf);first|(with_reducible first|refine FCond.t rfl ?_|refine FCond.f rfl ?_)|((with_reducible refine FCond.uT (fun hq=>?_));rw [hq];(with_reducible refine FCond.t rfl ?_);clear hq)|((with_reducible refine FCond.uF (fun hq=>?_));rw [hq];(with_reducible refine FCond.f rfl ?_);clear hq)|((with_reducible refine wJ (fun hq=>?_) (fun hq=>?_)) <;> (rw [hq];(with_reducible first|refine FCond.t rfl ?_|refine FCond.f rfl ?_);(try simp only [zA,zE,zD,zJ,zB,zI,wK,wL] at hq)))|(with_reducible first|refine wA ?_|refine wB ?_|refine wC ?_|refine wD ?_|refine wE ?_)|((with_reducible refine wN ?_ ?_);focus exact needA)|(with_reducible refine wG ?_)|(refine FCall.pure (cI) ⟨Ln.sameB _ rfl,Ln.sameB _ rfl,True.intro⟩ rfl ?_)|(refine FCall.pure (cB) ⟨Ln.sameB _ rfl,Ln.sameB _ rfl,Ln.sameB _ rfl,Ln.sameB _ rfl,True.intro⟩ rfl ?_)|(with_reducible refine wP ?_)))
     all_goals (try conv=>whnf)
     exact ⟨⟨(i + 1,some (L.getD i [])),⟨hlt,hI2⟩,by show L.length - (i + 1) < L.length - i;omega,[0],Cut.A,allA⟩⟩
 ·obtain rfl:i = L.length:=by omega
  have hbo:=fin o hI
  rcases o with _|b
  ·rw [show bestV w s = .tup 2 (ofL [nilS,AI 3]) from by unfold bestV;rw [hk,hbo];rfl]
   (repeat' ((try conv=>whnf);first|(with_reducible first|refine FCond.t rfl ?_|refine FCond.f rfl ?_)|((with_reducible refine FCond.uT (fun hq=>?_));rw [hq];(with_reducible refine FCond.t rfl ?_);clear hq)|((with_reducible refine FCond.uF (fun hq=>?_));rw [hq];(with_reducible refine FCond.f rfl ?_);clear hq)|((with_reducible refine wJ (fun hq=>?_) (fun hq=>?_)) <;> (rw [hq];(with_reducible first|refine FCond.t rfl ?_|refine FCond.f rfl ?_);(try simp only [zA,zE,zD,zJ,zB,zI,wK,wL] at hq)))|(with_reducible first|refine wA ?_|refine wB ?_|refine wC ?_|refine wD ?_|refine wE ?_)|((with_reducible refine wN ?_ ?_);focus exact needA)|(with_reducible refine wG ?_)|(with_reducible refine wP ?_)))
   all_goals (try conv=>whnf)
   all_goals ((refine ⟨⟨_,[],[],Cut.nil _,Ln.sameB _ rfl,?_,rfl⟩⟩);rfl)
  ·rw [show bestV w s = .tup 2 (ofL [aInts false false b,AI 0]) from by unfold bestV;rw [hk,hbo];rfl]
   (repeat' ((try conv=>whnf);first|(with_reducible first|refine FCond.t rfl ?_|refine FCond.f rfl ?_)|((with_reducible refine FCond.uT (fun hq=>?_));rw [hq];(with_reducible refine FCond.t rfl ?_);clear hq)|((with_reducible refine FCond.uF (fun hq=>?_));rw [hq];(with_reducible refine FCond.f rfl ?_);clear hq)|((with_reducible refine wJ (fun hq=>?_) (fun hq=>?_)) <;> (rw [hq];(with_reducible first|refine FCond.t rfl ?_|refine FCond.f rfl ?_);(try simp only [zA,zE,zD,zJ,zB,zI,wK,wL] at hq)))|(with_reducible first|refine wA ?_|refine wB ?_|refine wC ?_|refine wD ?_|refine wE ?_)|((with_reducible refine wN ?_ ?_);focus exact needA)|(with_reducible refine wG ?_)|(with_reducible refine wP ?_)))
   all_goals (try conv=>whnf)
   all_goals ((refine ⟨⟨_,[],[],Cut.nil _,Ln.sameB _ rfl,?_,rfl⟩⟩);rfl)
theorem rLeast_ok (f:ShF) (s:Sheet) (hn:Near s) (h3:s.ok = true → s.R ≤ 3 ∧ s.C ≤ 3):ACall Try.prog 22 [aSh f s] [] (fun v h=>v = bestV false s ∧ h = []):=by
 have cB:=rBest_ok false f s hn h3
 (refine fcall_of mixed Try.func22 rfl (by decide) (hs:={}) ?k (ac:=?ac) ?c (rs:=?rs) ?r ?l ?H;(case k=>kernel_rfl);(case c=>(conv=>(lhs;cbv)));(case r=>(conv=>(lhs;cbv)));(case l=>exact Nat.le_of_ble_eq_true rfl))
 obtain ⟨x,y,hv⟩:∃ (x:Option (List Int)) (y:Int),bestV false s = .tup 2 (ofL [outV x,AI y]):=by
  unfold bestV
  split
  ·split
   ·exact ⟨none,_,rfl⟩
   ·exact ⟨some _,_,rfl⟩
  ·exact ⟨none,_,rfl⟩
 rw [hv] at cB ⊢
 rcases x with _|x
 all_goals
  (repeat' ((try conv=>whnf);first|(with_reducible first|refine wT ?_|refine wF ?_|(refine wI (fun hq=>?_) (fun hq=>?_) <;> try simp only [zA,zE,zD,zJ,zB,zI,wK,wL] at hq)|refine wA ?_|refine wB ?_|refine wC ?_|refine wD ?_|refine wE ?_)|((with_reducible refine wN ?_ ?_);focus exact needA)|(with_reducible refine wG ?_)|(refine FCall.pure (cB) ⟨Ln.sameB _ rfl,Ln.sameB _ rfl,True.intro⟩ rfl ?_)|(with_reducible refine wP ?_)))
  all_goals (try conv=>whnf)
  all_goals ((refine ⟨⟨_,[],[],Cut.nil _,Ln.sameB _ rfl,?_,rfl⟩⟩);rfl)
theorem rWorth_ok (f:ShF) (s:Sheet) (hn:Near s) (h3:s.ok = true → s.R ≤ 3 ∧ s.C ≤ 3):ACall Try.prog 23 [aSh f s] [] (fun v h=>v = bestV true s ∧ h = []):=by
 have cB:=rBest_ok true f s hn h3
 (refine fcall_of mixed Try.func23 rfl (by decide) (hs:={}) ?k (ac:=?ac) ?c (rs:=?rs) ?r ?l ?H;(case k=>kernel_rfl);(case c=>(conv=>(lhs;cbv)));(case r=>(conv=>(lhs;cbv)));(case l=>exact Nat.le_of_ble_eq_true rfl))
 obtain ⟨x,y,hv⟩:∃ (x:Option (List Int)) (y:Int),bestV true s = .tup 2 (ofL [outV x,AI y]):=by
  unfold bestV
  split
  ·split
   ·exact ⟨none,_,rfl⟩
   ·exact ⟨some _,_,rfl⟩
  ·exact ⟨none,_,rfl⟩
 rw [hv] at cB ⊢
 rcases x with _|x
 all_goals
  (repeat' ((try conv=>whnf);first|(with_reducible first|refine wT ?_|refine wF ?_|(refine wI (fun hq=>?_) (fun hq=>?_) <;> try simp only [zA,zE,zD,zJ,zB,zI,wK,wL] at hq)|refine wA ?_|refine wB ?_|refine wC ?_|refine wD ?_|refine wE ?_)|((with_reducible refine wN ?_ ?_);focus exact needA)|(with_reducible refine wG ?_)|(refine FCall.pure (cB) ⟨Ln.sameB _ rfl,Ln.sameB _ rfl,True.intro⟩ rfl ?_)|(with_reducible refine wP ?_)))
  all_goals (try conv=>whnf)
  all_goals ((refine ⟨⟨_,[],[],Cut.nil _,Ln.sameB _ rfl,?_,rfl⟩⟩);rfl)
theorem bestV_form (w:Bool) {s:Sheet} (hn:Near s):∃ (x:Option (List Int)) (y:Int),bestV w s = .tup 2 (ofL [outV x,AI y]) ∧ ∀ l,x = some l → l.length ≤ 20:=by
 unfold bestV
 by_cases hk:s.ok = true
 ·rw [if_pos hk]
  have hb:=best_all w (sheet_d hk)
  cases h:bestO w s with
  | none=>exact ⟨none,_,rfl,fun l hl=>by cases hl⟩
  | some g =>
   rw [h] at hb
   exact ⟨some g,_,rfl,fun l hl=>by cases hl;rw [hb.1.len];exact hn.r⟩
 ·rw [if_neg hk]
  exact ⟨none,_,rfl,fun l hl=>by cases hl⟩
theorem sameOut_ok (x:Option (List Int)) (hx:∀ l,x = some l → l.length ≤ 20):ACall Try.prog 18 [outV x,outV x] [] (fun r h=>r = .bool true ∧ h = []):=by
 cases x with
 | none=>exact sameInts_nil
 | some l =>
  have cI:=sameInts_ok false false false false l l (by have:=hx l rfl;omega)
  rw [decide_eq_true rfl] at cI
  exact cI
theorem outV_pure (x:Option (List Int)):(outV x).pureB = true:=by cases x <;> rfl
theorem bestL_any (f:ShF) (s:Sheet):ACall Try.prog 4 [aSh f s] [] (fun v h=>v = .bool true ∧ h = []):=by
 have cF:=far_ok f s
 (refine fcall_of mixed Try.func4 rfl (by decide) (hs:={}) ?k (ac:=?ac) ?c (rs:=?rs) ?r ?l ?H;(case k=>kernel_rfl);(case c=>(conv=>(lhs;cbv)));(case r=>(conv=>(lhs;cbv)));(case l=>exact Nat.le_of_ble_eq_true rfl))
 cases hf:farS s
 case true =>
  rw [hf] at cF
  (repeat' ((try conv=>whnf);first|(with_reducible first|refine FCond.t rfl ?_|refine FCond.f rfl ?_)|((with_reducible refine FCond.uT (fun hq=>?_));rw [hq];(with_reducible refine FCond.t rfl ?_);clear hq)|((with_reducible refine FCond.uF (fun hq=>?_));rw [hq];(with_reducible refine FCond.f rfl ?_);clear hq)|((with_reducible refine wJ (fun hq=>?_) (fun hq=>?_)) <;> (rw [hq];(with_reducible first|refine FCond.t rfl ?_|refine FCond.f rfl ?_);(try simp only [zA,zE,zD,zJ,zB,zI,wK,wL] at hq)))|(with_reducible first|refine wA ?_|refine wB ?_|refine wC ?_|refine wD ?_|refine wE ?_)|((with_reducible refine wN ?_ ?_);focus exact needA)|(with_reducible refine wG ?_)|(refine FCall.pure (cF) ⟨Ln.sameB _ rfl,True.intro⟩ rfl ?_)|(refine FCall.pure works_ok True.intro rfl ?_)|(with_reducible refine wP ?_)))
  all_goals (try conv=>whnf)
  all_goals ((refine ⟨⟨_,[],[],Cut.nil _,Ln.sameB _ rfl,?_,rfl⟩⟩);rfl)
 rw [hf] at cF
 obtain ⟨hn,h3⟩:=far_d hf
 have hR3:s.ok = true → s.R ≤ 3:=fun h=>(h3 h).1
 have cC:=copy_ok f s hn
 have a1:=least_ok (flS s) s hn hR3
 have b1:=rLeast_ok f s hn h3
 have a2:=worth_ok (flS s) s hn hR3
 have b2:=rWorth_ok f s hn h3
 obtain ⟨x1,y1,e1,l1⟩:=bestV_form false hn
 obtain ⟨x2,y2,e2,l2⟩:=bestV_form true hn
 have i1:=sameOut_ok x1 l1
 have i2:=sameOut_ok x2 l2
 rw [e1] at a1 b1
 rw [e2] at a2 b2
 clear e1 e2
 rcases x1 with _|x1
 all_goals
  rcases x2 with _|x2
  all_goals
   (repeat' ((try conv=>whnf);first|(with_reducible first|refine FCond.t rfl ?_|refine FCond.f rfl ?_)|((with_reducible refine FCond.uT (fun hq=>?_));rw [hq];(with_reducible refine FCond.t rfl ?_);clear hq)|((with_reducible refine FCond.uF (fun hq=>?_));rw [hq];(with_reducible refine FCond.f rfl ?_);clear hq)|((with_reducible refine wJ (fun hq=>?_) (fun hq=>?_)) <;> (rw [hq];(with_reducible first|refine FCond.t rfl ?_|refine FCond.f rfl ?_);(try simp only [zA,zE,zD,zJ,zB,zI,wK,wL] at hq)))|(with_reducible first|refine wA ?_|refine wB ?_|refine wC ?_|refine wD ?_|refine wE ?_)|((with_reducible refine wN ?_ ?_);focus exact needA)|(with_reducible refine wG ?_)|(refine FCall.pure (cF) ⟨Ln.sameB _ rfl,True.intro⟩ rfl ?_)|(refine FCall.pure (cC) ⟨Ln.sameB _ rfl,True.intro⟩ rfl ?_)|(refine FCall.pure (a1) ⟨Ln.sameB _ rfl,True.intro⟩ rfl ?_)|(refine FCall.pure (b1) ⟨Ln.sameB _ rfl,True.intro⟩ rfl ?_)|(refine FCall.pure (a2) ⟨Ln.sameB _ rfl,True.intro⟩ rfl ?_)|(refine FCall.pure (b2) ⟨Ln.sameB _ rfl,True.intro⟩ rfl ?_)|(refine FCall.pure (i1) ⟨Ln.sameB _ rfl,Ln.sameB _ rfl,True.intro⟩ rfl ?_)|(refine FCall.pure (i2) ⟨Ln.sameB _ rfl,Ln.sameB _ rfl,True.intro⟩ rfl ?_)|(refine FCall.pure works_ok True.intro rfl ?_)|(with_reducible refine wP ?_)))
   all_goals (try conv=>whnf)
   all_goals first|((refine ⟨⟨_,[],[],Cut.nil _,Ln.sameB _ rfl,?_,rfl⟩⟩);rfl)|exact absurd hq (by simp)|fail
end Go.Proofs.Ytlffjnmbpoemnaa
