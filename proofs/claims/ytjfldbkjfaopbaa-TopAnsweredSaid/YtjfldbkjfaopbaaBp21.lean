/- Cover: the program's Weakest. / Cover: the program's search for a watch. / Cover: the search for a watch, one slot further (printed by gen_cona.py). -/
import Derived.Test.YtjfldbkjfaopbaaBp20
set_option linter.unusedSimpArgs false
set_option linter.unusedVariables false
namespace Go.Proofs.Ytjfldbkjfaopbaa
open Go.RowKit

structure GapT where
 slot:Int
 ill:Int
 tongues:Int
 missing:Int
def gap0 : GapT:=⟨0,0,0,0⟩
abbrev cGap (x:GapT):Nat → AV:=ofL [AI x.slot,AI x.ill,AI x.tongues,AI x.missing]
abbrev aGap (x:GapT):AV:=.agg 4 (cGap x)
def gapT (p:Pool) (s g ill:Nat) (x:GapT):Nat → GapT
 | 0=>x
 | k + 1=>if (gapT p s g ill x k).missing < missT p s (sdiff g ill) k then ⟨s,ill,k,missT p s (sdiff g ill) k⟩ else gapT p s g ill x k
def gapI (p:Pool) (s g:Nat) (x:GapT):Nat → GapT
 | 0=>x
 | k + 1=>if (pop ((subs g).getD k 0):Int) ≤ p.ill then gapT p s g ((subs g).getD k 0) (gapI p s g x k) (2 ^ p.nT) else gapI p s g x k
def gapS (p:Pool) (w:List Int):Nat → GapT
 | 0=>gap0
 | s + 1=>gapI p s (w.getD s 0).toNat (gapS p w s) (subs (w.getD s 0).toNat).length
def weakT (p:Pool) (w:List Int):GapT:=gapS p w w.length
def weakE (p:Pool) (w:List Int):GapT × Int:=if checkW p w = 0 then (if (weakT p w).missing = 0 then (gap0,3) else (weakT p w,0)) else (gap0,checkW p w)
theorem gapT_nn {p:Pool} {s g ill:Nat} {x:GapT} (h:0 ≤ x.missing) (hz:x.missing = 0 → x = gap0):∀ k,0 ≤ (gapT p s g ill x k).missing ∧ ((gapT p s g ill x k).missing = 0 → gapT p s g ill x k = gap0)
 | 0=>⟨h,hz⟩
 | k + 1=>by
  have ih:=gapT_nn h hz (p:=p) (s:=s) (g:=g) (ill:=ill) k
  rw [gapT]
  split
  ·rename_i hl
   refine ⟨by show 0 ≤ missT p s (sdiff g ill) k;omega,fun e=>?_⟩
   have e:missT p s (sdiff g ill) k = 0:=e
   omega
  ·exact ih
theorem gapI_nn {p:Pool} {s g:Nat} {x:GapT} (h:0 ≤ x.missing) (hz:x.missing = 0 → x = gap0):∀ k,0 ≤ (gapI p s g x k).missing ∧ ((gapI p s g x k).missing = 0 → gapI p s g x k = gap0)
 | 0=>⟨h,hz⟩
 | k + 1=>by
  have ih:=gapI_nn h hz (p:=p) (s:=s) (g:=g) k
  rw [gapI]
  split
  ·exact gapT_nn ih.1 ih.2 _
  ·exact ih
theorem gapS_nn (p:Pool) (w:List Int):∀ s,0 ≤ (gapS p w s).missing ∧ ((gapS p w s).missing = 0 → gapS p w s = gap0)
 | 0=>⟨Int.le_refl _,fun _=>rfl⟩
 | s + 1=>gapI_nn (gapS_nn p w s).1 (gapS_nn p w s).2 _
theorem and_sdiff (a b c:Nat):sdiff (a &&& b) c = a &&& sdiff b c:=by
 apply Nat.eq_of_testBit_eq
 intro i
 rw [testBit_sdiff,Nat.testBit_and,Nat.testBit_and,testBit_sdiff]
 cases a.testBit i <;> cases b.testBit i <;> cases c.testBit i <;> rfl
theorem subs_len {g:Nat} (hg:g < 256):(subs g).length ≤ 256:=by
 have:=List.length_filter_le (fun a=>decide (sdiff a g = 0)) (List.range (g + 1))
 simp only [List.length_range] at this
 unfold subs;omega
set_option maxHeartbeats 4000000
set_option maxRecDepth 100000
end Go.Proofs.Ytjfldbkjfaopbaa

namespace Go.Proofs.Ytjfldbkjfaopbaa
open Go.RowKit

def fitsU (n g:Nat) (t:List Int):Bool:=(List.range n).all fun i=>!(g.testBit i) || decide (1 ≤ t.getD i 0)
/-- What is left behind the first people of a set. -/
def useTo (t:List Int) (g i k:Nat):Int:=if k < i ∧ g.testBit k = true then t.getD k 0 - 1 else t.getD k 0
def useL (n g:Nat) (t:List Int):List Int:=(List.range 8).map fun k=>useTo t g n k
def stepF (p : Pool) (F : List Int → List Int × Int) (t : List Int) (b : List Int × Int) (g : Nat) : List Int × Int :=
  if fitsU p.folk.length g t then
    (if 0 ≤ b.2 ∧ b.2 ≤ payT p g then b
     else if 0 ≤ (F (useL p.folk.length g t)).2 ∧ (b.2 < 0 ∨ payT p g + (F (useL p.folk.length g t)).2 < b.2) then ((g : Int) :: (F (useL p.folk.length g t)).1, payT p g + (F (useL p.folk.length g t)).2) else b)
  else b
def foldF (p:Pool) (F:List Int → List Int × Int) (t:List Int) (l:List Nat):Nat → List Int × Int
 | 0=>([],-1)
 | k + 1=>stepF p F t (foldF p F t l k) (l.getD k 0)
/-- The best watch from a slot on: so many slots are left. -/
def fromT (p:Pool):Nat → List Int → List Int × Int
 | 0,_=>([],0)
 | r + 1,t=>foldF p (fromT p r) t (coversT p (p.needs.length - (r + 1))) (coversT p (p.needs.length - (r + 1))).length
structure FB (r:Nat) (x:List Int × Int):Prop where
 lo:-1 ≤ x.2
 hi:x.2 ≤ 8000 * r
 len:x.1.length ≤ r
theorem stepF_b {p:Pool} (h:PoolOk p) {F:List Int → List Int × Int} {r:Nat} (hF:∀ t,FB r (F t)) {t:List Int} {b:List Int × Int} {g:Nat} (hb:FB (r + 1) b):FB (r + 1) (stepF p F t b g):=by
 have hg:=pay_b h g
 have hf:=hF (useL p.folk.length g t)
 unfold stepF
 split
 ·split
  ·exact hb
  ·split
   ·rename_i h2
    exact ⟨by show -1 ≤ payT p g + _;omega,by have:=hf.hi;show payT p g + _ ≤ 8000 * ((r + 1:Nat):Int);omega,by have:=hf.len;simp;omega⟩
   ·exact hb
 ·exact hb
theorem foldF_b {p:Pool} (h:PoolOk p) {F:List Int → List Int × Int} {r:Nat} (hF:∀ t,FB r (F t)) {t:List Int} {l:List Nat}:∀ k,FB (r + 1) (foldF p F t l k)
 | 0=>⟨by show (-1:Int) ≤ -1;omega,by show (-1:Int) ≤ _;omega,Nat.zero_le _⟩
 | k + 1=>stepF_b h hF (foldF_b h hF k)
theorem fromT_b {p:Pool} (h:PoolOk p):∀ r t,FB r (fromT p r t)
 | 0,_=>⟨by show (-1:Int) ≤ 0;omega,by show (0:Int) ≤ _;omega,Nat.zero_le _⟩
 | r + 1,t=>foldF_b h (fromT_b h r) _
abbrev aFound (x:List Int × Int):AV:=.agg 2 (ofL [outI x.1,AI x.2])
/-- A key of the memory. -/
abbrev keyL (s:Nat) (t:List Int):List Int:=[(s:Int),t.getD 0 0,t.getD 1 0,t.getD 2 0,t.getD 3 0,t.getD 4 0,t.getD 5 0,t.getD 6 0,t.getD 7 0]
theorem list8 {t:List Int} (h:t.length = 8):[t.getD 0 0,t.getD 1 0,t.getD 2 0,t.getD 3 0,t.getD 4 0,t.getD 5 0,t.getD 6 0,t.getD 7 0] = t:=by
 match t,h with
 | [a,b,c,d,e,f,g,i],_=>rfl
/-- What the memory holds is so. -/
def Good (p:Pool) (L:List (List Int × AV)):Prop:=∀ e ∈ L,∃ (s:Nat) (t:List Int),s ≤ p.needs.length ∧ t.length = 8 ∧ e.1 = keyL s t ∧ e.2 = aFound (fromT p (p.needs.length - s) t)
theorem good_nil (p:Pool):Good p []:=fun e he=>by cases he
theorem good_look {p:Pool} {L:List (List Int × AV)} (h:Good p L) {s:Nat} {t:List Int} (ht:t.length = 8) {v:AV} (hl:alook L (keyL s t) = some v):v = aFound (fromT p (p.needs.length - s) t):=by
 unfold alook at hl
 cases hf:L.find? (fun p=>p.1 == keyL s t) with
 | none=>rw [hf] at hl;cases hl
 | some e =>
  rw [hf] at hl
  injection hl with hl
  have h1:=List.find?_some hf
  have h2:=List.mem_of_find?_eq_some hf
  obtain ⟨s',t',k1,k2,k3,k4⟩:=h e h2
  have h1:e.1 = keyL s t:=by simpa using h1
  rw [k3] at h1
  injection h1 with e1 e2
  have e3:t' = t:=by rw [← list8 k2,← list8 ht];exact e2
  have e4:s' = s:=by omega
  subst e3;subst e4
  rw [← hl];exact k4
theorem FLook.good {p:Pool} {L:List (List Int × AV)} (h:Good p L) {s:Nat} {t:List Int} (ht:t.length = 8) {A:AV → Prop} {B:Prop} (a:alook L (keyL s t) = some (aFound (fromT p (p.needs.length - s) t)) → A (aFound (fromT p (p.needs.length - s) t))) (b:alook L (keyL s t) = none → B):FLook (alook L (keyL s t)) A B:=⟨fun v hv=>by
 have e:=good_look h ht hv
 subst e
 exact a hv,b⟩
theorem good_put {p:Pool} {k:List Int} {v:AV} (hk:∃ (s:Nat) (t:List Int),s ≤ p.needs.length ∧ t.length = 8 ∧ k = keyL s t ∧ v = aFound (fromT p (p.needs.length - s) t)):∀ {L:List (List Int × AV)},Good p L → Good p (aput L k v)
 | [],_=>fun e he=>by
  rw [aput,List.mem_singleton] at he
  subst he;exact hk
 | q :: L,h=>fun e he=>by
  rw [aput] at he
  split at he
  ·rcases List.mem_cons.1 he with rfl|he
   ·exact hk
   ·exact h e (List.mem_cons_of_mem _ he)
  ·rcases List.mem_cons.1 he with rfl|he
   ·exact h _ List.mem_cons_self
   ·exact good_put hk (fun e he=>h e (List.mem_cons_of_mem _ he)) e he
abbrev cKey (s:Int) (f:Nat → Int):Nat → AV:=ofL [AI s,AI (f 0),AI (f 1),AI (f 2),AI (f 3),AI (f 4),AI (f 5),AI (f 6),AI (f 7)]
abbrev aKey (s:Int) (f:Nat → Int):AV:=.agg 9 (cKey s f)
abbrev aGroups (p:Pool):AV:=.sl false false p.needs.length 1 (fun s _=>outU (coversT p s))
abbrev cPlanner (f:PoF) (p:Pool):Nat → AV:=ofL [iOpen f p,aGroups p,.mpv 1]
structure T8 (t:List Int):Prop where
 len:t.length = 8
 b:∀ k,k < 8 → 0 ≤ t.getD k 0 ∧ t.getD k 0 ≤ 6
theorem useL_get {n g:Nat} {t:List Int} {k:Nat} (h:k < 8):(useL n g t).getD k 0 = useTo t g n k:=by
 unfold useL
 simp [List.getD,h]
theorem useL_8 {n g:Nat} {t:List Int} (ht:T8 t) (hf:fitsU n g t = true):T8 (useL n g t):=by
 refine ⟨by simp [useL],fun k hk=>?_⟩
 rw [useL_get hk]
 have:=ht.b k hk
 unfold useTo
 split
 ·rename_i h2
  have:=rall_get hf h2.1
  rw [h2.2] at this
  have:=of_decide_eq_true (show decide (1 ≤ t.getD k 0) = true from this)
  omega
 ·exact this
set_option maxHeartbeats 8000000
set_option maxRecDepth 100000
def FromOk (f:PoF) (p:Pool) (r:Nat):Prop:=∀ s,s + r = p.needs.length → ∀ (t:List Int) (L:List (List Int × AV)),T8 t → Good p L → ACall Try.prog 29 [.ptr 0 0,aKey s (fun k=>t.getD k 0)] [.box 3 (cPlanner f p),.mp 9 L] (fun v h'=>∃ L',Good p L' ∧ v = aFound (fromT p r t) ∧ h' = [.box 3 (cPlanner f p),.mp 9 L'])
theorem from_zero (f:PoF) (p:Pool) (h:PoolOk p):FromOk f p 0:=by
 intro s hs t L ht hL
 have s6:=h.s6
 (refine fcall_of mixed Try.func29 rfl (by decide) (hs:={ pub:=[24],ord:=[(3,[(0,[]),(1,[]),(2,[]),(3,[]),(4,[]),(5,[]),(6,[]),(7,[]),(8,[]),(9,[3,4,5]),(10,[]),(11,[])]),(22,[(0,[]),(1,[]),(2,[]),(3,[]),(4,[]),(6,[]),(7,[]),(8,[]),(9,[]),(5,[8]),(10,[]),(11,[])])] }) ?k (ac:=?ac) ?c (rs:=?rs) ?r ?l ?H;(case k=>kernel_rfl);(case c=>(conv=>(lhs;cbv)));(case r=>(conv=>(lhs;cbv)));(case l=>exact Nat.le_of_ble_eq_true rfl))
 (repeat' ((try conv=>whnf);first|(with_reducible first|refine wT ?_|refine wF ?_|(refine wI (fun hq=>?_) (fun hq=>?_) <;> try simp only [zA,zE,zD,zJ,zB,zI,wK,wL] at hq)|refine wA ?_|refine wB ?_|refine wC ?_|refine wD ?_|refine wE ?_)|((with_reducible refine wN ?_ ?_);focus exact needA)|(with_reducible refine wG ?_)|(with_reducible refine wP ?_)))
 all_goals (try conv=>whnf)
 exact ⟨⟨aFound (fromT p 0 t),[.box 3 (cPlanner f p),.mp 9 L],[0,1],wO rfl rfl rfl (wV rfl LnB.A (wV rfl LnB.A wX)),Ln.aggN ⟨⟨True.intro,Ln.slz _ _ _ _ _ _ _ (fun _=>rfl)⟩,Ln.A⟩,L,hL,rfl,rfl⟩⟩
end Go.Proofs.Ytjfldbkjfaopbaa

namespace Go.Proofs.Ytjfldbkjfaopbaa
open Go.RowKit
theorem use0 (t:List Int) (g k:Nat):useTo t g 0 k = t.getD k 0:=if_neg (by omega)
theorem use_keep {t:List Int} {g i j:Nat} (h:j ≠ i):useTo t g i j = useTo t g (i + 1) j:=by
 unfold useTo
 by_cases h1:j < i ∧ g.testBit j = true
 ·rw [if_pos h1,if_pos ⟨by omega,h1.2⟩]
 ·rw [if_neg h1,if_neg (fun h2=>h1 ⟨by omega,h2.2⟩)]
theorem use_old {t:List Int} {g i:Nat}:useTo t g i i = t.getD i 0:=if_neg (by omega)
theorem use_yes {t:List Int} {g i:Nat} (h:g.testBit i = true):useTo t g i i - 1 = useTo t g (i + 1) i:=by
 rw [use_old];exact (if_pos ⟨by omega,h⟩).symm
theorem use_no {t:List Int} {g i:Nat} (h:g.testBit i = false):useTo t g i i = useTo t g (i + 1) i:=by
 rw [use_old];exact (if_neg (fun h2=>by rw [h] at h2;exact absurd h2.2 (by decide))).symm
theorem fits_of {n g:Nat} {t:List Int} (h:∀ i,i < n → g.testBit i = true → 1 ≤ t.getD i 0):fitsU n g t = true:=by
 unfold fitsU
 rw [List.all_eq_true]
 intro i hi
 have hi:=List.mem_range.1 hi
 cases hb:g.testBit i with
 | false=>rfl
 | true=>exact decide_eq_true (h i hi hb)
theorem fits_no {n g:Nat} {t:List Int} {i:Nat} (hi:i < n) (hb:g.testBit i = true) (h:t.getD i 0 - 1 < 0):fitsU n g t = false:=by
 cases hf:fitsU n g t with
 | false=>rfl
 | true =>
  have:=rall_get hf hi
  rw [hb] at this
  have:=of_decide_eq_true (show decide (1 ≤ t.getD i 0) = true from this)
  omega
section
variable {p:Pool} {F:List Int → List Int × Int} {t:List Int} {b:List Int × Int} {g:Nat}
theorem step_k0 (hf:fitsU p.folk.length g t = false):b = stepF p F t b g:=by unfold stepF;rw [hf];rfl
theorem step_k1 (hf:fitsU p.folk.length g t = true) (h:0 ≤ b.2 ∧ b.2 ≤ payT p g):b = stepF p F t b g:=by unfold stepF;rw [if_pos hf,if_pos h]
theorem step_k2 {fr:List Int × Int} (hf:fitsU p.folk.length g t = true) (e:F (useL p.folk.length g t) = fr) (h:¬ (0 ≤ b.2 ∧ b.2 ≤ payT p g)) (h2:¬ (0 ≤ fr.2 ∧ (b.2 < 0 ∨ payT p g + fr.2 < b.2))):b = stepF p F t b g:=by subst e;unfold stepF;rw [if_pos hf,if_neg h,if_neg h2]
theorem step_n {fr:List Int × Int} (hf:fitsU p.folk.length g t = true) (e:F (useL p.folk.length g t) = fr) (h:¬ (0 ≤ b.2 ∧ b.2 ≤ payT p g)) (h2:0 ≤ fr.2 ∧ (b.2 < 0 ∨ payT p g + fr.2 < b.2)):((g:Int) :: fr.1,payT p g + fr.2) = stepF p F t b g:=by subst e;unfold stepF;rw [if_pos hf,if_neg h,if_pos h2]
end
theorem app1 {g:Int} {l:List Int}:∀ k o,o < 1 → AI ((g :: l).getD k 0) = appc 1 (bslC (fun _=>ofL [AI 0]) [(0,AI g)]) (fun k _=>AI (l.getD k 0)) k o
 | 0,0,_=>rfl
 | k + 1,0,_=>by
  rw [appc,if_neg (by omega)];rfl
theorem LnB.best {σ:Nat → Nat → Prop} {Bp:Nat → Prop} {H:List AB} {b b':List Int × Int} (e:b = b'):LnB σ Bp H (.box 2 (ofL [outI b.1,AI b.2])) (.box 2 (ofL [outI b'.1,AI b'.2])):=by subst e;exact LnB.A
theorem LnB.bestN {σ:Nat → Nat → Prop} {Bp:Nat → Prop} {H:List AB} {c:Nat → AV} {b b':List Int × Int} (e:b = b') (h0:Ln σ Bp H (c 0) (outI b.1)) (h1:Ln σ Bp H (c 1) (AI b.2)):LnB σ Bp H (.box 2 c) (.box 2 (ofL [outI b'.1,AI b'.2])):=by subst e;exact LnB.boxN ⟨⟨True.intro,h0⟩,h1⟩
set_option maxHeartbeats 8000000
set_option maxRecDepth 100000
theorem from_step (f:PoF) (p:Pool) (h:PoolOk p) (r:Nat) (ih:FromOk f p r):FromOk f p (r + 1):=by
 intro s hs t L ht hL
 have s6:=h.s6
 have n8:=h.n8
 have hb:=ht.b
 have hI:∀ k,k < 8 → in64 (t.getD k 0):=fun k hk=>by have:=hb k hk;unfold in64;omega
 have hI8:in64 s:=by unfold in64;omega
 (refine fcall_of mixed Try.func29 rfl (by decide) (hs:={ ord:=[(3,[(0,[]),(1,[]),(2,[]),(3,[]),(4,[]),(5,[]),(6,[]),(7,[]),(8,[]),(9,[3,4,5]),(10,[]),(11,[])]),(22,[(0,[]),(1,[]),(2,[]),(3,[]),(4,[]),(6,[]),(7,[]),(8,[]),(9,[]),(5,[8]),(10,[]),(11,[])])] }) ?k (ac:=?ac) ?c (rs:=?rs) ?r ?l ?H;(case k=>kernel_rfl);(case c=>(conv=>(lhs;cbv)));(case r=>(conv=>(lhs;cbv)));(case l=>exact Nat.le_of_ble_eq_true rfl))
 (repeat' ((try conv=>whnf);first|(with_reducible first|refine wT ?_|refine wF ?_|(refine wI (fun hq=>?_) (fun hq=>?_) <;> try simp only [zA,zE,zD,zJ,zB,zI,wK,wL] at hq)|refine wA ?_|refine wB ?_|refine wC ?_|refine wD ?_|refine wE ?_)|((with_reducible refine wN ?_ ?_);focus exact needA)|(with_reducible refine wG ?_)|(refine Need.mk hI8 ?_)|(refine Need.mk (hI _ (by omega)) ?_)|(refine FLook.no hv ?_)|(refine FLook.yes hv ?_)|(refine FLook.good (s:=s) hL ht.len (fun hv=>?_) (fun hv=>?_))|(exact ⟨rfl⟩)|(refine Need.mk ?_ ?_)|(with_reducible refine wP ?_)))
 all_goals (try conv=>whnf)
 ·have hsr:p.needs.length - s = r + 1:=by omega
  exact ⟨⟨aFound (fromT p (p.needs.length - s) t),[.box 3 (cPlanner f p),.mp 9 L],[0,1],wO rfl rfl rfl (wV rfl LnB.A (wV rfl LnB.A wX)),Ln.A,L,hL,by rw [hsr],rfl⟩⟩
 ·have hF:=fromT_b h r
  have hG:=fun k=>foldF_b (t:=t) (l:=coversT p s) h hF k
  refine FLoop.of (ACalls.mono _) (X:=Nat × List (List Int × AV)) (fun x=>[(0,.ptr 0 0),(3,.ptr 2 0),(4,.ptr 3 0),(7,.ptr 4 0),(42,outU (coversT p s)),(43,AI (coversT p s).length),(44,AI x.1)]) (fun x=>[.box 3 (cPlanner f p),.mp 9 x.2,.box 9 (cKey s (fun k=>t.getD k 0)),.box 2 (ofL [.sl true true 0 0 fun _ _=>.bot,AI 0]),.box 2 (ofL [outI (foldF p (fromT p r) t (coversT p s) x.1).1,AI (foldF p (fromT p r) t (coversT p s) x.1).2])]) (fun x=>x.1 ≤ (coversT p s).length ∧ Good p x.2) (fun x=>(coversT p s).length - x.1) (0,L) ⟨⟨Nat.zero_le _,hL⟩,[0,1,2,3,5],wO rfl rfl rfl (wV rfl LnB.A (wV rfl LnB.A (wV rfl LnB.A (wV rfl LnB.A (wV rfl (LnB.boxN ⟨⟨True.intro,Ln.slz _ _ _ _ _ _ _ (fun _=>rfl)⟩,Ln.A⟩) wX))))),allA⟩ ?_
  intro x hx
  obtain ⟨k,L1⟩:=x
  obtain ⟨hk,hL1⟩:=hx
  simp only at hk hL1
  by_cases hlt:k < (coversT p s).length
  ·have hr:p.needs.length - (s + 1) = r:=by omega
   obtain ⟨hg1,hg2,hg3⟩:=covers_mem (p:=p) (s:=s) (getD_memN hlt)
   have hcl:=covers_len p s
   have hcl:(coversT p s).length ≤ 256:=Nat.le_trans hcl (Nat.pow_le_pow_right (by decide) n8)
   have hgb:(coversT p s).getD k 0 < 256:=Nat.lt_of_lt_of_le hg1 (Nat.pow_le_pow_right (by decide) n8)
   have hst:stepF p (fromT p r) t (foldF p (fromT p r) t (coversT p s) k) ((coversT p s).getD k 0) = foldF p (fromT p r) t (coversT p s) (k + 1):=by rw [foldF]
   have hgk:=hG k
   have gl:=hgk.lo
   have gh:=hgk.hi
   have pb:=pay_b h ((coversT p s).getD k 0)
   generalize hbk:foldF p (fromT p r) t (coversT p s) k = b at hst hgk gl gh ⊢
   (repeat' ((try conv=>whnf);first|(with_reducible first|refine wT ?_|refine wF ?_|(refine wI (fun hq=>?_) (fun hq=>?_) <;> try simp only [zA,zE,zD,zJ,zB,zI,wK,wL] at hq)|refine wA ?_|refine wB ?_|refine wC ?_|refine wD ?_|refine wE ?_)|((with_reducible refine wN ?_ ?_);focus exact needA)|(with_reducible refine wG ?_)|(with_reducible refine wP ?_)))
   all_goals (try conv=>whnf)
   refine FLoop.of (ACalls.mono _) (X:=Nat) (fun i=>[(0,.ptr 0 0),(3,.ptr 2 0),(4,.ptr 3 0),(7,.ptr 4 0),(9,AU ((coversT p s).getD k 0)),(10,.ptr 5 0),(42,outU (coversT p s)),(43,AI (coversT p s).length),(44,AI k),(62,AI p.folk.length),(63,AI i)]) (fun i=>[.box 3 (cPlanner f p),.mp 9 L1,.box 9 (cKey s (fun k=>t.getD k 0)),.box 2 (ofL [.sl true true 0 0 fun _ _=>.bot,AI 0]),.box 2 (ofL [outI b.1,AI b.2]),.box 9 (cKey (s + 1) (useTo t ((coversT p s).getD k 0) i))]) (fun i=>i ≤ p.folk.length ∧ ∀ j,j < i → ((coversT p s).getD k 0).testBit j = true → 1 ≤ t.getD j 0) (fun i=>p.folk.length - i) 0 ⟨⟨Nat.zero_le _,fun j hj=>absurd hj (Nat.not_lt_zero j)⟩,[0,1,2,3,4,5],wO rfl rfl rfl (wV rfl LnB.A (wV rfl LnB.A (wV rfl LnB.A (wV rfl LnB.A (wV rfl LnB.A (wV rfl (LnB.boxN ⟨⟨⟨⟨⟨⟨⟨⟨⟨True.intro,Ln.A⟩,Ln.int (use0 _ _ _).symm⟩,Ln.int (use0 _ _ _).symm⟩,Ln.int (use0 _ _ _).symm⟩,Ln.int (use0 _ _ _).symm⟩,Ln.int (use0 _ _ _).symm⟩,Ln.int (use0 _ _ _).symm⟩,Ln.int (use0 _ _ _).symm⟩,Ln.int (use0 _ _ _).symm⟩) wX)))))),allA⟩ ?_
   intro i hi
   obtain ⟨hi,hfi⟩:=hi
   by_cases hlt2:i < p.folk.length
   ·have hti:=hb i (by omega)
    have hnx:((coversT p s).getD k 0).testBit i = false ∨ 1 ≤ t.getD i 0 → ∀ j,j < i + 1 → ((coversT p s).getD k 0).testBit j = true → 1 ≤ t.getD j 0:=fun ho j hj hb=>by
     by_cases e:j = i
     ·subst e
      rcases ho with ho|ho
      ·rw [ho] at hb;cases hb
      ·exact ho
     ·exact hfi j (by omega) hb
    have hfn:=fits_no (t:=t) (g:=((coversT p s).getD k 0)) hlt2
    have hold:=use_old (t:=t) (g:=((coversT p s).getD k 0)) (i:=i)
    have hkeep:=fun j=>use_keep (t:=t) (g:=((coversT p s).getD k 0)) (i:=i) (j:=j)
    have hyes:=use_yes (t:=t) (g:=((coversT p s).getD k 0)) (i:=i)
    have hno:=use_no (t:=t) (g:=((coversT p s).getD k 0)) (i:=i)
    obtain h0|h0|h0|h0|h0|h0|h0|h0:i = 0 ∨ i = 1 ∨ i = 2 ∨ i = 3 ∨ i = 4 ∨ i = 5 ∨ i = 6 ∨ i = 7:=by omega
    ·subst h0
     (repeat' ((try conv=>whnf);first|(with_reducible first|refine wT ?_|refine wF ?_|(refine wI (fun hq=>?_) (fun hq=>?_) <;> try simp only [zA,zE,zD,zJ,zB,zI,wK,wL] at hq)|refine wA ?_|refine wB ?_|refine wC ?_|refine wD ?_|refine wE ?_)|((with_reducible refine wN ?_ ?_);focus exact needA)|(with_reducible refine wG ?_)|(refine FCall.pure ((phas_ok ((coversT p s).getD k 0) _ (by decide))) ⟨Ln.sameB _ rfl,Ln.sameB _ rfl,True.intro⟩ rfl ?_)|(with_reducible refine wP ?_)))
     all_goals (try conv=>whnf)
     ·exact ⟨⟨0 + 1,⟨hlt2,hnx (.inl (by assumption))⟩,by show _ < _;omega,[0,1,2,3,4,5],wO rfl rfl rfl (wV rfl LnB.A (wV rfl LnB.A (wV rfl LnB.A (wV rfl LnB.A (wV rfl LnB.A (wV rfl (LnB.boxN ⟨⟨⟨⟨⟨⟨⟨⟨⟨True.intro,Ln.A⟩,Ln.int (hno (by assumption))⟩,Ln.int (hkeep 1 (by decide))⟩,Ln.int (hkeep 2 (by decide))⟩,Ln.int (hkeep 3 (by decide))⟩,Ln.int (hkeep 4 (by decide))⟩,Ln.int (hkeep 5 (by decide))⟩,Ln.int (hkeep 6 (by decide))⟩,Ln.int (hkeep 7 (by decide))⟩) wX)))))),allA⟩⟩
     ·exact ⟨⟨(k + 1,L1),⟨hlt,hL1⟩,by show _ < _;omega,[0,1,2,3,4],wO rfl rfl rfl (wV rfl LnB.A (wV rfl LnB.A (wV rfl LnB.A (wV rfl LnB.A (wV rfl (LnB.best (Eq.trans (step_k0 (hfn (by assumption) (by omega))) hst)) wX))))),allA⟩⟩
     ·exact ⟨⟨0 + 1,⟨hlt2,hnx (.inr (by omega))⟩,by show _ < _;omega,[0,1,2,3,4,5],wO rfl rfl rfl (wV rfl LnB.A (wV rfl LnB.A (wV rfl LnB.A (wV rfl LnB.A (wV rfl LnB.A (wV rfl (LnB.boxN ⟨⟨⟨⟨⟨⟨⟨⟨⟨True.intro,Ln.A⟩,Ln.int (hyes (by assumption))⟩,Ln.int (hkeep 1 (by decide))⟩,Ln.int (hkeep 2 (by decide))⟩,Ln.int (hkeep 3 (by decide))⟩,Ln.int (hkeep 4 (by decide))⟩,Ln.int (hkeep 5 (by decide))⟩,Ln.int (hkeep 6 (by decide))⟩,Ln.int (hkeep 7 (by decide))⟩) wX)))))),allA⟩⟩
    ·subst h0
     (repeat' ((try conv=>whnf);first|(with_reducible first|refine wT ?_|refine wF ?_|(refine wI (fun hq=>?_) (fun hq=>?_) <;> try simp only [zA,zE,zD,zJ,zB,zI,wK,wL] at hq)|refine wA ?_|refine wB ?_|refine wC ?_|refine wD ?_|refine wE ?_)|((with_reducible refine wN ?_ ?_);focus exact needA)|(with_reducible refine wG ?_)|(refine FCall.pure ((phas_ok ((coversT p s).getD k 0) _ (by decide))) ⟨Ln.sameB _ rfl,Ln.sameB _ rfl,True.intro⟩ rfl ?_)|(with_reducible refine wP ?_)))
     all_goals (try conv=>whnf)
     ·exact ⟨⟨1 + 1,⟨hlt2,hnx (.inl (by assumption))⟩,by show _ < _;omega,[0,1,2,3,4,5],wO rfl rfl rfl (wV rfl LnB.A (wV rfl LnB.A (wV rfl LnB.A (wV rfl LnB.A (wV rfl LnB.A (wV rfl (LnB.boxN ⟨⟨⟨⟨⟨⟨⟨⟨⟨True.intro,Ln.A⟩,Ln.int (hkeep 0 (by decide))⟩,Ln.int (hno (by assumption))⟩,Ln.int (hkeep 2 (by decide))⟩,Ln.int (hkeep 3 (by decide))⟩,Ln.int (hkeep 4 (by decide))⟩,Ln.int (hkeep 5 (by decide))⟩,Ln.int (hkeep 6 (by decide))⟩,Ln.int (hkeep 7 (by decide))⟩) wX)))))),allA⟩⟩
     ·exact ⟨⟨(k + 1,L1),⟨hlt,hL1⟩,by show _ < _;omega,[0,1,2,3,4],wO rfl rfl rfl (wV rfl LnB.A (wV rfl LnB.A (wV rfl LnB.A (wV rfl LnB.A (wV rfl (LnB.best (Eq.trans (step_k0 (hfn (by assumption) (by omega))) hst)) wX))))),allA⟩⟩
     ·exact ⟨⟨1 + 1,⟨hlt2,hnx (.inr (by omega))⟩,by show _ < _;omega,[0,1,2,3,4,5],wO rfl rfl rfl (wV rfl LnB.A (wV rfl LnB.A (wV rfl LnB.A (wV rfl LnB.A (wV rfl LnB.A (wV rfl (LnB.boxN ⟨⟨⟨⟨⟨⟨⟨⟨⟨True.intro,Ln.A⟩,Ln.int (hkeep 0 (by decide))⟩,Ln.int (hyes (by assumption))⟩,Ln.int (hkeep 2 (by decide))⟩,Ln.int (hkeep 3 (by decide))⟩,Ln.int (hkeep 4 (by decide))⟩,Ln.int (hkeep 5 (by decide))⟩,Ln.int (hkeep 6 (by decide))⟩,Ln.int (hkeep 7 (by decide))⟩) wX)))))),allA⟩⟩
    ·subst h0
     (repeat' ((try conv=>whnf);first|(with_reducible first|refine wT ?_|refine wF ?_|(refine wI (fun hq=>?_) (fun hq=>?_) <;> try simp only [zA,zE,zD,zJ,zB,zI,wK,wL] at hq)|refine wA ?_|refine wB ?_|refine wC ?_|refine wD ?_|refine wE ?_)|((with_reducible refine wN ?_ ?_);focus exact needA)|(with_reducible refine wG ?_)|(refine FCall.pure ((phas_ok ((coversT p s).getD k 0) _ (by decide))) ⟨Ln.sameB _ rfl,Ln.sameB _ rfl,True.intro⟩ rfl ?_)|(with_reducible refine wP ?_)))
     all_goals (try conv=>whnf)
     ·exact ⟨⟨2 + 1,⟨hlt2,hnx (.inl (by assumption))⟩,by show _ < _;omega,[0,1,2,3,4,5],wO rfl rfl rfl (wV rfl LnB.A (wV rfl LnB.A (wV rfl LnB.A (wV rfl LnB.A (wV rfl LnB.A (wV rfl (LnB.boxN ⟨⟨⟨⟨⟨⟨⟨⟨⟨True.intro,Ln.A⟩,Ln.int (hkeep 0 (by decide))⟩,Ln.int (hkeep 1 (by decide))⟩,Ln.int (hno (by assumption))⟩,Ln.int (hkeep 3 (by decide))⟩,Ln.int (hkeep 4 (by decide))⟩,Ln.int (hkeep 5 (by decide))⟩,Ln.int (hkeep 6 (by decide))⟩,Ln.int (hkeep 7 (by decide))⟩) wX)))))),allA⟩⟩
     ·exact ⟨⟨(k + 1,L1),⟨hlt,hL1⟩,by show _ < _;omega,[0,1,2,3,4],wO rfl rfl rfl (wV rfl LnB.A (wV rfl LnB.A (wV rfl LnB.A (wV rfl LnB.A (wV rfl (LnB.best (Eq.trans (step_k0 (hfn (by assumption) (by omega))) hst)) wX))))),allA⟩⟩
     ·exact ⟨⟨2 + 1,⟨hlt2,hnx (.inr (by omega))⟩,by show _ < _;omega,[0,1,2,3,4,5],wO rfl rfl rfl (wV rfl LnB.A (wV rfl LnB.A (wV rfl LnB.A (wV rfl LnB.A (wV rfl LnB.A (wV rfl (LnB.boxN ⟨⟨⟨⟨⟨⟨⟨⟨⟨True.intro,Ln.A⟩,Ln.int (hkeep 0 (by decide))⟩,Ln.int (hkeep 1 (by decide))⟩,Ln.int (hyes (by assumption))⟩,Ln.int (hkeep 3 (by decide))⟩,Ln.int (hkeep 4 (by decide))⟩,Ln.int (hkeep 5 (by decide))⟩,Ln.int (hkeep 6 (by decide))⟩,Ln.int (hkeep 7 (by decide))⟩) wX)))))),allA⟩⟩
    ·subst h0
     (repeat' ((try conv=>whnf);first|(with_reducible first|refine wT ?_|refine wF ?_|(refine wI (fun hq=>?_) (fun hq=>?_) <;> try simp only [zA,zE,zD,zJ,zB,zI,wK,wL] at hq)|refine wA ?_|refine wB ?_|refine wC ?_|refine wD ?_|refine wE ?_)|((with_reducible refine wN ?_ ?_);focus exact needA)|(with_reducible refine wG ?_)|(refine FCall.pure ((phas_ok ((coversT p s).getD k 0) _ (by decide))) ⟨Ln.sameB _ rfl,Ln.sameB _ rfl,True.intro⟩ rfl ?_)|(with_reducible refine wP ?_)))
     all_goals (try conv=>whnf)
     ·exact ⟨⟨3 + 1,⟨hlt2,hnx (.inl (by assumption))⟩,by show _ < _;omega,[0,1,2,3,4,5],wO rfl rfl rfl (wV rfl LnB.A (wV rfl LnB.A (wV rfl LnB.A (wV rfl LnB.A (wV rfl LnB.A (wV rfl (LnB.boxN ⟨⟨⟨⟨⟨⟨⟨⟨⟨True.intro,Ln.A⟩,Ln.int (hkeep 0 (by decide))⟩,Ln.int (hkeep 1 (by decide))⟩,Ln.int (hkeep 2 (by decide))⟩,Ln.int (hno (by assumption))⟩,Ln.int (hkeep 4 (by decide))⟩,Ln.int (hkeep 5 (by decide))⟩,Ln.int (hkeep 6 (by decide))⟩,Ln.int (hkeep 7 (by decide))⟩) wX)))))),allA⟩⟩
     ·exact ⟨⟨(k + 1,L1),⟨hlt,hL1⟩,by show _ < _;omega,[0,1,2,3,4],wO rfl rfl rfl (wV rfl LnB.A (wV rfl LnB.A (wV rfl LnB.A (wV rfl LnB.A (wV rfl (LnB.best (Eq.trans (step_k0 (hfn (by assumption) (by omega))) hst)) wX))))),allA⟩⟩
     ·exact ⟨⟨3 + 1,⟨hlt2,hnx (.inr (by omega))⟩,by show _ < _;omega,[0,1,2,3,4,5],wO rfl rfl rfl (wV rfl LnB.A (wV rfl LnB.A (wV rfl LnB.A (wV rfl LnB.A (wV rfl LnB.A (wV rfl (LnB.boxN ⟨⟨⟨⟨⟨⟨⟨⟨⟨True.intro,Ln.A⟩,Ln.int (hkeep 0 (by decide))⟩,Ln.int (hkeep 1 (by decide))⟩,Ln.int (hkeep 2 (by decide))⟩,Ln.int (hyes (by assumption))⟩,Ln.int (hkeep 4 (by decide))⟩,Ln.int (hkeep 5 (by decide))⟩,Ln.int (hkeep 6 (by decide))⟩,Ln.int (hkeep 7 (by decide))⟩) wX)))))),allA⟩⟩
    ·subst h0
     (repeat' ((try conv=>whnf);first|(with_reducible first|refine wT ?_|refine wF ?_|(refine wI (fun hq=>?_) (fun hq=>?_) <;> try simp only [zA,zE,zD,zJ,zB,zI,wK,wL] at hq)|refine wA ?_|refine wB ?_|refine wC ?_|refine wD ?_|refine wE ?_)|((with_reducible refine wN ?_ ?_);focus exact needA)|(with_reducible refine wG ?_)|(refine FCall.pure ((phas_ok ((coversT p s).getD k 0) _ (by decide))) ⟨Ln.sameB _ rfl,Ln.sameB _ rfl,True.intro⟩ rfl ?_)|(with_reducible refine wP ?_)))
     all_goals (try conv=>whnf)
     ·exact ⟨⟨4 + 1,⟨hlt2,hnx (.inl (by assumption))⟩,by show _ < _;omega,[0,1,2,3,4,5],wO rfl rfl rfl (wV rfl LnB.A (wV rfl LnB.A (wV rfl LnB.A (wV rfl LnB.A (wV rfl LnB.A (wV rfl (LnB.boxN ⟨⟨⟨⟨⟨⟨⟨⟨⟨True.intro,Ln.A⟩,Ln.int (hkeep 0 (by decide))⟩,Ln.int (hkeep 1 (by decide))⟩,Ln.int (hkeep 2 (by decide))⟩,Ln.int (hkeep 3 (by decide))⟩,Ln.int (hno (by assumption))⟩,Ln.int (hkeep 5 (by decide))⟩,Ln.int (hkeep 6 (by decide))⟩,Ln.int (hkeep 7 (by decide))⟩) wX)))))),allA⟩⟩
     ·exact ⟨⟨(k + 1,L1),⟨hlt,hL1⟩,by show _ < _;omega,[0,1,2,3,4],wO rfl rfl rfl (wV rfl LnB.A (wV rfl LnB.A (wV rfl LnB.A (wV rfl LnB.A (wV rfl (LnB.best (Eq.trans (step_k0 (hfn (by assumption) (by omega))) hst)) wX))))),allA⟩⟩
     ·exact ⟨⟨4 + 1,⟨hlt2,hnx (.inr (by omega))⟩,by show _ < _;omega,[0,1,2,3,4,5],wO rfl rfl rfl (wV rfl LnB.A (wV rfl LnB.A (wV rfl LnB.A (wV rfl LnB.A (wV rfl LnB.A (wV rfl (LnB.boxN ⟨⟨⟨⟨⟨⟨⟨⟨⟨True.intro,Ln.A⟩,Ln.int (hkeep 0 (by decide))⟩,Ln.int (hkeep 1 (by decide))⟩,Ln.int (hkeep 2 (by decide))⟩,Ln.int (hkeep 3 (by decide))⟩,Ln.int (hyes (by assumption))⟩,Ln.int (hkeep 5 (by decide))⟩,Ln.int (hkeep 6 (by decide))⟩,Ln.int (hkeep 7 (by decide))⟩) wX)))))),allA⟩⟩
    ·subst h0
     (repeat' ((try conv=>whnf);first|(with_reducible first|refine wT ?_|refine wF ?_|(refine wI (fun hq=>?_) (fun hq=>?_) <;> try simp only [zA,zE,zD,zJ,zB,zI,wK,wL] at hq)|refine wA ?_|refine wB ?_|refine wC ?_|refine wD ?_|refine wE ?_)|((with_reducible refine wN ?_ ?_);focus exact needA)|(with_reducible refine wG ?_)|(refine FCall.pure ((phas_ok ((coversT p s).getD k 0) _ (by decide))) ⟨Ln.sameB _ rfl,Ln.sameB _ rfl,True.intro⟩ rfl ?_)|(with_reducible refine wP ?_)))
     all_goals (try conv=>whnf)
     ·exact ⟨⟨5 + 1,⟨hlt2,hnx (.inl (by assumption))⟩,by show _ < _;omega,[0,1,2,3,4,5],wO rfl rfl rfl (wV rfl LnB.A (wV rfl LnB.A (wV rfl LnB.A (wV rfl LnB.A (wV rfl LnB.A (wV rfl (LnB.boxN ⟨⟨⟨⟨⟨⟨⟨⟨⟨True.intro,Ln.A⟩,Ln.int (hkeep 0 (by decide))⟩,Ln.int (hkeep 1 (by decide))⟩,Ln.int (hkeep 2 (by decide))⟩,Ln.int (hkeep 3 (by decide))⟩,Ln.int (hkeep 4 (by decide))⟩,Ln.int (hno (by assumption))⟩,Ln.int (hkeep 6 (by decide))⟩,Ln.int (hkeep 7 (by decide))⟩) wX)))))),allA⟩⟩
     ·exact ⟨⟨(k + 1,L1),⟨hlt,hL1⟩,by show _ < _;omega,[0,1,2,3,4],wO rfl rfl rfl (wV rfl LnB.A (wV rfl LnB.A (wV rfl LnB.A (wV rfl LnB.A (wV rfl (LnB.best (Eq.trans (step_k0 (hfn (by assumption) (by omega))) hst)) wX))))),allA⟩⟩
     ·exact ⟨⟨5 + 1,⟨hlt2,hnx (.inr (by omega))⟩,by show _ < _;omega,[0,1,2,3,4,5],wO rfl rfl rfl (wV rfl LnB.A (wV rfl LnB.A (wV rfl LnB.A (wV rfl LnB.A (wV rfl LnB.A (wV rfl (LnB.boxN ⟨⟨⟨⟨⟨⟨⟨⟨⟨True.intro,Ln.A⟩,Ln.int (hkeep 0 (by decide))⟩,Ln.int (hkeep 1 (by decide))⟩,Ln.int (hkeep 2 (by decide))⟩,Ln.int (hkeep 3 (by decide))⟩,Ln.int (hkeep 4 (by decide))⟩,Ln.int (hyes (by assumption))⟩,Ln.int (hkeep 6 (by decide))⟩,Ln.int (hkeep 7 (by decide))⟩) wX)))))),allA⟩⟩
    ·subst h0
     (repeat' ((try conv=>whnf);first|(with_reducible first|refine wT ?_|refine wF ?_|(refine wI (fun hq=>?_) (fun hq=>?_) <;> try simp only [zA,zE,zD,zJ,zB,zI,wK,wL] at hq)|refine wA ?_|refine wB ?_|refine wC ?_|refine wD ?_|refine wE ?_)|((with_reducible refine wN ?_ ?_);focus exact needA)|(with_reducible refine wG ?_)|(refine FCall.pure ((phas_ok ((coversT p s).getD k 0) _ (by decide))) ⟨Ln.sameB _ rfl,Ln.sameB _ rfl,True.intro⟩ rfl ?_)|(with_reducible refine wP ?_)))
     all_goals (try conv=>whnf)
     ·exact ⟨⟨6 + 1,⟨hlt2,hnx (.inl (by assumption))⟩,by show _ < _;omega,[0,1,2,3,4,5],wO rfl rfl rfl (wV rfl LnB.A (wV rfl LnB.A (wV rfl LnB.A (wV rfl LnB.A (wV rfl LnB.A (wV rfl (LnB.boxN ⟨⟨⟨⟨⟨⟨⟨⟨⟨True.intro,Ln.A⟩,Ln.int (hkeep 0 (by decide))⟩,Ln.int (hkeep 1 (by decide))⟩,Ln.int (hkeep 2 (by decide))⟩,Ln.int (hkeep 3 (by decide))⟩,Ln.int (hkeep 4 (by decide))⟩,Ln.int (hkeep 5 (by decide))⟩,Ln.int (hno (by assumption))⟩,Ln.int (hkeep 7 (by decide))⟩) wX)))))),allA⟩⟩
     ·exact ⟨⟨(k + 1,L1),⟨hlt,hL1⟩,by show _ < _;omega,[0,1,2,3,4],wO rfl rfl rfl (wV rfl LnB.A (wV rfl LnB.A (wV rfl LnB.A (wV rfl LnB.A (wV rfl (LnB.best (Eq.trans (step_k0 (hfn (by assumption) (by omega))) hst)) wX))))),allA⟩⟩
     ·exact ⟨⟨6 + 1,⟨hlt2,hnx (.inr (by omega))⟩,by show _ < _;omega,[0,1,2,3,4,5],wO rfl rfl rfl (wV rfl LnB.A (wV rfl LnB.A (wV rfl LnB.A (wV rfl LnB.A (wV rfl LnB.A (wV rfl (LnB.boxN ⟨⟨⟨⟨⟨⟨⟨⟨⟨True.intro,Ln.A⟩,Ln.int (hkeep 0 (by decide))⟩,Ln.int (hkeep 1 (by decide))⟩,Ln.int (hkeep 2 (by decide))⟩,Ln.int (hkeep 3 (by decide))⟩,Ln.int (hkeep 4 (by decide))⟩,Ln.int (hkeep 5 (by decide))⟩,Ln.int (hyes (by assumption))⟩,Ln.int (hkeep 7 (by decide))⟩) wX)))))),allA⟩⟩
    ·subst h0
     (repeat' ((try conv=>whnf);first|(with_reducible first|refine wT ?_|refine wF ?_|(refine wI (fun hq=>?_) (fun hq=>?_) <;> try simp only [zA,zE,zD,zJ,zB,zI,wK,wL] at hq)|refine wA ?_|refine wB ?_|refine wC ?_|refine wD ?_|refine wE ?_)|((with_reducible refine wN ?_ ?_);focus exact needA)|(with_reducible refine wG ?_)|(refine FCall.pure ((phas_ok ((coversT p s).getD k 0) _ (by decide))) ⟨Ln.sameB _ rfl,Ln.sameB _ rfl,True.intro⟩ rfl ?_)|(with_reducible refine wP ?_)))
     all_goals (try conv=>whnf)
     ·exact ⟨⟨7 + 1,⟨hlt2,hnx (.inl (by assumption))⟩,by show _ < _;omega,[0,1,2,3,4,5],wO rfl rfl rfl (wV rfl LnB.A (wV rfl LnB.A (wV rfl LnB.A (wV rfl LnB.A (wV rfl LnB.A (wV rfl (LnB.boxN ⟨⟨⟨⟨⟨⟨⟨⟨⟨True.intro,Ln.A⟩,Ln.int (hkeep 0 (by decide))⟩,Ln.int (hkeep 1 (by decide))⟩,Ln.int (hkeep 2 (by decide))⟩,Ln.int (hkeep 3 (by decide))⟩,Ln.int (hkeep 4 (by decide))⟩,Ln.int (hkeep 5 (by decide))⟩,Ln.int (hkeep 6 (by decide))⟩,Ln.int (hno (by assumption))⟩) wX)))))),allA⟩⟩
     ·exact ⟨⟨(k + 1,L1),⟨hlt,hL1⟩,by show _ < _;omega,[0,1,2,3,4],wO rfl rfl rfl (wV rfl LnB.A (wV rfl LnB.A (wV rfl LnB.A (wV rfl LnB.A (wV rfl (LnB.best (Eq.trans (step_k0 (hfn (by assumption) (by omega))) hst)) wX))))),allA⟩⟩
     ·exact ⟨⟨7 + 1,⟨hlt2,hnx (.inr (by omega))⟩,by show _ < _;omega,[0,1,2,3,4,5],wO rfl rfl rfl (wV rfl LnB.A (wV rfl LnB.A (wV rfl LnB.A (wV rfl LnB.A (wV rfl LnB.A (wV rfl (LnB.boxN ⟨⟨⟨⟨⟨⟨⟨⟨⟨True.intro,Ln.A⟩,Ln.int (hkeep 0 (by decide))⟩,Ln.int (hkeep 1 (by decide))⟩,Ln.int (hkeep 2 (by decide))⟩,Ln.int (hkeep 3 (by decide))⟩,Ln.int (hkeep 4 (by decide))⟩,Ln.int (hkeep 5 (by decide))⟩,Ln.int (hkeep 6 (by decide))⟩,Ln.int (hyes (by assumption))⟩) wX)))))),allA⟩⟩
   ·obtain rfl:i = p.folk.length:=by omega
    have hfit:=fits_of hfi
    have hu:=hF (useL p.folk.length ((coversT p s).getD k 0) t)
    have ih':=ih (s + 1) (by omega) (useL p.folk.length ((coversT p s).getD k 0) t) L1 (useL_8 ht hfit) hL1
    generalize hfr:fromT p r (useL p.folk.length ((coversT p s).getD k 0) t) = fr at hu ih'
    obtain ⟨l,c⟩:=fr
    have ul:-1 ≤ c:=hu.lo
    have uh:c ≤ 8000 * r:=hu.hi
    have un:l.length ≤ r:=hu.len
    cases l
    all_goals
     (repeat' ((try conv=>whnf);first|(with_reducible first|refine wT ?_|refine wF ?_|(refine wI (fun hq=>?_) (fun hq=>?_) <;> try simp only [zA,zE,zD,zJ,zB,zI,wK,wL] at hq)|refine wA ?_|refine wB ?_|refine wC ?_|refine wD ?_|refine wE ?_)|((with_reducible refine wN ?_ ?_);focus exact needA)|(with_reducible refine wG ?_)|(refine FCall.pure ((cost_ok f p ((coversT p s).getD k 0) h)) ⟨Ln.sameB _ rfl,Ln.sameB _ rfl,True.intro⟩ rfl ?_)|((refine FCall.give [0,1] [] ih' rfl rfl ⟨⟨_,rfl,trivial,LnB.A⟩,⟨_,rfl,trivial,LnB.A⟩,True.intro⟩ ⟨Ln.A,Ln.aggN ⟨⟨⟨⟨⟨⟨⟨⟨⟨True.intro,Ln.int rfl⟩,Ln.int (useL_get (by decide)).symm⟩,Ln.int (useL_get (by decide)).symm⟩,Ln.int (useL_get (by decide)).symm⟩,Ln.int (useL_get (by decide)).symm⟩,Ln.int (useL_get (by decide)).symm⟩,Ln.int (useL_get (by decide)).symm⟩,Ln.int (useL_get (by decide)).symm⟩,Ln.int (useL_get (by decide)).symm⟩,True.intro⟩ ?_);rintro _ _ ⟨L2,hL2,rfl,rfl⟩;(refine ⟨by exact Nat.le_of_ble_eq_true rfl,.inl rfl,?_⟩))|(refine Need.mk ⟨.inl rfl,Nat.le_trans (m:=100) (by revert un;simp only [List.length_nil,List.length_cons];intro un;omega) (by decide),by revert un;simp only [List.length_nil,List.length_cons];intro un;omega⟩ ?_)|(with_reducible refine wP ?_)))
     all_goals (try conv=>whnf)
     all_goals first
      | exact ⟨⟨(k + 1,L1),⟨hlt,hL1⟩,by show _ < _;omega,[0,1,2,3,4],wO rfl rfl rfl (wV rfl LnB.A (wV rfl LnB.A (wV rfl LnB.A (wV rfl LnB.A (wV rfl (LnB.best (Eq.trans (step_k1 hfit (by omega)) hst)) wX))))),allA⟩⟩
      | exact ⟨⟨(k + 1,L2),⟨hlt,hL2⟩,by show _ < _;omega,[0,1,2,3,4],wO rfl rfl rfl (wV rfl LnB.A (wV rfl LnB.A (wV rfl LnB.A (wV rfl LnB.A (wV rfl (LnB.best (Eq.trans (step_k2 hfit hfr (by omega) (by simp only;omega)) hst)) wX))))),allA⟩⟩
      | skip
    iterate 2
     exact ⟨⟨(k + 1,L2),⟨hlt,hL2⟩,by show _ < _;omega,[0,1,2,3,4],wO rfl rfl rfl (wV rfl LnB.A (wV rfl LnB.A (wV rfl LnB.A (wV rfl LnB.A (wV rfl (LnB.bestN (Eq.trans (step_n hfit hfr (by omega) (by simp only;omega)) hst) (Ln.le _ _ (show True from trivial) (LeV.sl (fun h=>by cases h) (fun k hk o ho=>LeV.of (by obtain rfl:k = 0:=(by omega);obtain rfl:o = 0:=(by omega);rfl)))) Ln.A) wX))))),allA⟩⟩
    iterate 2
     exact ⟨⟨(k + 1,L2),⟨hlt,hL2⟩,by show _ < _;omega,[0,1,2,3,4],wO rfl rfl rfl (wV rfl LnB.A (wV rfl LnB.A (wV rfl LnB.A (wV rfl LnB.A (wV rfl (LnB.bestN (Eq.trans (step_n hfit hfr (by omega) (by simp only;omega)) hst) (Ln.pubE (goneB rfl) rfl (Nat.le_refl _) (by simp only [List.length_cons];omega) (fun k hk o ho=>app1 k o ho)) Ln.A) wX))))),allA⟩⟩
  ·obtain rfl:k = (coversT p s).length:=by omega
   (repeat' ((try conv=>whnf);first|(with_reducible first|refine wT ?_|refine wF ?_|(refine wI (fun hq=>?_) (fun hq=>?_) <;> try simp only [zA,zE,zD,zJ,zB,zI,wK,wL] at hq)|refine wA ?_|refine wB ?_|refine wC ?_|refine wD ?_|refine wE ?_)|((with_reducible refine wN ?_ ?_);focus exact needA)|(with_reducible refine wG ?_)|(refine Need.mk hI8 ?_)|(refine Need.mk (hI _ (by omega)) ?_)|(with_reducible refine wP ?_)))
   all_goals (try conv=>whnf)
   have hfin:foldF p (fromT p r) t (coversT p s) (coversT p s).length = fromT p (r + 1) t:=by rw [fromT,show p.needs.length - (r + 1) = s by omega]
   refine ⟨⟨aFound (foldF p (fromT p r) t (coversT p s) (coversT p s).length),[.box 3 (cPlanner f p),.mp 9 _],[0,1],wO rfl rfl rfl (wV rfl LnB.A (wV rfl LnB.A wX)),Ln.A,_,good_put ⟨s,t,by omega,ht.len,rfl,?_⟩ hL1,by rw [hfin],rfl⟩⟩
   rw [show p.needs.length - s = r + 1 by omega,← hfin]
end Go.Proofs.Ytjfldbkjfaopbaa
