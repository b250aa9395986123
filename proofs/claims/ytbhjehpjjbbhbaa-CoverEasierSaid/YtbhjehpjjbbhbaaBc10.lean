/- Cover, plain: the watch of Plan is the cheapest one, and of those the lowest. / Cover, plain: the watches that Plan looks at are the safe ones. / Plain facts on memory: slices that read as lists, worlds that extend other worlds / How the form's readings of data give cells: slices, ints / What a law's row asks behind the walk: the call returned true and the world only has more / From handed data to abstract values; from a reading of a law to what its row asks / Cover: how pools and watches read. -/
import Derived.Test.YtbhjehpjjbbhbaaBc9
import Derived.WalkKit
import Derived.WalkSpells
import Derived.WalkLawsBesides
import Derived.Deep.QuietTactic
import Derived.BigQuiet
import Derived.Lib.Hide
import Derived.Deep.Slices
import Derived.Lib.SmallJoins
import Derived.OpenShut
import Derived.WideKeyArgs
import Derived.Deep.OwnRows
import Derived.ProofKit
import Derived.JoinedOf
import Derived.Test.YtbhjehpjjbbhbaaBc6
set_option linter.unusedSimpArgs false
set_option linter.unusedVariables false
namespace Go.Proofs.Ytbhjehpjjbbhbaa
open Go.RowKit

/-- Of two lists of one length: the first one is lower at the first place at which they differ. -/
def ltL : List Int → List Int → Bool
 | x :: xs,y :: ys=>if x = y then ltL xs ys else decide (x < y)
 | _,_=>false
def toI (v:List Nat):List Int:=v.map fun (g:Nat)=>(g:Int)
def costL (p:Pool):List Nat → Int
 | []=>0
 | g :: v=>payT p g + costL p v
/-- Sets that cover the last r slots, and leave nobody on call too often. -/
def FitW (p:Pool):Nat → List Int → List Nat → Prop
 | 0,_,v=>v = []
 | r + 1,t,v=>∃ g v',v = g :: v' ∧ g ∈ coversT p (p.needs.length - (r + 1)) ∧ fitsU p.folk.length g t = true ∧ FitW p r (useL p.folk.length g t) v'
theorem costL_nn {p:Pool} (h:PoolOk p):∀ v,0 ≤ costL p v
 | []=>Int.le_refl _
 | g :: v=>by have:=costL_nn h v;have:=(pay_b h g).1;show 0 ≤ payT p g + costL p v;omega
/-- An answer is a best one of some watches. -/
structure Best (p:Pool) (S:List Nat → Prop) (b:List Int × Int):Prop where
 is:0 ≤ b.2 → ∃ v,S v ∧ b = (toI v,costL p v)
 le:∀ v,S v → 0 ≤ b.2 ∧ (b.2 < costL p v ∨ b.2 = costL p v ∧ ltL (toI v) b.1 = false)
def Heads (p:Pool) (r:Nat) (t:List Int) (l:List Nat) (k:Nat) (v:List Nat):Prop:=∃ j v',j < k ∧ v = l.getD j 0 :: v' ∧ fitsU p.folk.length (l.getD j 0) t = true ∧ FitW p r (useL p.folk.length (l.getD j 0) t) v'
theorem sorted_lt {l:List Nat} (h:l.Pairwise (· < ·)) {i j:Nat} (hij:i < j) (hj:j < l.length):l.getD i 0 < l.getD j 0:=by
 have:=List.pairwise_iff_getElem.1 h i j (by omega) hj hij
 simpa [List.getD,List.getElem?_eq_getElem hj,List.getElem?_eq_getElem (show i < l.length by omega)] using this
theorem fold_best {p:Pool} (h:PoolOk p) {r:Nat} {F:List Int → List Int × Int} (hF:∀ t,Best p (FitW p r t) (F t)) (t:List Int) {l:List Nat} (hl:l.Pairwise (· < ·)):∀ k,k ≤ l.length → Best p (Heads p r t l k) (foldF p F t l k)
 | 0,_=>⟨fun h0=>absurd h0 (by show ¬ (0:Int) ≤ -1;decide),fun v ⟨j,_,hj,_⟩=>absurd hj (Nat.not_lt_zero j)⟩
 | k + 1,hk=>by
  have ih:=fold_best h hF t hl k (by omega)
  have up:∀ v,Heads p r t l k v → Heads p r t l (k + 1) v:=fun v ⟨j,v',h1,h2⟩=>⟨j,v',by omega,h2⟩
  have hpay:=(pay_b h (l.getD k 0)).1
  rw [foldF]
  generalize hb:foldF p F t l k = b at ih ⊢
  have hf:=hF (useL p.folk.length (l.getD k 0) t)
  generalize hc:F (useL p.folk.length (l.getD k 0) t) = c at hf
  -- a watch that begins with this set
  have hnew:∀ v,Heads p r t l (k + 1) v → ¬ Heads p r t l k v → fitsU p.folk.length (l.getD k 0) t = true ∧ ∃ v',v = l.getD k 0 :: v' ∧ 0 ≤ c.2 ∧ (c.2 < costL p v' ∨ c.2 = costL p v' ∧ ltL (toI v') c.1 = false):=by
   rintro v ⟨j,v',h1,rfl,h3,h4⟩ hno
   have e:j = k:=by
    by_cases e:j = k
    ·exact e
    ·exact absurd ⟨j,v',by omega,rfl,h3,h4⟩ hno
   subst e
   exact ⟨h3,v',rfl,hf.le v' h4⟩
  -- what is kept stands
  have keep:0 ≤ b.2 → b.2 ≤ payT p (l.getD k 0) + max c.2 0 → Best p (Heads p r t l (k + 1)) b:=by
   intro h0 hle
   refine ⟨fun h1=>by obtain ⟨v,h2,h3⟩:=ih.is h1;exact ⟨v,up v h2,h3⟩,fun v hv=>?_⟩
   by_cases ho:Heads p r t l k v
   ·exact ih.le v ho
   ·obtain ⟨_,v',rfl,h1,h2⟩:=hnew v hv ho
    refine ⟨h0,?_⟩
    have hcl:costL p (l.getD k 0 :: v') = payT p (l.getD k 0) + costL p v':=rfl
    have hle2:b.2 ≤ costL p (l.getD k 0 :: v'):=by rcases h2 with h2|h2 <;> omega
    by_cases e:b.2 = costL p (l.getD k 0 :: v')
    ·refine .inr ⟨e,?_⟩
     obtain ⟨u,⟨j,u',j1,rfl,_⟩,j3⟩:=ih.is h0
     rw [j3]
     have hlt:=sorted_lt hl j1 (by omega)
     show (if ((l.getD k 0:Nat):Int) = ((l.getD j 0:Nat):Int) then _ else decide (((l.getD k 0:Nat):Int) < ((l.getD j 0:Nat):Int))) = false
     rw [if_neg (by omega)]
     exact decide_eq_false (by omega)
    ·exact .inl (by omega)
  have keepN:(∀ v,Heads p r t l (k + 1) v → Heads p r t l k v) → Best p (Heads p r t l (k + 1)) b:=fun hs=>⟨fun h1=>by obtain ⟨v,h2,h3⟩:=ih.is h1;exact ⟨v,up v h2,h3⟩,fun v hv=>ih.le v (hs v hv)⟩
  unfold stepF
  rw [hc]
  by_cases hfit:fitsU p.folk.length (l.getD k 0) t = true
  ·rw [if_pos hfit]
   by_cases h1:0 ≤ b.2 ∧ b.2 ≤ payT p (l.getD k 0)
   ·rw [if_pos h1]
    exact keep h1.1 (by omega)
   ·rw [if_neg h1]
    by_cases h2:0 ≤ c.2 ∧ (b.2 < 0 ∨ payT p (l.getD k 0) + c.2 < b.2)
    ·rw [if_pos h2]
     obtain ⟨u,hu,hcu⟩:=hf.is h2.1
     refine ⟨fun _=>⟨l.getD k 0 :: u,⟨k,u,Nat.lt_succ_self k,rfl,hfit,hu⟩,by rw [hcu];rfl⟩,fun v hv=>⟨by show 0 ≤ payT p (l.getD k 0) + c.2;omega,?_⟩⟩
     show payT p (l.getD k 0) + c.2 < costL p v ∨ payT p (l.getD k 0) + c.2 = costL p v ∧ ltL (toI v) (((l.getD k 0:Nat):Int) :: c.1) = false
     by_cases ho:Heads p r t l k v
     ·obtain ⟨i1,i2⟩:=ih.le v ho
      exact .inl (by rcases i2 with i2|i2 <;> omega)
     ·obtain ⟨_,v',rfl,i1,i2⟩:=hnew v hv ho
      have hcl:costL p (l.getD k 0 :: v') = payT p (l.getD k 0) + costL p v':=rfl
      rcases i2 with i2|⟨i2,i3⟩
      ·exact .inl (by omega)
      ·refine .inr ⟨by omega,?_⟩
       show (if ((l.getD k 0:Nat):Int) = ((l.getD k 0:Nat):Int) then ltL (toI v') c.1 else _) = false
       rw [if_pos rfl];exact i3
    ·rw [if_neg h2]
     by_cases hb0:0 ≤ b.2
     ·by_cases hc0:0 ≤ c.2
      ·exact keep hb0 (by omega)
      ·exact keepN fun v hv=>by
        by_cases ho:Heads p r t l k v
        ·exact ho
        ·obtain ⟨_,v',_,i1,_⟩:=hnew v hv ho
         exact absurd i1 hc0
     ·exact keepN fun v hv=>by
       by_cases ho:Heads p r t l k v
       ·exact ho
       ·obtain ⟨_,v',_,i1,_⟩:=hnew v hv ho
        exact absurd ⟨i1,.inl (by omega)⟩ h2
  ·rw [if_neg hfit]
   exact keepN fun v hv=>by
    by_cases ho:Heads p r t l k v
    ·exact ho
    ·exact absurd (hnew v hv ho).1 hfit
theorem mem_getD {l:List Nat} {x:Nat} (h:x ∈ l):∃ j,j < l.length ∧ l.getD j 0 = x:=by
 obtain ⟨j,hj,e⟩:=List.mem_iff_getElem.1 h
 exact ⟨j,hj,by simp [List.getD,List.getElem?_eq_getElem hj,e]⟩
theorem from_best {p:Pool} (h:PoolOk p):∀ r t,Best p (FitW p r t) (fromT p r t)
 | 0,t=>⟨fun _=>⟨[],rfl,rfl⟩,fun v hv=>by
   have hv:v = []:=hv
   subst hv
   exact ⟨Int.le_refl 0,.inr ⟨rfl,rfl⟩⟩⟩
 | r + 1,t=>by
  have hb:=fold_best h (from_best h r) t (covers_sorted p (p.needs.length - (r + 1))) _ (Nat.le_refl _)
  have e:∀ v,Heads p r t (coversT p (p.needs.length - (r + 1))) (coversT p (p.needs.length - (r + 1))).length v ↔ FitW p (r + 1) t v:=by
   intro v
   constructor
   ·rintro ⟨j,v',h1,h2,h3⟩
    exact ⟨_,v',h2,getD_memN h1,h3⟩
   ·rintro ⟨g,v',h1,h2,h3⟩
    obtain ⟨j,j1,rfl⟩:=mem_getD h2
    exact ⟨j,v',j1,h1,h3⟩
  rw [fromT]
  exact ⟨fun h0=>by obtain ⟨v,h1,h2⟩:=hb.is h0;exact ⟨v,(e v).1 h1,h2⟩,fun v hv=>hb.le v ((e v).2 hv)⟩
end Go.Proofs.Ytbhjehpjjbbhbaa

namespace Go.Proofs.Ytbhjehpjjbbhbaa
open Go.RowKit

def onV (i:Nat):List Nat → Nat
 | []=>0
 | g :: v=>(if g.testBit i then 1 else 0) + onV i v
theorem covers_iff {p:Pool} {s g:Nat}:g ∈ coversT p s ↔ g < 2 ^ p.folk.length ∧ canT p s g = true ∧ coveredT p s g = true:=by
 unfold coversT
 rw [List.mem_filter,List.mem_range,Bool.and_eq_true]
theorem fit_iff {p:Pool} (h:PoolOk p):∀ r t v,r ≤ p.needs.length → T8 t → (FitW p r t v ↔ v.length = r ∧ (∀ j,j < r → v.getD j 0 ∈ coversT p (p.needs.length - r + j)) ∧ ∀ i,i < p.folk.length → (onV i v:Int) ≤ t.getD i 0)
 | 0,t,v,_,ht=>by
  constructor
  ·intro e
   have e:v = []:=e
   subst e
   exact ⟨rfl,fun j hj=>absurd hj (Nat.not_lt_zero j),fun i hi=>(ht.b i (by have:=h.n8;omega)).1⟩
  ·rintro ⟨e,_,_⟩
   exact List.length_eq_zero_iff.1 e
 | r + 1,t,v,hr,ht=>by
  have n8:=h.n8
  constructor
  ·rintro ⟨g,v',rfl,h1,h2,h3⟩
   obtain ⟨k1,k2,k3⟩:=(fit_iff h r (useL p.folk.length g t) v' (by omega) (useL_8 ht h2)).1 h3
   refine ⟨by rw [List.length_cons,k1],fun j hj=>?_,fun i hi=>?_⟩
   ·rcases j with _|j
    ·exact h1
    ·have:=k2 j (by omega)
     rw [show p.needs.length - (r + 1) + (j + 1) = p.needs.length - r + j by omega]
     exact this
   ·have:=k3 i hi
    rw [useL_get (by omega)] at this
    unfold useTo at this
    show (((if g.testBit i then 1 else 0) + onV i v':Nat):Int) ≤ _
    cases hb:g.testBit i with
    | false=>rw [hb,if_neg (by rintro ⟨_,h⟩;cases h)] at this;rw [if_neg (by decide)];omega
    | true=>rw [hb,if_pos ⟨hi,rfl⟩] at this;rw [if_pos rfl];omega
  ·rintro ⟨h1,h2,h3⟩
   rcases v with _|⟨g,v'⟩
   ·cases h1
   ·have hfit:fitsU p.folk.length g t = true:=by
     unfold fitsU
     rw [List.all_eq_true]
     intro i hi
     have hi:=List.mem_range.1 hi
     have:=h3 i hi
     have this:(((if g.testBit i then 1 else 0) + onV i v':Nat):Int) ≤ _:=this
     cases hb:g.testBit i with
     | false=>rfl
     | true=>rw [hb,if_pos rfl] at this;exact decide_eq_true (show 1 ≤ t.getD i 0 by omega)
    refine ⟨g,v',rfl,h2 0 (by omega),hfit,(fit_iff h r (useL p.folk.length g t) v' (by omega) (useL_8 ht hfit)).2 ⟨by simpa using h1,fun j hj=>?_,fun i hi=>?_⟩⟩
    ·have:=h2 (j + 1) (by omega)
     rw [show p.needs.length - (r + 1) + (j + 1) = p.needs.length - r + j by omega] at this
     exact this
    ·have:=h3 i hi
     have this:(((if g.testBit i then 1 else 0) + onV i v':Nat):Int) ≤ _:=this
     rw [useL_get (by omega)]
     unfold useTo
     cases hb:g.testBit i with
     | false=>rw [hb,if_neg (by decide)] at this;rw [if_neg (by rintro ⟨_,h⟩;cases h)];omega
     | true=>rw [hb,if_pos rfl] at this;rw [if_pos ⟨hi,rfl⟩];omega
theorem on_cons (x:Int) (w:List Int) (i:Nat):∀ k,onTo (x :: w) i (k + 1) = (if x.toNat.testBit i then 1 else 0) + onTo w i k
 | 0=>by show 0 + (if x.toNat.testBit i then 1 else 0) = _;rw [Nat.zero_add];rfl
 | k + 1=>by
  rw [onTo,on_cons x w i k,onTo,Nat.add_assoc]
  rfl
theorem on_toI (i:Nat):∀ v:List Nat,onTo (toI v) i v.length = onV i v
 | []=>rfl
 | g :: v=>by
  show onTo ((g:Int) :: toI v) i (v.length + 1) = _
  rw [on_cons,on_toI i v,Int.toNat_natCast];rfl
theorem cost_cons (p:Pool) (x:Int) (w:List Int):∀ k,costTo p (x :: w) (k + 1) = payT p x.toNat + costTo p w k
 | 0=>by show 0 + payT p x.toNat = payT p x.toNat + 0;omega
 | k + 1=>by
  rw [costTo,cost_cons p x w k,costTo,Int.add_assoc]
  rfl
theorem toI_len (v:List Nat):(toI v).length = v.length:=List.length_map _
theorem toI_get (v:List Nat) (k:Nat):(toI v).getD k 0 = (v.getD k 0:Nat):=by
 unfold toI
 simp only [List.getD,List.getElem?_map]
 cases v[k]? <;> rfl
theorem cost_toI (p:Pool):∀ v:List Nat,costT p (toI v) = costL p v
 | []=>rfl
 | g :: v=>by
  have:=cost_toI p v
  unfold costT at *
  rw [toI_len] at *
  show costTo p ((g:Int) :: toI v) (v.length + 1) = _
  rw [cost_cons,this,Int.toNat_natCast];rfl
theorem toI_of {w:List Int} (h:∀ s,s < w.length → 0 ≤ w.getD s 0):toI (w.map Int.toNat) = w:=by
 unfold toI
 rw [List.map_map]
 conv=>rhs;rw [← List.map_id w]
 refine List.map_congr_left fun x hx=>?_
 obtain ⟨j,hj,e⟩:=List.mem_iff_getElem.1 hx
 have:=h j hj
 simp [List.getD,List.getElem?_eq_getElem hj,e] at this
 show ((x.toNat:Nat):Int) = x
 omega
/-- A safe watch is one that Plan looks at. -/
theorem fit_safe {p:Pool} (h:PoolOk p) {v:List Nat}:FitW p p.needs.length (leftL p) v ↔ isWatch p (toI v) = true ∧ safeT p (toI v) = true:=by
 rw [fit_iff h _ _ _ (Nat.le_refl _) (leftL_8 h)]
 have n8:=h.n8
 have hgv:∀ s,((toI v).getD s 0).toNat = v.getD s 0:=fun s=>by rw [toI_get,Int.toNat_natCast]
 constructor
 ·rintro ⟨h1,h2,h3⟩
  have hm:∀ s,s < (toI v).length → v.getD s 0 ∈ coversT p s:=fun s hs=>by
   have:=h2 s (by rw [toI_len] at hs;omega)
   rwa [Nat.sub_self,Nat.zero_add] at this
  refine ⟨?_,rall_yes fun s hs=>by rw [hgv];exact (covers_iff.1 (hm s hs)).2.2⟩
  unfold isWatch
  rw [Bool.and_eq_true,Bool.and_eq_true]
  refine ⟨⟨decide_eq_true (by rw [toI_len,h1]),rall_yes fun s hs=>?_⟩,rall_yes fun i hi=>decide_eq_true ?_⟩
  ·obtain ⟨c1,c2,_⟩:=covers_iff.1 (hm s hs)
   unfold canBe
   rw [hgv,c2,Bool.and_true,toI_get]
   exact decide_eq_true (by omega)
  ·have:=h3 i hi
   rw [leftL_get (by omega)] at this
   unfold leftTo at this
   rw [if_pos hi] at this
   rw [toI_len,on_toI];exact this
 ·rintro ⟨h1,h2⟩
  have k:=watch_d h1
  have hl:=k.len
  rw [toI_len] at hl
  refine ⟨hl,fun s hs=>?_,fun i hi=>?_⟩
  ·rw [Nat.sub_self,Nat.zero_add]
   obtain ⟨e1,e2,e3⟩:=k.el s (by rw [toI_len];omega)
   rw [hgv] at e2 e3
   have:=rall_get (p:=fun s=>coveredT p s ((toI v).getD s 0).toNat) h2 (show s < (toI v).length by rw [toI_len];omega)
   rw [hgv] at this
   exact covers_iff.2 ⟨e2,e3,this⟩
  ·have:=k.on i hi
   rw [toI_len,on_toI] at this
   rw [leftL_get (by omega)]
   unfold leftTo
   rw [if_pos hi];exact this
/-- THE THEOREM OF THE LEAST COST. -/
theorem plan_best {p:Pool} (h:PoolOk p) (hk:p.ok = true):(∃ v,planE p = (toI v,costL p v,0) ∧ isWatch p (toI v) = true ∧ safeT p (toI v) = true ∧ ∀ w,isWatch p w = true → safeT p w = true → costL p v < costT p w ∨ costL p v = costT p w ∧ ltL w (toI v) = false) ∨ (planE p = ([],0,3) ∧ ∀ w,isWatch p w = true → safeT p w = false):=by
 have hb:=from_best h p.needs.length (leftL p)
 have hw:∀ w,isWatch p w = true → safeT p w = true → 0 ≤ (fromT p p.needs.length (leftL p)).2 ∧ ((fromT p p.needs.length (leftL p)).2 < costT p w ∨ (fromT p p.needs.length (leftL p)).2 = costT p w ∧ ltL w (fromT p p.needs.length (leftL p)).1 = false):=fun w h1 h2=>by
  have e:=toI_of (w:=w) fun s hs=>((watch_d h1).el s hs).1
  have:=hb.le (w.map Int.toNat) ((fit_safe h).2 (by rw [e];exact ⟨h1,h2⟩))
  rwa [← cost_toI,e] at this
 unfold planE
 rw [if_pos hk]
 by_cases h0:(fromT p p.needs.length (leftL p)).2 < 0
 ·refine .inr ⟨by rw [if_pos h0],fun w h1=>?_⟩
  cases h2:safeT p w
  ·rfl
  ·have:=(hw w h1 h2).1;omega
 ·obtain ⟨v,h1,h2⟩:=hb.is (by omega)
  obtain ⟨h3,h4⟩:=(fit_safe h).1 h1
  refine .inl ⟨v,by rw [if_neg h0,h2],h3,h4,fun w h5 h6=>?_⟩
  have:=(hw w h5 h6).2
  rwa [h2] at this
/-- The best set of a slot. -/
theorem best_min {p : Pool} {l : List Nat} : ∀ k j, j ≤ k → payT p (bestTo p l k) ≤ payT p (l.getD j 0)
  | 0, j, h => by obtain rfl : j = 0 := by omega
                  exact Int.le_refl _
  | k + 1, j, h => by
    have ih := fun h => best_min (p := p) (l := l) k j h
    rw [bestTo]
    unfold stepB
    by_cases e : j = k + 1
    · subst e
      split
      · exact Int.le_refl _
      · omega
    · have := ih (by omega)
      split <;> omega
def sumS (p:Pool):Nat → Int
 | 0=>0
 | s + 1=>sumS p s + payT p (bestG p (coversT p s))
theorem sumS_b {p:Pool} (h:PoolOk p):∀ s,0 ≤ sumS p s ∧ sumS p s ≤ 8000 * s
 | 0=>by show (0:Int) ≤ 0 ∧ (0:Int) ≤ _;omega
 | s + 1=>by
  have:=sumS_b h s
  have:=pay_b h (bestG p (coversT p s))
  show 0 ≤ sumS p s + _ ∧ sumS p s + _ ≤ _
  omega
theorem best_le {p:Pool} {s g:Nat} (h:g ∈ coversT p s):payT p (bestG p (coversT p s)) ≤ payT p g:=by
 obtain ⟨j,h1,rfl⟩:=mem_getD h
 exact best_min _ j (by omega)
theorem safe_mem {p:Pool} {w:List Int} (h1:isWatch p w = true) (h2:safeT p w = true) {s:Nat} (hs:s < w.length):(w.getD s 0).toNat ∈ coversT p s:=by
 obtain ⟨_,e2,e3⟩:=(watch_d h1).el s hs
 exact covers_iff.2 ⟨e2,e3,rall_get (p:=fun s=>coveredT p s (w.getD s 0).toNat) h2 hs⟩
theorem sum_le {p:Pool} {w:List Int} (h1:isWatch p w = true) (h2:safeT p w = true):∀ k,k ≤ w.length → sumS p k ≤ costTo p w k
 | 0,_=>Int.le_refl _
 | k + 1,h=>by
  have:=sum_le h1 h2 k (by omega)
  have:=best_le (safe_mem h1 h2 (show k < w.length by omega))
  show sumS p k + _ ≤ costTo p w k + _
  omega
end Go.Proofs.Ytbhjehpjjbbhbaa

namespace Go.Proofs.Ytbhjehpjjbbhbaa
open Go.RowKit

theorem block_of_add (a:Addr) (n:Nat):(a.add n).block = a.block:=by unfold Addr.add;split <;> rfl
theorem add_of_add (a:Addr) (i j:Nat):(a.add i).add j = a.add (i + j):=by
 unfold Addr.add
 by_cases hi:i = 0 <;> by_cases hj:j = 0 <;> simp [hi,hj,Nat.add_assoc]

/-- w' has all that w has, unchanged. -/
abbrev Ext (w w':World):Prop:=Below w.heap.size w w'

theorem Ext.refl (w:World):Ext w w:=Below.refl _ w
theorem Ext.trans {a b c:World} (h:Ext a b) (k:Ext b c):Ext a c:=Below.trans h (k.mono h.size)
theorem Ext.of_alloc (w:World) (o:Obj):Ext w (w.alloc o):=(Below.refl _ w).alloc (Nat.le_refl _) o
theorem Ext.alloc {a w:World} (h:Ext a w) (o:Obj):Ext a (w.alloc o):=Below.alloc h h.size o
theorem Ext.drew {a w:World} (h:Ext a w):Ext a w.drew:=Below.drew h
theorem Ext.drewN {a w:World} (h:Ext a w) (n:Nat):Ext a (w.drewN n):=⟨h.os,h.tape,h.output,h.size,h.block⟩
theorem Ext.cellOf {w w':World} (h:Ext w w') {p:Addr} (hp:p.block < w.heap.size):w'.cell? p = w.cell? p:=Below.cell h hp

/-- The n elements (size cells each) of a slice at A are the cells xs. -/
def Sl (w:World) (size:Nat) (A:Option Addr) (n:Nat) (xs:List Value):Prop :=
 xs.length = n * size ∧ (0 < n → ∃ b off,A = some ⟨b,off,none⟩ ∧ b < w.heap.size ∧ ∀ (j:Nat) (u:Value),xs[j]? = some u → w.cell? ⟨b,off + j,none⟩ = some u)

theorem Sl.ext {w w':World} {size n:Nat} {A:Option Addr} {xs:List Value} (h:Sl w size A n xs) (e:Ext w w'):Sl w' size A n xs :=
 ⟨h.1,fun hn=>by
  obtain ⟨b,off,hA,hb,hc⟩:=h.2 hn
  exact ⟨b,off,hA,Nat.lt_of_lt_of_le hb e.size,fun j u hu=>(e.cellOf (p:=⟨b,off + j,none⟩) hb).trans (hc j u hu)⟩⟩
theorem Sl.nil (w:World) (size:Nat) (A:Option Addr):Sl w size A 0 []:=⟨by simp,fun h=>absurd h (by omega)⟩
theorem own_lt {w:World} {g:Nat} {o:Obj} (hh:w.heap[g]? = some o):g < w.heap.size:=by
 rcases Nat.lt_or_ge g w.heap.size with hlt|hge
 ·exact hlt
 ·rw [Array.getElem?_eq_none hge] at hh;cases hh
theorem Sl.of_own {w:World} {base size n c:Nat} {e:TypeId} {A:Option Addr} {xs:List Value} (h:w.ownsRow base e size (.slice A n c) n xs):Sl w size A n xs:=by
 refine ⟨h.1,fun hn=>?_⟩
 rcases h.2 with ⟨hv,hx⟩|⟨g,cap,cur,hv,hb,hh,_⟩
 ·injection hv with hA hn'
  omega
 ·injection hv with hA
  subst hA
  refine ⟨g,0,rfl,own_lt hh,fun j u hu=>?_⟩
  have h1:=h.cells (g:=g) rfl j u hu
  unfold Addr.add at h1
  split at h1
  ·rename_i h0;subst h0;exact h1
  ·simpa using h1
theorem Sl.at {w:World} {size n:Nat} {A:Option Addr} {xs:List Value} (h:Sl w size A n xs) {k:Nat} (hk:k < n) :
  ∃ b off,A = some ⟨b,off,none⟩ ∧ b < w.heap.size ∧ ∀ i,i < size → ∃ u,xs[k * size + i]? = some u ∧ w.cell? ⟨b,off + (k * size + i),none⟩ = some u:=by
 obtain ⟨b,off,hA,hb,hc⟩:=h.2 (by omega)
 refine ⟨b,off,hA,hb,fun i hi=>?_⟩
 have hlt:k * size + i < xs.length:=by
  rw [h.1]
  have:(k + 1) * size ≤ n * size:=Nat.mul_le_mul_right _ hk
  rw [Nat.add_mul] at this
  omega
 exact ⟨xs[k * size + i],List.getElem?_eq_getElem hlt,hc _ _ (List.getElem?_eq_getElem hlt)⟩

/-- A slice of ints. -/
def Ints (w:World) (A:Option Addr) (l:List Int):Prop :=
 ∀ k,k < l.length → ∃ b off,A = some ⟨b,off,none⟩ ∧ b < w.heap.size ∧ w.cell? ⟨b,off + k,none⟩ = some (.int .i64 (l.getD k 0))
theorem Ints.ext {w w':World} {A:Option Addr} {l:List Int} (h:Ints w A l) (e:Ext w w'):Ints w' A l:=fun k hk=>by
 obtain ⟨b,off,hA,hb,hc⟩:=h k hk
 exact ⟨b,off,hA,Nat.lt_of_lt_of_le hb e.size,(e.cellOf (p:=⟨b,off + k,none⟩) hb).trans hc⟩
theorem Ints.of_own {w:World} {base n c:Nat} {e:TypeId} {A:Option Addr} {l:List Int} (h:w.ownsRow base e 1 (.slice A n c) n (l.map (.int .i64))):n = l.length ∧ Ints w A l:=by
 have hl:n = l.length:=by have:=h.1;simp at this;omega
 refine ⟨hl,fun k hk=>?_⟩
 obtain ⟨b,off,hA,hb,hc⟩:=(Sl.of_own h).at (k:=k) (by omega)
 obtain ⟨u,hu,hcu⟩:=hc 0 (by omega)
 refine ⟨b,off,hA,hb,?_⟩
 simp at hu hcu
 obtain ⟨a,ha,rfl⟩:=hu
 rw [hcu]
 simp [List.getD,ha]

theorem Ints.get {w:World} {A:Option Addr} {l:List Int} (h:Ints w A l) {k:Nat} (hk:k < l.length) :
  ∃ b off x,A = some ⟨b,off,none⟩ ∧ b < w.heap.size ∧ w.cell? ⟨b,off + k,none⟩ = some (.int .i64 x) ∧ Hid (l.getD k 0 = x):=by
 obtain ⟨b,off,h1,h2,h3⟩:=h k hk
 exact ⟨b,off,_,h1,h2,h3,rfl⟩

theorem Ext.unalloc {w wr:World} {o:Obj} (h:Ext (w.alloc o) wr):Ext w wr:=(Ext.of_alloc w o).trans h
theorem Ext.box {w wr:World} {cs:Array Value} {T:TypeId} (h:Ext (w.alloc (.cells cs T)) wr) (i:Nat):wr.cell? ⟨w.heap.size,i,none⟩ = cs[i]?:=by
 rw [h.cellOf (by simp),World.cell?_alloc_at _ _ _ _ rfl]
theorem Ext.boxFree {w wr:World} {cs:Array Value} {T:TypeId} (h:Ext (w.alloc (.cells cs T)) wr) (i:Nat):wr.frozen? ⟨w.heap.size,i,none⟩ = false:=by
 rw [Below.frozen h (by simp),World.frozen?_alloc_at _ _ _ _ rfl]
theorem Ext.lt {w wr:World} {o:Obj} (h:Ext (w.alloc o) wr):w.heap.size < wr.heap.size:=by have:=h.size;simp at this;omega
theorem Ext.le {w wr:World} (h:Ext w wr):w.heap.size ≤ wr.heap.size:=h.size

theorem Ext.grown {w w':World} (h:Ext w w') (row:Option Nat):w.grownBy w' row:=⟨h.os,h.tape,h.output,h.size,fun i hi _=>h.block i hi⟩
theorem Ext.of_grown {w w':World} (h:w.grownBy w' none):Ext w w':=⟨h.os,h.tape,h.output,h.size,fun i hi=>h.block i hi (by simp)⟩

/-- Block g is just the cells cs of element type t, none frozen. -/
def Blk (w:World) (g:Nat) (t:TypeId) (cs:Array Value):Prop:=w.heap[g]? = some (.cells cs t (0,0))
theorem Blk.lt {w:World} {g:Nat} {t:TypeId} {cs:Array Value} (h:Blk w g t cs):g < w.heap.size:=own_lt h
theorem Blk.cell {w:World} {g:Nat} {t:TypeId} {cs:Array Value} (h:Blk w g t cs) (i:Nat):w.cell? ⟨g,i,none⟩ = cs[i]?:=by
 unfold Blk at h;simp [World.cell?,h]
theorem Blk.free {w:World} {g:Nat} {t:TypeId} {cs:Array Value} (h:Blk w g t cs) (i:Nat):w.frozen? ⟨g,i,none⟩ = false:=by
 unfold Blk at h;simp [World.frozen?,h]
theorem Blk.new (w:World) (t:TypeId) (cs:Array Value):Blk (w.alloc (.cells cs t)) w.heap.size t cs:=heap_alloc_new w _
theorem Blk.ext {w w':World} {g:Nat} {t:TypeId} {cs:Array Value} (h:Blk w g t cs) (e:Ext w w'):Blk w' g t cs:=(e.block g h.lt).trans h
theorem Blk.alloc {w:World} {g:Nat} {t:TypeId} {cs:Array Value} (h:Blk w g t cs) (o:Obj):Blk (w.alloc o) g t cs:=h.ext (Ext.of_alloc _ _)
theorem Blk.set {w:World} {g:Nat} {t:TypeId} {cs:Array Value} (h:Blk w g t cs) (i:Nat) (u:Value):Blk (w.setCell ⟨g,i,none⟩ u) g t (cs.setIfInBounds i u):=by
 unfold Blk at h ⊢
 simp [World.setCell,Array.getElem?_modify,h]
theorem Blk.far {w:World} {g:Nat} {t:TypeId} {cs:Array Value} (h:Blk w g t cs) {p:Addr} (hp:g ≠ p.block) (u:Value):Blk (w.setCell p u) g t cs:=(Below.heap_setCell w p u g hp).trans h
theorem Blk.grown {w w':World} {g:Nat} {t:TypeId} {cs:Array Value} {row:Option Nat} (h:Blk w g t cs) (hb:w.grownBy w' row) (hg:some g ≠ row):Blk w' g t cs:=(hb.block g h.lt hg).trans h
theorem Blk.ne {w:World} {g g':Nat} {t t':TypeId} {cs cs':Array Value} (h:Blk w g t cs) (h':Blk w g' t' cs') (hne:t ≠ t'):g ≠ g':=by
 rintro rfl
 unfold Blk at h h'
 rw [h] at h'
 injection h' with h'
 injection h' with _ ht
 exact hne ht
theorem grown_setCell (w:World) (p:Addr) (u:Value):w.grownBy (w.setCell p u) (some p.block) :=
 ⟨rfl,rfl,rfl,by simp,fun i _ hne=>Below.heap_setCell _ _ _ _ (fun e=>hne (by rw [e]))⟩
theorem grown_refl (w:World) (row:Option Nat):w.grownBy w row:=(Ext.refl w).grown row
theorem grown_trans {a b c:World} {row:Option Nat} (h:a.grownBy b row) (k:b.grownBy c row):a.grownBy c row :=
 ⟨k.os.trans h.os,k.tape.trans h.tape,k.output.trans h.output,Nat.le_trans h.size k.size,fun i hi hne=>(k.block i (Nat.lt_of_lt_of_le hi h.size) hne).trans (h.block i hi hne)⟩
theorem grown_drew (w:World) (row:Option Nat):w.grownBy w.drew row:=(Ext.refl w).drew.grown row

theorem quiet_add_same {P:Program} {f:FuncId} {args:Array Value} {w:World} {a n:Nat} {v:Value}
  (h:Calls P f args (w.drewN (a + n)) fun e w'=>e = .returned v ∧ w' = w.drewN (a + n)) :
  Calls P f args (w.drewN (a + n)) fun e w''=>e = .returned v ∧ ∃ m,w'' = w.drewN (a + m) :=
 h.mono fun _ _ ⟨he,hm⟩=>⟨he,n,hm⟩

/-- A region that draws, all of whose operations read or call, in a class of worlds. -/
theorem wp_region_class {P:Program} {id:Nat} {Q:Exit → Act → World → Prop} {a:Act} {w:World} {l:List Oper} (C:World → Prop) (hm:P.follows .mixedOrders = true) (hB:Region.lexB .any l.toArray = true) (hC:C w.drew)
  (h:wpQuiet P l.toArray C (fun a'=>∀ w',C w' → Q .normal a' w') l a):(Code.region id l.toArray true).wp P Q a w :=
 wp_region_quiet (C:=C) hm hB hC (by simpa using h)

theorem ret_int {k:IntKind} {a b:Int} (h:a = b):Ending.returned (.int k a) = .returned (.int k b):=by rw [h]
theorem ret_bool {a b:Bool} (h:a = b):Ending.returned (.bool a) = .returned (.bool b):=by rw [h]
end Go.Proofs.Ytbhjehpjjbbhbaa

namespace Go.Proofs.Ytbhjehpjjbbhbaa
open Go.RowKit Go.ChangeShapes Go.WideShapes Go.Deep

section
variable {H:Type} {enc:TypeId × Value → H} {P:Program} {w:World} {base:Nat} {held:Bool}

/-- A slice's elements, cell by cell. -/
theorem rd_slice {t e:TypeId} {sz n:Nat} {v:Value} {y:DataW H × List MemPlace} (ht:P.underlying t = some (.slice e)) (hc:P.cellsOf e = sz) (hsz:0 < sz) (h:DataW.trod enc P w base (fun _=>true) held n t [v] = some y) :
  ∃ A len cap,v = .slice A len cap ∧ len ≤ 9223372036854775807 ∧ (A = none → len = 0) ∧ ∀ i,i < len → ∃ b off m cs z,A = some ⟨b,off,none⟩ ∧ b < w.heap.size ∧ cs.length = sz ∧ (∀ j,j < sz → w.cell? ⟨b,off + i * sz + j,none⟩ = cs[j]?) ∧
   DataW.trod enc P w base (fun _=>true) held m e cs = some z:=by
 rcases open_slice ht h with ⟨h0,_⟩|⟨a,len,cap,m,n',D,Pl,h0,hb,hl,hm,hmm,_,hx⟩
 ·injection h0 with h0
  exact ⟨none,0,0,h0,by omega,fun _=>rfl,fun i hi=>by omega⟩
 ·injection h0 with h0
  have hmx:maxLen = 9223372036854775807:=rfl
  refine ⟨some a,len,cap,h0,by omega,(fun h=>by cases h),fun i hi=>?_⟩
  simp only [if_true] at hmm
  obtain ⟨cs,h1,h2⟩:=hx i (by omega)
  obtain ⟨_,hlen,hcell⟩:=World.cells?_some h1
  rw [hc] at hlen hcell
  have hc0:=hcell 0 hsz
  rw [List.getElem?_eq_getElem (by omega)] at hc0
  obtain ⟨b,off,spot⟩:=a
  have hadd:∀ (x y:Nat),((⟨b,off,spot⟩:Addr).add x).add y = (⟨b,off,spot⟩:Addr).add (x + y):=fun x y=>add_of_add _ _ _
  have hsp:spot = none:=by
   obtain ⟨cs0,g1,_⟩:=hx 0 (by omega)
   obtain ⟨_,glen,gcell⟩:=World.cells?_some g1
   rw [hc] at glen gcell
   have g0:=gcell 0 hsz
   rw [List.getElem?_eq_getElem (by omega)] at g0
   have:=World.cell?_spot g0
   simpa [hadd,Addr.add] using this
  subst hsp
  have hform:∀ x,(⟨b,off,none⟩:Addr).add x = ⟨b,off + x,none⟩:=fun x=>by
   unfold Addr.add
   by_cases hx0:x = 0 <;> simp [hx0]
  refine ⟨b,off,n',cs,_,rfl,?_,hlen,fun j hj=>?_,h2⟩
  ·have:=World.block_lt_of_cell? w _ hc0
   rw [hadd,hform] at this
   exact this
  ·have:=hcell j hj
   rw [hadd,hform] at this
   rw [← this,Nat.add_assoc]

theorem rd_int {t:TypeId} {n:Nat} {cs:List Value} {y:DataW H × List MemPlace} (ht:P.underlying t = some (.int .i64)) (h:DataW.trod enc P w base (fun _=>true) held n t cs = some y):∃ i:Int,cs = [.int .i64 i] ∧ -9223372036854775808 ≤ i ∧ i ≤ 9223372036854775807:=by
 obtain ⟨i,h1,_,h3⟩:=DataW.trod_int ht h
 refine ⟨i,h1,?_⟩
 simpa [Lit.wf,IntKind.min,IntKind.max,IntKind.signed,IntKind.bits] using h3

def I64 (x:Int):Prop:=-9223372036854775808 ≤ x ∧ x ≤ 9223372036854775807

theorem rd_ints {t e:TypeId} {n:Nat} {v:Value} {y:DataW H × List MemPlace} (ht:P.underlying t = some (.slice e)) (he:P.underlying e = some (.int .i64)) (hc:P.cellsOf e = 1) (h:DataW.trod enc P w base (fun _=>true) held n t [v] = some y) :
  ∃ A c,∃ l:List Int,v = .slice A l.length c ∧ Ints w A l ∧ l.length ≤ 9223372036854775807 ∧ (A = none → l = []) ∧ ∀ x ∈ l,I64 x:=by
 obtain ⟨A,len,cap,rfl,hl,hn,hx⟩:=rd_slice ht hc (by omega) h
 have key:∀ i,i < len → ∃ x:Int,(∃ b off,A = some ⟨b,off,none⟩ ∧ b < w.heap.size ∧ w.cell? ⟨b,off + i,none⟩ = some (.int .i64 x)) ∧ I64 x:=by
  intro i hi
  obtain ⟨b,off,m,cs,z,hA,hb,hlen,hcell,ht'⟩:=hx i hi
  obtain ⟨x,rfl,h1,h2⟩:=rd_int he ht'
  have:=hcell 0 (by omega)
  rw [Nat.mul_one,Nat.add_zero] at this
  exact ⟨x,⟨b,off,hA,hb,this⟩,h1,h2⟩
 obtain ⟨f,hf⟩:=choose_lt key
 have hlen:((List.range len).map f).length = len:=by simp
 refine ⟨A,cap,(List.range len).map f,by rw [hlen],fun k hk=>?_,by omega,fun hA=>by rw [hn hA];rfl,fun x hx'=>?_⟩
 ·rw [hlen] at hk
  obtain ⟨⟨b,off,h1,h2,h3⟩,_⟩:=hf k hk
  exact ⟨b,off,h1,h2,by rw [h3];simp [List.getD,hk]⟩
 ·obtain ⟨k,hk,rfl⟩:=List.mem_map.1 hx'
  exact (hf k (by simpa using hk)).2

/-- A world that only has more. -/
theorem since_of_ext {W W':World} (h:Ext W W'):W.Since W.heap.size W':=⟨h.os,h.tape,h.output,h.size,fun k hk=>h.block k hk⟩
/-- An argument reads as before in a world that only has more. -/
theorem stays {t:TypeId} (hl:laidOutB P = true) (hr:P.readableRec t = true) (hrow:t < P.types.size) {W W':World} {sp':Nat → Bool} {v:Value} {d:DataW H} {ps:List MemPlace}
  (h:DataW.Trod enc P W 0 (fun _=>true) true t v d ps) (hE:Ext W W') (hlt:∀ p ∈ ps,p.block < W.heap.size) (hs:∀ p ∈ ps,sp' p.block = true):DataW.Trod enc P W' 0 sp' true t v d ps :=
 WideElems.Trod_stays hl hr hrow h (fun p hp=>(since_of_ext hE).sameAt (hlt p hp)) hs
end
end Go.Proofs.Ytbhjehpjjbbhbaa

namespace Go.Proofs.Ytbhjehpjjbbhbaa
open Go.RowKit Go.ChangeShapes Go.WideShapes Go.Deep Go.ChangeAt

section
variable {H:Type} {enc:TypeId × Value → H} {P:Program}
theorem staysAll (hl:laidOutB P = true) {W W':World} (hE:Ext W W') {sp':Nat → Bool}:∀ {ts:List TypeId} {vs:List Value} {ds:List (DataW H)} {ps:List MemPlace},(∀ t ∈ ts,P.readableRec t = true ∧ t < P.types.size) →
  DataW.TrodAll enc P W 0 (fun _=>true) true ts vs ds ps → (∀ p ∈ ps,p.block < W.heap.size) → (∀ p ∈ ps,sp' p.block = true) → DataW.TrodAll enc P W' 0 sp' true ts vs ds ps:=by
 intro ts
 induction ts with
 | nil =>
  intro vs ds ps _ h _ _
  obtain ⟨rfl,rfl,rfl⟩:=trodAll_nil h
  exact trodAll_mk0
 | cons t ts ih =>
  intro vs ds ps ht h hlt hs
  obtain ⟨v,vs',d,ds',p,q,rfl,rfl,rfl,h0,hr⟩:=trodAll_cons h
  exact trodAll_cons_mk (stays hl (ht t List.mem_cons_self).1 (ht t List.mem_cons_self).2 h0 hE (fun x hx=>hlt x (List.mem_append_left _ hx)) (fun x hx=>hs x (List.mem_append_left _ hx)))
   (ih (fun t' h'=>ht t' (List.mem_cons_of_mem _ h')) hr (fun x hx=>hlt x (List.mem_append_right _ hx)) (fun x hx=>hs x (List.mem_append_right _ hx)))

theorem trodLen {w:World} {base:Nat} {spare:Nat → Bool} {held:Bool}:∀ {ts:List TypeId} {vs:List Value} {ds:List (DataW H)} {ps:List MemPlace},DataW.TrodAll enc P w base spare held ts vs ds ps → ds.length = ts.length:=by
 intro ts
 induction ts with
 | nil =>
  intro vs ds ps h
  obtain ⟨rfl,rfl,rfl⟩:=trodAll_nil h
  rfl
 | cons t ts ih =>
  intro vs ds ps h
  obtain ⟨v,vs',d,ds',p,q,rfl,rfl,rfl,h0,hr⟩:=trodAll_cons h
  simp [ih hr]

theorem law_post {f:Func} {s:ChangeSpec} {W W':World} {args:Array Value} {ds gs:List (DataW H)} {before:List MemPlace} {tb:TypeId} (hl:laidOutB P = true) (hts:∀ t ∈ f.params.toList,P.readableRec t = true ∧ t < P.types.size)
  (hv:s.vars = []) (hb:P.underlying tb = some .bool) (hrt:f.resultTypes = #[tb]) (hspec:∀ l:List (DataW H),l.length = f.params.toList.length → s.fn H (l ++ []) = { results:=[.lit (.bool true)],args:=l,vars:=[] })
  (hW:DataW.Whole enc P f.params.toList s.vars false W args.toList ds gs before) (hE:Ext W W'):s.post enc P f false true false false W args (.bool true) W':=by
 have hW':=hW
 obtain ⟨p,q,hA,hV,rfl,_,_⟩:=hW
 rw [hv] at hV
 obtain ⟨rfl,rfl⟩:=trodVars_none hV
 have hlt:∀ x ∈ p,x.block < W.heap.size:=fun x hx=>hW'.lt x (by simp [hx])
 have hlen:=trodLen hA
 have hs:=hspec ds hlen
 refine ⟨ds,[],_,[],p,[],hW',?_,?_,?_,(since_of_ext hE).frame _,fun h=>by cases h⟩
 ·rw [hs,hrt]
  exact trodAll_cons_mk (shut_bool hb _) trodAll_mk0
 ·rw [hs]
  exact staysAll hl hE hts hA hlt (fun x hx=>by simpa using hlt x hx)
 ·rw [hs,hv]
  rfl
end
end Go.Proofs.Ytbhjehpjjbbhbaa

namespace Go.Proofs.Ytbhjehpjjbbhbaa
open Go.RowKit Go.ChangeShapes Go.WideShapes Go.Deep

def nobody : Nat → Prop:=fun _=>False
/-- Cells that are as a table says. -/
def CellsAre (w:World) (cs:List Value) (sz:Nat) (c:Nat → AV):Prop:=cs.length = sz ∧ ∀ o,o < sz → ∃ u,cs[o]? = some u ∧ u.oneCell' = true ∧ rep nobody w (c o) g0 u
theorem law_calls {P:Program} {f:FuncId} {xs:List AV} (H:ACall P f xs [] (fun r h=>r = .bool true ∧ h = [])) {w:World} {vs:Array Value} (hs:vs.size = xs.length) (hr:∀ (i:Nat) (x:AV),xs[i]? = some x → rep nobody w x g0 (vs.getD i undef)) :
  Calls P f vs w fun e w'=>e = .returned (.bool true) ∧ Ext w w':=by
 have noM:∀ b,MM nobody g0 [] b → False:=fun b hb=>by
  rcases hb with hb|⟨d,cap,⟨x,hx,_⟩,_⟩
  ·exact hb
  ·simp at hx
 refine (H.2 nobody g0 w vs (HOK.nil w (fun _ h=>h.elim)) hs fun i x hx=>rep_mono (Chg.refl _ w) (fun b _ hb=>(noM b hb).elim) _ (GM.le_refl _) (hr i x hx)).mono ?_
 rintro e w' ⟨v,r,h',g',rfl,T,hv,rfl,_⟩
 have:v = .bool true:=hv
 subst this
 exact ⟨rfl,T.chg.os,T.chg.tape,T.chg.output,T.chg.size,fun b hb=>T.chg.block b hb (fun hm=>noM b (.inr hm))⟩
theorem CellsAre.agg {w:World} {cs:List Value} {sz:Nat} {c:Nat → AV} (h:CellsAre w cs sz c):rep nobody w (.agg sz c) g0 (.agg cs.toArray) :=
 ⟨_,rfl,by simp [h.1],fun i hi=>by obtain ⟨u,h1,h2,h3⟩:=h.2 i hi;exact ⟨u,by simpa using h1,h2,h3⟩⟩
theorem CellsAre.val {w:World} {v:Value} {cs:List Value} {c:Nat → AV} (h:CellsAre w cs 1 c) (hv:cs = [v]):rep nobody w (c 0) g0 v:=by
 subst hv
 obtain ⟨u,h1,_,h3⟩:=h.2 0 (by omega)
 simp at h1
 rw [h1];exact h3
theorem CellsAre.sub {w:World} {cs:List Value} {off k:Nat} {c:Nat → AV} (h:CellsAre w ((cs.drop off).take k) k c) {o:Nat} (ho:o < k):∃ u,cs[off + o]? = some u ∧ u.oneCell' = true ∧ rep nobody w (c o) g0 u:=by
 obtain ⟨u,h1,h2⟩:=h.2 o ho
 rw [List.getElem?_take] at h1
 simp only [ho,if_true,List.getElem?_drop] at h1
 exact ⟨u,h1,h2⟩
theorem CellsAre.one {w : World} {v : Value} {x : AV} (h1 : v.oneCell' = true) (h : rep nobody w x g0 v) : CellsAre w [v] 1 (fun _ => x) :=
  ⟨rfl, fun o ho => by obtain rfl : o = 0 := (by omega)
                       exact ⟨v, rfl, h1, h⟩⟩
section
variable {H:Type} {enc:TypeId × Value → H} {P:Program} {w:World} {base:Nat} {held:Bool}
theorem rdr_int {t:TypeId} {n:Nat} {cs:List Value} {y:DataW H × List MemPlace} (ht:P.underlying t = some (.int .i64)) (h:DataW.trod enc P w base (fun _=>true) held n t cs = some y):∃ i:Int,I64 i ∧ CellsAre w cs 1 (fun _=>.int .i64 i):=by
 obtain ⟨i,rfl,hi⟩:=rd_int ht h
 exact ⟨i,hi,.one rfl rfl⟩
theorem rdr_slice {α:Type} {t e:TypeId} {sz:Nat} (c:α → Nat → AV) (Q:α → Prop) (d:α) (ht:P.underlying t = some (.slice e)) (hc:P.cellsOf e = sz) (hsz:0 < sz) (rd:∀ {n:Nat} {cs:List Value} {y:DataW H × List MemPlace},DataW.trod enc P w base (fun _=>true) held n e cs = some y → ∃ x,Q x ∧ CellsAre w cs sz (c x))
  {n:Nat} {cs:List Value} {y:DataW H × List MemPlace} (h:DataW.trod enc P w base (fun _=>true) held n t cs = some y) :
  ∃ (z:Bool) (l:List α),(l.length ≤ 9223372036854775807 ∧ ∀ x ∈ l,Q x) ∧ CellsAre w cs 1 (fun _=>.sl z false l.length sz (fun k=>c (l.getD k d))):=by
 have hmx:maxLen = 9223372036854775807:=rfl
 have h':=h
 rcases open_slice ht h with ⟨rfl,_⟩|⟨a,len,cap,m,n',D,Pl,rfl,hb,hl,hm,hmm,_,hx⟩
 ·refine ⟨true,[],⟨by simp,fun x hx=>by cases hx⟩,.one rfl ⟨none,0,rfl,by simp,by simp,fun h=>(by cases h),by simp,fun k hk=>absurd hk (Nat.not_lt_zero k)⟩⟩
 ·obtain ⟨A,len',cap',h0,hl',hn,hxx⟩:=rd_slice ht hc hsz h'
  injection h0 with e1 e2 e3
  subst e1;subst e2;subst e3
  have key:∀ i,i < len → ∃ x:α,Q x ∧ ∃ b off,(some a:Option Addr) = some ⟨b,off,none⟩ ∧ b < w.heap.size ∧ ∀ o,o < sz → ∃ u,w.cell? ⟨b,off + i * sz + o,none⟩ = some u ∧ u.oneCell' = true ∧ rep nobody w (c x o) g0 u:=fun i hi=>by
   obtain ⟨b,off,m,cs,z,hA,hb,hlen,hcell,ht'⟩:=hxx i hi
   obtain ⟨x,hq,hcs⟩:=rd ht'
   refine ⟨x,hq,b,off,hA,hb,fun o ho=>?_⟩
   obtain ⟨u,h1,h2⟩:=hcs.2 o ho
   exact ⟨u,(hcell o ho).trans h1,h2⟩
  obtain ⟨f,hf⟩:∃ f:Nat → α,∀ i,i < len → Q (f i) ∧ ∃ b off,(some a:Option Addr) = some ⟨b,off,none⟩ ∧ b < w.heap.size ∧ ∀ o,o < sz → ∃ u,w.cell? ⟨b,off + i * sz + o,none⟩ = some u ∧ u.oneCell' = true ∧ rep nobody w (c (f i) o) g0 u:=by
   refine ⟨fun i=>open Classical in if hi:i < len then (key i hi).choose else d,fun i hi=>?_⟩
   simp only [hi,dif_pos]
   exact (key i hi).choose_spec
  have hlen:((List.range len).map f).length = len:=by simp
  refine ⟨false,(List.range len).map f,⟨by rw [hlen];omega,fun x hx=>?_⟩,?_⟩
  ·obtain ⟨k,hk,rfl⟩:=List.mem_map.1 hx
   exact (hf k (by simpa using hk)).1
  ·refine .one rfl ⟨some a,cap,by rw [hlen],by simp,by simp,fun h=>(by cases h),by rw [hlen];exact hl,fun k hk o ho=>?_⟩
   rw [hlen] at hk
   obtain ⟨_,b,off,h1,h2,h3⟩:=hf k hk
   obtain ⟨u,h4,h5,h6⟩:=h3 o ho
   have hg:((List.range len).map f).getD k d = f k:=by simp [List.getD,hk]
   exact ⟨b,off,u,h1,h2,fun h=>h,h4,h5,by show rep nobody w (c (((List.range len).map f).getD k d) o) g0 u;rw [hg];exact h6⟩
theorem rdr_field {t:TypeId} {fs:Array Field} {n:Nat} {cs:List Value} {y:DataW H × List MemPlace} (ht:P.underlying t = some (.struct fs)) (h:DataW.trod enc P w base (fun _=>true) held n t cs = some y):cs.length = P.cellsOf t ∧ ∀ (k:Nat) (f:Field),fs[k]? = some f → ∃ m x,DataW.trod enc P w base (fun _=>true) held m f.type ((cs.drop f.offset).take (P.cellsOf f.type)) = some x:=by
 obtain ⟨xs,m,_,rfl,hl,hlen,hf⟩:=DataW.trod_struct ht h
 refine ⟨hl,fun k f hk=>?_⟩
 have hk':k < fs.size:=by
  rcases Nat.lt_or_ge k fs.size with h|h
  ·exact h
  ·rw [Array.getElem?_eq_none h] at hk;cases hk
 have:=hf k f hk
 rw [List.getElem?_eq_getElem (by omega)] at this
 exact ⟨m,_,this⟩
/-- Each field reads. -/
def FRd (enc:TypeId × Value → H) (P:Program) (w:World) (base:Nat) (held:Bool) (cs:List Value):List Field → Prop
 | []=>True
 | f :: fs=>(∃ m x,DataW.trod enc P w base (fun _=>true) held m f.type ((cs.drop f.offset).take (P.cellsOf f.type)) = some x) ∧ FRd enc P w base held cs fs
theorem FRd.of {cs:List Value}:∀ {l:List Field},(∀ f ∈ l,∃ m x,DataW.trod enc P w base (fun _=>true) held m f.type ((cs.drop f.offset).take (P.cellsOf f.type)) = some x) → FRd enc P w base held cs l
 | [],_=>trivial
 | _ :: _,h=>⟨h _ List.mem_cons_self,FRd.of fun f hf=>h f (List.mem_cons_of_mem _ hf)⟩
theorem rdr_fields {t:TypeId} {fs:Array Field} {n:Nat} {cs:List Value} {y:DataW H × List MemPlace} (ht:P.underlying t = some (.struct fs)) (h:DataW.trod enc P w base (fun _=>true) held n t cs = some y):cs.length = P.cellsOf t ∧ FRd enc P w base held cs fs.toList:=by
 obtain ⟨h1,h2⟩:=rdr_field ht h
 refine ⟨h1,FRd.of fun f hf=>?_⟩
 obtain ⟨k,hk,rfl⟩:=List.getElem_of_mem hf
 exact h2 k _ (by simp)
end
end Go.Proofs.Ytbhjehpjjbbhbaa

namespace Go.Proofs.Ytbhjehpjjbbhbaa
open Go.RowKit Go.ChangeShapes Go.WideShapes Go.Deep

theorem in64_get {l:List Int} (h:∀ x ∈ l,I64 x):∀ s,s < l.length → in64 (l.getD s 0):=fun s hs=>by
 have:=h (l.getD s 0) (by simp [List.getD,List.getElem?_eq_getElem hs])
 exact this
section
variable {H:Type} {enc:TypeId × Value → H} {w:World} {base:Nat} {held:Bool}
theorem csz : Try.prog.cellsOf 3 = 1 ∧ Try.prog.cellsOf 35 = 1 ∧ Try.prog.cellsOf 23 = 1 ∧ Try.prog.cellsOf 27 = 3 ∧ Try.prog.cellsOf 22 = 1 ∧ Try.prog.cellsOf 25 = 4:=by
 refine ⟨?_,?_,?_,?_,?_,?_⟩ <;> kernel_rfl
theorem rt_int {n:Nat} {cs:List Value} {y:DataW H × List MemPlace} (h:DataW.trod enc Try.prog w base (fun _=>true) held n 3 cs = some y):∃ i:Int,I64 i ∧ CellsAre w cs 1 (fun _=>AI i):=rdr_int Try.underlying3 h
theorem rt_ints {n:Nat} {cs:List Value} {y:DataW H × List MemPlace} (h:DataW.trod enc Try.prog w base (fun _=>true) held n 35 cs = some y):∃ (z:Bool) (l:List Int),(l.length ≤ 9223372036854775807 ∧ ∀ x ∈ l,I64 x) ∧ CellsAre w cs 1 (fun _=>aInts z false l) :=
 rdr_slice (fun (x:Int) _=>AI x) I64 0 Try.underlying35 csz.1 (by omega) rt_int h
theorem rt_row {n:Nat} {cs:List Value} {y:DataW H × List MemPlace} (h:DataW.trod enc Try.prog w base (fun _=>true) held n 35 cs = some y):∃ x:Bool × List Int,True ∧ CellsAre w cs 1 (fun _=>aInts x.1 false x.2):=by
 obtain ⟨z,l,_,c⟩:=rt_ints h
 exact ⟨(z,l),trivial,c⟩
theorem rt_rows {n:Nat} {cs:List Value} {y:DataW H × List MemPlace} (h:DataW.trod enc Try.prog w base (fun _=>true) held n 23 cs = some y):∃ (z:Bool) (rz:Nat → Bool) (l:List (List Int)),True ∧ CellsAre w cs 1 (fun _=>aRows z false rz (fun _=>false) l):=by
 obtain ⟨z,l,_,c⟩:=rdr_slice (fun (x:Bool × List Int) _=>aInts x.1 false x.2) (fun _=>True) (true,[]) Try.underlying23 csz.2.1 (by omega) rt_row h
 have hb:∀ k,(l.map Prod.snd).getD k [] = (l.getD k (true,[])).2:=fun k=>by
  simp only [List.getD,List.getElem?_map]
  cases l[k]? <;> rfl
 refine ⟨z,fun k=>(l.getD k (true,[])).1,l.map Prod.snd,trivial,?_⟩
 simp only [aRows,List.length_map,hb]
 exact c
theorem rt_folk {n:Nat} {cs:List Value} {y:DataW H × List MemPlace} (h:DataW.trod enc Try.prog w base (fun _=>true) held n 27 cs = some y):∃ x:Folk,(I64 x.tongues ∧ I64 x.slots ∧ I64 x.pay) ∧ CellsAre w cs 3 (cFolk x):=by
 obtain ⟨hl,⟨_,_,h0⟩,⟨_,_,h1⟩,⟨_,_,h2⟩,_⟩:=rdr_fields Try.underlying27 h
 simp only [csz.1] at h0 h1 h2
 obtain ⟨a,ha,c0⟩:=rt_int h0
 obtain ⟨b,hb,c1⟩:=rt_int h1
 obtain ⟨c,hc,c2⟩:=rt_int h2
 refine ⟨⟨a,b,c⟩,⟨ha,hb,hc⟩,by rw [hl];exact csz.2.2.2.1,fun o ho=>?_⟩
 rcases (show o = 0 ∨ o = 1 ∨ o = 2 by omega) with rfl|rfl|rfl
 ·exact c0.sub (o:=0) (by omega)
 ·exact c1.sub (o:=0) (by omega)
 ·exact c2.sub (o:=0) (by omega)
theorem rt_folks {n:Nat} {cs:List Value} {y:DataW H × List MemPlace} (h:DataW.trod enc Try.prog w base (fun _=>true) held n 22 cs = some y):∃ (z:Bool) (l:List Folk),(l.length ≤ 9223372036854775807 ∧ ∀ x ∈ l,I64 x.tongues ∧ I64 x.slots ∧ I64 x.pay) ∧ CellsAre w cs 1 (fun _=>aFolks z false l) :=
 rdr_slice cFolk (fun x=>I64 x.tongues ∧ I64 x.slots ∧ I64 x.pay) fo0 Try.underlying22 csz.2.2.2.1 (by omega) rt_folk h
theorem rt_pool {n:Nat} {cs:List Value} {y:DataW H × List MemPlace} (h:DataW.trod enc Try.prog w base (fun _=>true) held n 25 cs = some y):∃ (f:PoF) (p:Pool),True ∧ CellsAre w cs 4 (cPool f p):=by
 obtain ⟨hl,⟨_,_,h0⟩,⟨_,_,h1⟩,⟨_,_,h2⟩,⟨_,_,h3⟩,_⟩:=rdr_fields Try.underlying25 h
 simp only [csz.1,csz.2.2.1,csz.2.2.2.2.1] at h0 h1 h2 h3
 obtain ⟨z0,a,_,c0⟩:=rt_folks h0
 obtain ⟨z1,rz,b,_,c1⟩:=rt_rows h1
 obtain ⟨c,_,c2⟩:=rt_int h2
 obtain ⟨d,_,c3⟩:=rt_int h3
 refine ⟨⟨z0,false,z1,false,rz,fun _=>false⟩,⟨a,b,c,d⟩,trivial,by rw [hl];exact csz.2.2.2.2.2,fun o ho=>?_⟩
 rcases (show o = 0 ∨ o = 1 ∨ o = 2 ∨ o = 3 by omega) with rfl|rfl|rfl|rfl
 ·exact c0.sub (o:=0) (by omega)
 ·exact c1.sub (o:=0) (by omega)
 ·exact c2.sub (o:=0) (by omega)
 ·exact c3.sub (o:=0) (by omega)
end
end Go.Proofs.Ytbhjehpjjbbhbaa
