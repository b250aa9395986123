/- Cover, plain: what is easier for a pool: a safe watch is safe still, and costs no more. / Cover: the reference's Copy, where the people, and one slot's needs, stay own rows (printed by gen_coe2.py). / Cover: words for the changed pool. / Cover: the statement CoverEasier (printed by gen_coe4.py). / Cover: how an ease reads. -/
import Derived.Test.YtbhjehpjjbbhbaaBc10
import Derived.Test.YtbhjehpjjbbhbaaBc9
set_option linter.unusedSimpArgs false
set_option linter.unusedVariables false
namespace Go.Proofs.Ytbhjehpjjbbhbaa

/-- A pool in which nothing is harder. -/
structure EasierP (p p':Pool):Prop where
 nT:p'.nT = p.nT
 ns:p'.needs.length = p.needs.length
 nf:p.folk.length ≤ p'.folk.length
 tg:∀ i T,i < p.folk.length → p.tg i &&& T ≠ 0 → p'.tg i &&& T ≠ 0
 sl:∀ i s,i < p.folk.length → (p.sl i).testBit s = true → (p'.sl i).testBit s = true
 pay:∀ i,i < p.folk.length → p'.pay i ≤ p.pay i
 need:∀ s t,(p'.row s).getD t 0 ≤ (p.row s).getD t 0
 ill:p'.ill ≤ p.ill
 most:p.most ≤ p'.most
 most0:0 ≤ p'.most
theorem need_le {p p':Pool} (h:EasierP p p') (s T:Nat):∀ k,needTo p' s T k ≤ needTo p s T k
 | 0=>Int.le_refl _
 | k + 1=>by
  have ih:=need_le h s T k
  have:=h.need s k
  rw [needTo,needTo]
  split <;> omega
theorem who_le {p p':Pool} (h:EasierP p p') (g T:Nat):∀ k,k ≤ p.folk.length → whoTo p g T k ≤ whoTo p' g T k
 | 0,_=>Nat.le_refl _
 | k + 1,hk=>by
  have ih:=who_le h g T k (by omega)
  have ht:=h.tg k T (by omega)
  rw [whoTo,whoTo]
  cases hb:g.testBit k with
  | false=>rw [Bool.false_and,Bool.false_and];omega
  | true =>
   rw [Bool.true_and,Bool.true_and]
   by_cases e:p.tg k &&& T ≠ 0
   ·rw [if_pos (decide_eq_true e),if_pos (decide_eq_true (ht e))];omega
   ·rw [if_neg (by simpa using e)];omega
theorem who_up {p:Pool} (g T a:Nat):∀ b,whoTo p g T a ≤ whoTo p g T (a + b)
 | 0=>Nat.le_refl _
 | b + 1=>by
  have ih:=who_up (p:=p) g T a b
  rw [← Nat.add_assoc,whoTo];omega
theorem miss_le {p p':Pool} (h:EasierP p p') (s g T:Nat):missT p' s g T ≤ missT p s g T:=by
 have h1:=need_le h s T p.nT
 have h2:=who_le h g T p.folk.length (Nat.le_refl _)
 obtain ⟨d,hd⟩:∃ d,p'.folk.length = p.folk.length + d:=⟨p'.folk.length - p.folk.length,by have:=h.nf;omega⟩
 have h3:=who_up (p:=p') g T p.folk.length d
 unfold missT needT whoT
 rw [h.nT,hd]
 omega
theorem serves_le {p p':Pool} (h:EasierP p p') {s g:Nat} (hs:servesT p s g = true):servesT p' s g = true:=by
 unfold servesT at hs ⊢
 rw [List.all_eq_true] at hs ⊢
 intro T hT
 rw [h.nT] at hT
 have h1:=of_decide_eq_true (hs T hT)
 have h2:=miss_le h s g T
 exact decide_eq_true (by omega)
theorem covered_le {p p':Pool} (h:EasierP p p') {s g:Nat} (hs:coveredT p s g = true):coveredT p' s g = true:=by
 unfold coveredT standsT at hs ⊢
 rw [List.all_eq_true] at hs ⊢
 intro ill hi
 have h1:=hs ill hi
 have h2:=h.ill
 cases hc:(decide (sdiff ill g = 0) && decide ((pop ill:Int) ≤ p'.ill))
 ·rfl
 ·simp only [Bool.and_eq_true,decide_eq_true_eq] at hc
  rw [show (decide (sdiff ill g = 0) && decide ((pop ill:Int) ≤ p.ill)) = true from by simp only [Bool.and_eq_true,decide_eq_true_eq];exact ⟨hc.1,by omega⟩] at h1
  rw [Bool.not_true,Bool.false_or] at h1 ⊢
  exact serves_le h h1
theorem bit_ltP {g n i:Nat} (hg:g < 2 ^ n) (hb:g.testBit i = true):i < n:=by
 rcases Nat.lt_or_ge i n with h|h
 ·exact h
 ·rw [Nat.testBit_lt_two_pow (Nat.lt_of_lt_of_le hg (Nat.pow_le_pow_right (by decide) h))] at hb;cases hb
theorem on_zero {w:List Int} {i n:Nat} (h:∀ s,(w.getD s 0).toNat < 2 ^ n) (hi:n ≤ i):∀ k,onTo w i k = 0
 | 0=>rfl
 | k + 1=>by
  rw [onTo,on_zero h hi k]
  cases hb:(w.getD k 0).toNat.testBit i
  ·rfl
  ·have:=bit_ltP (h k) hb;omega
theorem watch_le {p p':Pool} (h:EasierP p p') {w:List Int} (hw:isWatch p w = true):isWatch p' w = true:=by
 have k:=watch_d hw
 have hall:∀ s,(w.getD s 0).toNat < 2 ^ p.folk.length:=fun s=>by
  by_cases hs:s < w.length
  ·exact (k.el s hs).2.1
  ·simp only [List.getD,List.getElem?_eq_none (show w.length ≤ s by omega)]
   exact Nat.two_pow_pos _
 unfold isWatch
 rw [Bool.and_eq_true,Bool.and_eq_true]
 refine ⟨⟨decide_eq_true (by rw [k.len,h.ns]),List.all_eq_true.2 fun s hs=>?_⟩,List.all_eq_true.2 fun i hi=>decide_eq_true ?_⟩
 ·obtain ⟨e1,e2,e3⟩:=k.el s (List.mem_range.1 hs)
  have hp:=Nat.pow_le_pow_right (show 0 < 2 by decide) h.nf
  unfold canBe
  rw [Bool.and_eq_true]
  refine ⟨decide_eq_true (by omega),?_⟩
  unfold canT at e3 ⊢
  rw [List.all_eq_true] at e3 ⊢
  intro i hi
  cases hb:(w.getD s 0).toNat.testBit i
  ·rfl
  ·have hi2:=bit_ltP e2 hb
   have:=e3 i (List.mem_range.2 hi2)
   rw [hb] at this
   rw [Bool.not_true,Bool.false_or] at this ⊢
   exact h.sl i s hi2 this
 ·by_cases hi2:i < p.folk.length
  ·have:=k.on i hi2
   have:=h.most
   omega
  ·rw [on_zero hall (by omega)]
   exact h.most0
theorem safe_le {p p':Pool} (h:EasierP p p') {w:List Int} (hs:safeT p w = true):safeT p' w = true:=by
 unfold safeT at hs ⊢
 rw [List.all_eq_true] at hs ⊢
 exact fun s hs2=>covered_le h (hs s hs2)
theorem pay_le {p p':Pool} (h:EasierP p p') (g:Nat):∀ k,k ≤ p.folk.length → payTo p' g k ≤ payTo p g k
 | 0,_=>Int.le_refl _
 | k + 1,hk=>by
  have ih:=pay_le h g k (by omega)
  have:=h.pay k (by omega)
  rw [payTo,payTo]
  split <;> omega
theorem pay_more {p:Pool} {g n:Nat} (hg:g < 2 ^ n):∀ d,payTo p g (n + d) = payTo p g n
 | 0=>rfl
 | d + 1=>by
  rw [← Nat.add_assoc,payTo,pay_more hg d]
  cases hb:g.testBit (n + d)
  ·rw [if_neg (by decide)];omega
  ·have:=bit_ltP hg hb;omega
theorem cost_le {p p':Pool} (h:EasierP p p') {w:List Int} (hall:∀ s,(w.getD s 0).toNat < 2 ^ p.folk.length):∀ k,costTo p' w k ≤ costTo p w k
 | 0=>Int.le_refl _
 | k + 1=>by
  have ih:=cost_le h hall k
  have h1:=pay_le h (w.getD k 0).toNat p.folk.length (Nat.le_refl _)
  obtain ⟨d,hd⟩:∃ d,p'.folk.length = p.folk.length + d:=⟨p'.folk.length - p.folk.length,by have:=h.nf;omega⟩
  have h2:=pay_more (p:=p') (hall k) d
  rw [costTo,costTo]
  unfold payT
  rw [hd,h2]
  omega
/-- There is a plan if there was one, and it costs no more. -/
theorem plan_le {p p':Pool} (h:EasierP p p') (hk:p.ok = true) (hk':p'.ok = true):(∃ v a,planE p = (v,a,0) ∧ ∃ v' b,planE p' = (v',b,0) ∧ b ≤ a) ∨ (planE p = ([],0,3) ∧ ∃ v' b e,planE p' = (v',b,e) ∧ (e = 0 ∨ e = 3)):=by
 have b':=plan_best (pool_d hk') hk'
 rcases plan_best (pool_d hk) hk with ⟨v,e1,e2,e3,e4⟩|⟨e1,_⟩
 ·have w':=watch_le h e2
  have s':=safe_le h e3
  rcases b' with ⟨u,f1,f2,f3,f4⟩|⟨f1,f2⟩
  ·refine .inl ⟨_,_,e1,_,_,f1,?_⟩
   have c1:=f4 _ w' s'
   have k:=watch_d e2
   have hall:∀ s,((toI v).getD s 0).toNat < 2 ^ p.folk.length:=fun s=>by
    by_cases hs:s < (toI v).length
    ·exact (k.el s hs).2.1
    ·simp only [List.getD,List.getElem?_eq_none (show (toI v).length ≤ s by omega)]
     exact Nat.two_pow_pos _
   have c2:costT p' (toI v) ≤ costT p (toI v):=cost_le h hall _
   rw [cost_toI p v] at c2
   omega
  ·rw [f2 _ w'] at s';cases s'
 ·refine .inr ⟨e1,?_⟩
  rcases b' with ⟨u,f1,_⟩|⟨f1,_⟩
  ·exact ⟨_,_,_,f1,.inl rfl⟩
  ·exact ⟨_,_,_,f1,.inr rfl⟩
/-- What is changed in a pool. -/
structure GainP where
 q:Option Nat
 yt:Nat
 ys:Nat
 pay:Int
 at':Option (Nat × Nat)
 need:Int
 ill:Int
 most:Int
def Folk.gain (f:Folk) (g:GainP):Folk:=⟨((f.tongues.toNat ||| g.yt:Nat):Int),((f.slots.toNat ||| g.ys:Nat):Int),max 0 (f.pay - g.pay)⟩
def folkG (l:List Folk) (g:GainP):List Folk:=match g.q with|none=>l|some i=>l.set i ((l.getD i fo0).gain g)
def needG (l:List (List Int)) (g:GainP):List (List Int):=match g.at' with|none=>l|some x=>l.set x.1 ((l.getD x.1 []).set x.2 (max 0 ((l.getD x.1 []).getD x.2 0 - g.need)))
def Pool.gain (p:Pool) (g:GainP):Pool:=⟨folkG p.folk g,needG p.needs g,max 0 (p.ill - g.ill),min 6 (p.most + g.most)⟩
def Pool.plus (p:Pool) (x:Folk):Pool:=⟨p.folk ++ [x],p.needs,p.ill,p.most⟩
theorem folkG_len (l:List Folk) (g:GainP):(folkG l g).length = l.length:=by
 unfold folkG
 cases g.q with
 | none=>rfl
 | some i=>exact List.length_set
theorem needG_len (l:List (List Int)) (g:GainP):(needG l g).length = l.length:=by
 unfold needG
 cases g.at' with
 | none=>rfl
 | some i=>exact List.length_set
theorem folkG_get (l:List Folk) (g:GainP) {k:Nat} (hk:k < l.length):(folkG l g).getD k fo0 = if g.q = some k then (l.getD k fo0).gain g else l.getD k fo0:=by
 unfold folkG
 cases hq:g.q with
 | none=>rw [if_neg (by simp)]
 | some i =>
  show (l.set i _).getD k fo0 = _
  simp only [List.getD,List.getElem?_set,Option.some.injEq]
  by_cases e:i = k
  ·subst e;simp [hk]
  ·rw [if_neg e,if_neg e]
theorem needG_get (l:List (List Int)) (g:GainP) {k:Nat} (hk:k < l.length):(needG l g).getD k [] = match g.at' with|none=>l.getD k []|some x=>if x.1 = k then (l.getD k []).set x.2 (max 0 ((l.getD k []).getD x.2 0 - g.need)) else l.getD k []:=by
 unfold needG
 cases hq:g.at' with
 | none=>rfl
 | some x =>
  show (l.set x.1 _).getD k [] = if x.1 = k then _ else _
  by_cases e:x.1 = k
  ·rw [if_pos e,← e];simp [List.getD,List.getElem?_set,show x.1 < l.length by omega]
  ·rw [if_neg e];simp [List.getD,List.getElem?_set,e]
theorem needG_row (l:List (List Int)) (g:GainP) {k:Nat} (hk:k < l.length):((needG l g).getD k []).length = (l.getD k []).length:=by
 rw [needG_get l g hk]
 cases g.at' with
 | none=>rfl
 | some x=>show (if x.1 = k then _ else _:List Int).length = _;split;exact List.length_set;rfl
theorem set_le {l:List Int} {t k:Nat} {v:Int} (hv:v ≤ l.getD t 0):(l.set t v).getD k 0 ≤ l.getD k 0:=by
 by_cases ht:t < l.length
 ·simp only [List.getD,List.getElem?_set,ht,if_true]
  by_cases e:t = k
  ·subst e;rw [if_pos rfl];simpa only [List.getD,Option.getD_some] using hv
  ·rw [if_neg e];exact Int.le_refl _
 ·rw [List.set_eq_of_length_le (by omega)];exact Int.le_refl _
theorem gain_easierP {p:Pool} (h:PoolOk p) (g:GainP) (h1:0 ≤ g.pay) (h2:0 ≤ g.need) (h3:0 ≤ g.ill) (h4:0 ≤ g.most):EasierP p (p.gain g):=by
 have hf:∀ i,i < p.folk.length → (p.gain g).folk.getD i fo0 = if g.q = some i then (p.folk.getD i fo0).gain g else p.folk.getD i fo0:=fun i hi=>folkG_get _ _ hi
 refine ⟨needG_row p.needs g h.s1,needG_len _ _,by show p.folk.length ≤ (folkG p.folk g).length;rw [folkG_len];exact Nat.le_refl _,fun i T hi ht=>?_,fun i s hi hs=>?_,fun i hi=>?_,fun s t=>?_,?_,?_,?_⟩
 ·unfold Pool.tg at ht ⊢
  rw [hf i hi]
  split
  ·show ((((p.folk.getD i fo0).tongues.toNat ||| g.yt:Nat):Int)).toNat &&& T ≠ 0
   rw [Int.toNat_natCast]
   intro h0
   apply ht
   apply Nat.eq_of_testBit_eq
   intro k
   have:=congrArg (fun x=>x.testBit k) h0
   simp only [Nat.testBit_and,Nat.testBit_or,Nat.zero_testBit] at this ⊢
   cases hb:(p.folk.getD i fo0).tongues.toNat.testBit k
   ·rfl
   ·rw [hb] at this;simpa using this
  ·exact ht
 ·unfold Pool.sl at hs ⊢
  rw [hf i hi]
  split
  ·show ((((p.folk.getD i fo0).slots.toNat ||| g.ys:Nat):Int)).toNat.testBit s = true
   rw [Int.toNat_natCast,Nat.testBit_or,hs];rfl
  ·exact hs
 ·unfold Pool.pay
  rw [hf i hi]
  have:=(h.folk i hi).2.2
  split
  ·show max 0 ((p.folk.getD i fo0).pay - g.pay) ≤ _;omega
  ·exact Int.le_refl _
 ·show ((needG p.needs g).getD s []).getD t 0 ≤ (p.needs.getD s []).getD t 0
  by_cases hs:s < p.needs.length
  ·rw [needG_get _ _ hs]
   cases hq:g.at' with
   | none=>exact Int.le_refl _
   | some x =>
    show (if x.1 = s then _ else _:List Int).getD t 0 ≤ _
    split
    ·refine set_le ?_
     have:0 ≤ (p.needs.getD s []).getD x.2 0:=by
      by_cases hx:x.2 < p.nT
      ·exact ((h.row s hs).2 x.2 hx).1
      ·have:=(h.row s hs).1
       unfold Pool.row at this
       simp only [List.getD] at this ⊢
       rw [List.getElem?_eq_none (by omega)];exact Int.le_refl _
     omega
    ·exact Int.le_refl _
  ·simp only [List.getD,List.getElem?_eq_none (show p.needs.length ≤ s by omega),List.getElem?_eq_none (show (needG p.needs g).length ≤ s by rw [needG_len];omega)]
   exact Int.le_refl _
 ·show max 0 (p.ill - g.ill) ≤ p.ill;have:=h.ill;omega
 ·show p.most ≤ min 6 (p.most + g.most);have:=h.most;omega
 ·show 0 ≤ min 6 (p.most + g.most);have:=h.most;omega
theorem plus_easierP {p:Pool} (h:PoolOk p) (x:Folk):EasierP p (p.plus x):=by
 have hf:∀ i,i < p.folk.length → (p.plus x).folk.getD i fo0 = p.folk.getD i fo0:=fun i hi=>by
  show (p.folk ++ [x]).getD i fo0 = _
  simp only [List.getD,List.getElem?_append_left hi]
 refine ⟨rfl,rfl,by show p.folk.length ≤ (p.folk ++ [x]).length;simp,fun i T hi ht=>?_,fun i s hi hs=>?_,fun i hi=>?_,fun s t=>Int.le_refl _,Int.le_refl _,Int.le_refl _,h.most.1⟩
 ·unfold Pool.tg at ht ⊢;rw [hf i hi];exact ht
 ·unfold Pool.sl at hs ⊢;rw [hf i hi];exact hs
 ·unfold Pool.pay;rw [hf i hi];exact Int.le_refl _
theorem EasierP.trans {a b c:Pool} (h:EasierP a b) (k:EasierP b c):EasierP a c :=
 ⟨k.nT.trans h.nT,k.ns.trans h.ns,Nat.le_trans h.nf k.nf,fun i T hi ht=>k.tg i T (Nat.lt_of_lt_of_le hi h.nf) (h.tg i T hi ht),fun i s hi hs=>k.sl i s (Nat.lt_of_lt_of_le hi h.nf) (h.sl i s hi hs),fun i hi=>Int.le_trans (k.pay i (Nat.lt_of_lt_of_le hi h.nf)) (h.pay i hi),fun s t=>Int.le_trans (k.need s t) (h.need s t),Int.le_trans k.ill h.ill,Int.le_trans h.most k.most,k.most0⟩
theorem gain_okP {p:Pool} (hk:p.ok = true) (g:GainP) (h0:g.yt < 2 ^ p.nT) (h5:g.ys < 2 ^ p.needs.length) (h1:0 ≤ g.pay) (h2:0 ≤ g.need) (h3:0 ≤ g.ill) (h4:0 ≤ g.most):(p.gain g).ok = true:=by
 have h:=pool_d hk
 have e1:(p.gain g).folk.length = p.folk.length:=folkG_len _ _
 have e2:(p.gain g).needs.length = p.needs.length:=needG_len _ _
 have e3:(p.gain g).nT = p.nT:=needG_row p.needs g h.s1
 unfold Pool.ok
 rw [e1,e2,e3]
 simp only [Bool.and_eq_true,decide_eq_true_eq,List.all_eq_true]
 have:=h.n1
 have:=h.n8
 have:=h.s1
 have:=h.s6
 have:=h.t1
 have:=h.t5
 have hil:=h.ill
 have hmo:=h.most
 refine ⟨⟨⟨⟨⟨⟨by omega,by omega⟩,by omega⟩,?_⟩,?_⟩,fun r hr=>?_⟩,fun f hf=>?_⟩
 ·show 0 ≤ max 0 (p.ill - g.ill) ∧ max 0 (p.ill - g.ill) ≤ 3;omega
 ·show 0 ≤ min 6 (p.most + g.most) ∧ min 6 (p.most + g.most) ≤ 6;omega
 ·obtain ⟨k,hk2,rfl⟩:=List.getElem_of_mem hr
  have hk3:k < p.needs.length:=by rw [← e2];exact hk2
  have eg:(p.gain g).needs[k] = (needG p.needs g).getD k []:=by
   show _ = (p.gain g).needs.getD k []
   simp [List.getD,List.getElem?_eq_getElem hk2]
  obtain ⟨r1,r2⟩:=h.row k hk3
  unfold Pool.row at r1 r2
  unfold rowOk
  rw [eg,Bool.and_eq_true]
  refine ⟨decide_eq_true (by rw [needG_row _ _ hk3];exact r1),List.all_eq_true.2 fun y hy=>?_⟩
  rw [needG_get _ _ hk3] at hy
  have old:∀ y ∈ p.needs.getD k [],0 ≤ y ∧ y ≤ 8:=fun y hy=>by
   obtain ⟨t,ht,rfl⟩:=List.getElem_of_mem hy
   have h2:=r2 t (by omega)
   have e:(p.needs.getD k []).getD t 0 = (p.needs.getD k [])[t]:=by
    generalize p.needs.getD k [] = l at ht
    simp [List.getD,List.getElem?_eq_getElem ht]
   rw [e] at h2;exact h2
  cases hq:g.at' with
  | none=>rw [hq] at hy;exact decide_eq_true (old y hy)
  | some x =>
   rw [hq] at hy
   simp only at hy
   split at hy
   ·rcases List.mem_or_eq_of_mem_set hy with h'|rfl
    ·exact decide_eq_true (old y h')
    ·by_cases hx:x.2 < p.nT
     ·have:=r2 x.2 hx
      exact decide_eq_true (by omega)
     ·have:(p.needs.getD k []).getD x.2 0 = 0:=by
       generalize p.needs.getD k [] = l at r1
       simp only [List.getD]
       rw [List.getElem?_eq_none (by omega)];rfl
      rw [this]
      exact decide_eq_true (by omega)
   ·exact decide_eq_true (old y hy)
 ·obtain ⟨k,hk2,rfl⟩:=List.getElem_of_mem hf
  have hk3:k < p.folk.length:=by rw [← e1];exact hk2
  have eg:(p.gain g).folk[k] = (folkG p.folk g).getD k fo0:=by
   show _ = (p.gain g).folk.getD k fo0
   simp [List.getD,List.getElem?_eq_getElem hk2]
  obtain ⟨f1,f2,f3⟩:=h.folk k hk3
  have b:∀ {x:Int} {y n:Nat},0 ≤ x ∧ x < ((2 ^ n:Nat):Int) → y < 2 ^ n → 0 ≤ ((x.toNat ||| y:Nat):Int) ∧ ((x.toNat ||| y:Nat):Int) ≤ ((2 ^ n:Nat):Int) - 1:=fun {x y n} hx hy=>by
   have:=Nat.or_lt_two_pow (n:=n) (show x.toNat < 2 ^ n by omega) hy
   omega
  rw [eg,folkG_get _ _ hk3]
  unfold Folk.ok
  split
  ·simp only [Bool.and_eq_true,decide_eq_true_eq]
   exact ⟨⟨b f1 h0,b f2 h5⟩,by show 0 ≤ max 0 ((p.folk.getD k fo0).pay - g.pay) ∧ max 0 ((p.folk.getD k fo0).pay - g.pay) ≤ 1000;omega⟩
  ·simp only [Bool.and_eq_true,decide_eq_true_eq]
   exact ⟨⟨by omega,by omega⟩,by omega⟩
end Go.Proofs.Ytbhjehpjjbbhbaa

namespace Go.Proofs.Ytbhjehpjjbbhbaa
open Go.RowKit

def lenF (l:List Folk):Nat:=l.length
abbrev rowFo (n:Nat) (l:List Folk):AB:=.row n 3 (fun k=>cFolk (l.getD k fo0))
theorem fo0c {l:List Folk} {z:Nat → Nat → AV} {k o:Nat}:cFolk (l.getD k fo0) o = appc 0 z (fun k=>cFolk (l.getD k fo0)) k o:=by
 simp only [appc]
 rw [if_neg (Nat.not_lt_zero k),Nat.sub_zero]
theorem Ln.slN {σ:Nat → Nat → Prop} {Bp:Nat → Prop} {H:List AB} {z e:Bool} {n n' sz:Nat} {c:Nat → Nat → AV} (h:n' = n):Ln σ Bp H (.sl z e n sz c) (.sl z e n' sz c):=h ▸ Ln.sameB _ rfl
/-- All rows, the q-th one another. -/
def gN (l:List (List Int)) (q:Nat) (c:AV) (k _o:Nat):AV:=if k = q then c else cpRow (l.getD k [])
theorem gN_at (l:List (List Int)) (q:Nat) (c:AV):gN l q c q = fun _=>c:=by funext o;exact if_pos rfl
theorem gN_off {l:List (List Int)} {q k:Nat} {c:AV} (h:k ≠ q) (o:Nat):gN l q c k o = cpRow (l.getD k []):=if_neg h
section
variable {σ:Nat → Nat → Prop} {Bp:Nat → Prop} {H:List AB}
theorem gN_ref {l:List (List Int)} {n q:Nat} {c c':AV} (h:Ln σ Bp H c c'):LnB σ Bp H (.rwg n 1 (gN l q c)) (.rwg n 1 (gN l q c')):=by
 refine ⟨rfl,Nat.le_refl _,fun k hk o ho=>?_⟩
 by_cases e:k = q
 ·subst e;rw [gN_at,gN_at];exact h
 ·rw [gN_off e,gN_off e];exact Ln.sameB _ rfl
theorem gN_ren {l:List (List Int)} {n q b:Nat} {c c':AV} (h:Ln σ Bp H (ren [] b c) c'):LnB σ Bp H (.rwg n 1 (fun k o=>ren [] b (gN l q c k o))) (.rwg n 1 (gN l q c')):=by
 refine ⟨rfl,Nat.le_refl _,fun k hk o ho=>?_⟩
 show Ln σ Bp H (ren [] b (gN l q c k o)) (gN l q c' k o)
 by_cases e:k = q
 ·subst e;rw [gN_at,gN_at];exact h
 ·rw [gN_off e,gN_off e,ren_pure _ rfl];exact Ln.sameB _ rfl
theorem gN_new {l:List (List Int)} {n q:Nat} {c':AV} {L:Nat → Nat → AV} (hn:n = q) (h:Ln σ Bp H (L 0 0) c'):LnB σ Bp H (.rwg (n + 1) 1 (appc n (fun k _=>cpRow (l.getD k [])) L)) (.rwg (n + 1) 1 (gN l q c')):=by
 subst hn
 refine ⟨rfl,Nat.le_refl _,fun k hk o ho=>?_⟩
 obtain rfl:o = 0:=Nat.lt_one_iff.1 ho
 by_cases e:k = n
 ·subst e
  rw [gN_at]
  simp only [appc,Nat.lt_irrefl,if_false,Nat.sub_self]
  exact h
 ·rw [gN_off e]
  simp only [appc,show k < n by omega,if_true]
  exact Ln.sameB _ rfl
theorem gN_more {l:List (List Int)} {n q:Nat} {c c':AV} {L:Nat → Nat → AV} (hq:q < n) (h:Ln σ Bp H c c') (h2:Ln σ Bp H (L 0 0) (cpRow (l.getD n []))):LnB σ Bp H (.rwg (n + 1) 1 (appc n (gN l q c) L)) (.rwg (n + 1) 1 (gN l q c')):=by
 refine ⟨rfl,Nat.le_refl _,fun k hk o ho=>?_⟩
 obtain rfl:o = 0:=Nat.lt_one_iff.1 ho
 by_cases e:k = q
 ·subst e
  rw [gN_at]
  simp only [appc,hq,if_true]
  rw [gN_at];exact h
 ·rw [gN_off e]
  by_cases hkn:k < n
  ·simp only [appc,hkn,if_true]
   rw [gN_off e];exact Ln.sameB _ rfl
  ·obtain rfl:k = n:=by omega
   simp only [appc,Nat.lt_irrefl,if_false,Nat.sub_self]
   exact h2
end
theorem ap0 {l:List Int} {z:Nat → Nat → AV} {k o:Nat} (ho:o < 1):AI (l.getD k 0) = appc 0 z (fun k _=>AI (l.getD k 0)) k o:=by
 simp only [appc]
 rw [if_neg (Nat.not_lt_zero k),Nat.sub_zero]
set_option maxHeartbeats 8000000
set_option maxRecDepth 100000
theorem copy_f (f:PoF) (folk:List Folk) (needs:List (List Int)) (ill most:Int) (n0:0 < folk.length) (n1:folk.length ≤ 1000) (n2:needs.length ≤ 1000) (n4:0 < needs.length) (n3:∀ s,s < needs.length → 0 < (needs.getD s []).length ∧ (needs.getD s []).length ≤ 1000):ACall Try.prog 13 [aPool f ⟨folk,needs,ill,most⟩] [] (fun v h=>v = .agg 4 (ofL [.own 0 (lenF folk),.sl false false needs.length 1 (fun k _=>cpRow (needs.getD k [])),AI ill,AI most]) ∧ h = [rowFo (lenF folk) folk]):=by
 (refine fcall_of mixed Try.func13 rfl (by decide) (hs:={ pub:=[4],ord:=[(7,[(0,[]),(1,[]),(2,[]),(3,[]),(4,[]),(5,[]),(6,[]),(7,[]),(8,[1]),(9,[1]),(10,[]),(11,[]),(12,[])])] }) ?k (ac:=?ac) ?c (rs:=?rs) ?r ?l ?H;(case k=>kernel_rfl);(case c=>(conv=>(lhs;cbv)));(case r=>(conv=>(lhs;cbv)));(case l=>exact Nat.le_of_ble_eq_true rfl))
 apply cutG
 ·intro rest
  (repeat' ((try conv=>whnf);first|(with_reducible first|refine wT ?_|refine wF ?_|(refine wI (fun hq=>?_) (fun hq=>?_) <;> try simp only [zA,zE,zD,zJ,zB,zI,wK,wL] at hq)|refine wA ?_|refine wB ?_|refine wC ?_|refine wD ?_|refine wE ?_)|((with_reducible refine wN ?_ ?_);focus exact needA)|(with_reducible refine wG ?_)|(with_reducible refine wP ?_)))
  all_goals (try conv=>whnf)
  rcases hL:folk.length with _|n
  ·omega
  (repeat' ((try conv=>whnf);first|(with_reducible first|refine wT ?_|refine wF ?_|(refine wI (fun hq=>?_) (fun hq=>?_) <;> try simp only [zA,zE,zD,zJ,zB,zI,wK,wL] at hq)|refine wA ?_|refine wB ?_|refine wC ?_|refine wD ?_|refine wE ?_)|((with_reducible refine wN ?_ ?_);focus exact needA)|(with_reducible refine wG ?_)|(with_reducible refine wP ?_)))
  all_goals (try conv=>whnf)
  exact FWk.of [(1,.ptr 0 0),(2,.ptr 1 0),(3,.ptr 2 0)] [.box 4 (cPool f ⟨folk,needs,ill,most⟩),.box 4 (ofL [nilS,nilS,AI 0,AI 0]),.box 4 (ofL [.own 3 folk.length,nilS,AI ill,AI most]),rowFo folk.length folk] [0,1,2,3] (wO rfl rfl rfl (wV rfl (LnB.boxN ⟨⟨⟨⟨True.intro,by first|exact Ln.sameB _ rfl|exact Ln.slN hL|fail⟩,Ln.sameB _ rfl⟩,Ln.A⟩,Ln.A⟩) (wV rfl (LnB.boxN ⟨⟨⟨⟨True.intro,Ln.A⟩,Ln.A⟩,Ln.A⟩,Ln.A⟩) (wV rfl (LnB.boxN ⟨⟨⟨⟨True.intro,Ln.ownE rfl (by omega)⟩,Ln.A⟩,Ln.A⟩,Ln.A⟩) (wV rfl (LnB.rowE (by omega) fun k hk o ho=>fo0c) wX))))) ⟨Ln.ptr _ _ _ rfl,Ln.ptr _ _ _ rfl,Ln.ptr _ _ _ rfl,True.intro⟩ rest.h
 (repeat' ((try conv=>whnf);first|(with_reducible first|refine wT ?_|refine wF ?_|(refine wI (fun hq=>?_) (fun hq=>?_) <;> try simp only [zA,zE,zD,zJ,zB,zI,wK,wL] at hq)|refine wA ?_|refine wB ?_|refine wC ?_|refine wD ?_|refine wE ?_)|((with_reducible refine wN ?_ ?_);focus exact needA)|(with_reducible refine wG ?_)|(with_reducible refine wP ?_)))
 (try conv=>whnf)
 refine FLoop.of (ACalls.mono _) (X:=Nat) (fun i=>[(1,.ptr 0 0),(2,.ptr 1 0),(3,.ptr 2 0),(4,AI i)]) (fun i=>match i with
  | 0=>[.box 4 (cPool f ⟨folk,needs,ill,most⟩),.box 4 (ofL [nilS,nilS,AI 0,AI 0]),.box 4 (ofL [.own 3 folk.length,nilS,AI ill,AI most]),rowFo folk.length folk]
  | i + 1=>[.box 4 (cPool f ⟨folk,needs,ill,most⟩),.box 4 (ofL [nilS,nilS,AI 0,AI 0]),.box 4 (ofL [.own 3 folk.length,.own 4 (i + 1),AI ill,AI most]),rowFo folk.length folk,rowR (i + 1) needs]) (fun i=>i ≤ needs.length) (fun i=>needs.length - i) 0 ⟨Nat.zero_le _,[0,1,2,3],Cut.A,allA⟩ ?_
 intro i hi
 by_cases hlt:i < needs.length
 ·have q1:=n3 i hlt
  rcases i with _|i
  ·skip
   (repeat' ((try conv=>whnf);first|(with_reducible first|refine wT ?_|refine wF ?_|(refine wI (fun hq=>?_) (fun hq=>?_) <;> try simp only [zA,zE,zD,zJ,zB,zI,wK,wL] at hq)|refine wA ?_|refine wB ?_|refine wC ?_|refine wD ?_|refine wE ?_)|((with_reducible refine wN ?_ ?_);focus exact needA)|(with_reducible refine wG ?_)|(with_reducible refine wP ?_)))
   (try conv=>whnf)
   rcases hR:(needs.getD 0 []).length with _|R
   ·omega
   (repeat' ((try conv=>whnf);first|(with_reducible first|refine wT ?_|refine wF ?_|(refine wI (fun hq=>?_) (fun hq=>?_) <;> try simp only [zA,zE,zD,zJ,zB,zI,wK,wL] at hq)|refine wA ?_|refine wB ?_|refine wC ?_|refine wD ?_|refine wE ?_)|((with_reducible refine wN ?_ ?_);focus exact needA)|(with_reducible refine wG ?_)|(with_reducible refine wP ?_)))
   (try conv=>whnf)
   exact ⟨⟨0 + 1,hlt,by show needs.length - (0 + 1) < needs.length - 0;omega,[0,1,2,3,5],(wO rfl rfl rfl (wV rfl (LnB.A) (wV rfl (LnB.A) (wV rfl (LnB.boxN ⟨⟨⟨⟨True.intro,Ln.A⟩,Ln.ownE rfl (by first|rfl|omega)⟩,Ln.A⟩,Ln.A⟩) (wV rfl (LnB.A) (wV rfl (LnB.rowL (Nat.le_refl _) (fun k hk o ho=>cpApp (fun k hk=>absurd hk (Nat.not_lt_zero k)) (cpR1 hR (fun k hk=>by simp [appc])) hk ho)) wX)))))),allA⟩⟩
  ·skip
   (repeat' ((try conv=>whnf);first|(with_reducible first|refine wT ?_|refine wF ?_|(refine wI (fun hq=>?_) (fun hq=>?_) <;> try simp only [zA,zE,zD,zJ,zB,zI,wK,wL] at hq)|refine wA ?_|refine wB ?_|refine wC ?_|refine wD ?_|refine wE ?_)|((with_reducible refine wN ?_ ?_);focus exact needA)|(with_reducible refine wG ?_)|(with_reducible refine wP ?_)))
   (try conv=>whnf)
   rcases hR:(needs.getD (i + 1) []).length with _|R
   ·omega
   (repeat' ((try conv=>whnf);first|(with_reducible first|refine wT ?_|refine wF ?_|(refine wI (fun hq=>?_) (fun hq=>?_) <;> try simp only [zA,zE,zD,zJ,zB,zI,wK,wL] at hq)|refine wA ?_|refine wB ?_|refine wC ?_|refine wD ?_|refine wE ?_)|((with_reducible refine wN ?_ ?_);focus exact needA)|(with_reducible refine wG ?_)|(with_reducible refine wP ?_)))
   (try conv=>whnf)
   exact ⟨⟨i + 1 + 1,hlt,by show needs.length - (i + 1 + 1) < needs.length - (i + 1);omega,[0,1,2,3,6],(wO rfl rfl rfl (wV rfl (LnB.A) (wV rfl (LnB.A) (wV rfl (LnB.boxN ⟨⟨⟨⟨True.intro,Ln.A⟩,Ln.ownE rfl (by first|rfl|omega)⟩,Ln.A⟩,Ln.A⟩) (wV rfl (LnB.A) (wV rfl (LnB.rowL (Nat.le_refl _) (fun k hk o ho=>cpApp (fun _ _=>rfl) (cpR1 hR (fun k hk=>by simp [appc])) hk ho)) wX)))))),allA⟩⟩
 ·obtain ⟨n,hn⟩:∃ n,needs.length = n + 1:=⟨needs.length - 1,by omega⟩
  have hiE:i = n + 1:=by omega
  subst hiE
  (repeat' ((try conv=>whnf);first|(with_reducible first|refine wT ?_|refine wF ?_|(refine wI (fun hq=>?_) (fun hq=>?_) <;> try simp only [zA,zE,zD,zJ,zB,zI,wK,wL] at hq)|refine wA ?_|refine wB ?_|refine wC ?_|refine wD ?_|refine wE ?_)|((with_reducible refine wN ?_ ?_);focus exact needA)|(with_reducible refine wG ?_)|(with_reducible refine wP ?_)))
  all_goals (try conv=>whnf)
  exact ⟨⟨.agg 4 (ofL [.own 0 (lenF folk),.sl false false needs.length 1 (fun k _=>cpRow (needs.getD k [])),AI ill,AI most]),[rowFo (lenF folk) folk],[3],Cut.A,Ln.aggN ⟨⟨⟨⟨True.intro,Ln.A⟩,Ln.pubE (goneB rfl) rfl (Nat.le_refl _) hn.symm (fun _ _ _ _=>rfl)⟩,Ln.A⟩,Ln.A⟩,rfl,rfl⟩⟩
theorem copy_n (f:PoF) (folk:List Folk) (needs:List (List Int)) (ill most:Int) (n0:0 < folk.length) (n1:folk.length ≤ 1000) (n2:needs.length ≤ 1000) (n3:∀ s,s < needs.length → 0 < (needs.getD s []).length ∧ (needs.getD s []).length ≤ 1000) (q:Nat) (hq:q < needs.length):ACall Try.prog 13 [aPool f ⟨folk,needs,ill,most⟩] [] (fun v h=>v = .agg 4 (ofL [.own 0 (lenF folk),.own 1 needs.length,AI ill,AI most]) ∧ h = [rowFo (lenF folk) folk,.rwg needs.length 1 (gN needs q (.own 2 (needs.getD q []).length)),.row (needs.getD q []).length 1 (fun k _=>AI ((needs.getD q []).getD k 0))]):=by
 (refine fcall_of mixed Try.func13 rfl (by decide) (hs:={ pub:=[4],ord:=[(7,[(0,[]),(1,[]),(2,[]),(3,[]),(4,[]),(5,[]),(6,[]),(7,[]),(8,[1]),(9,[1]),(10,[]),(11,[]),(12,[])])] }) ?k (ac:=?ac) ?c (rs:=?rs) ?r ?l ?H;(case k=>kernel_rfl);(case c=>(conv=>(lhs;cbv)));(case r=>(conv=>(lhs;cbv)));(case l=>exact Nat.le_of_ble_eq_true rfl))
 apply cutG
 ·intro rest
  (repeat' ((try conv=>whnf);first|(with_reducible first|refine wT ?_|refine wF ?_|(refine wI (fun hq=>?_) (fun hq=>?_) <;> try simp only [zA,zE,zD,zJ,zB,zI,wK,wL] at hq)|refine wA ?_|refine wB ?_|refine wC ?_|refine wD ?_|refine wE ?_)|((with_reducible refine wN ?_ ?_);focus exact needA)|(with_reducible refine wG ?_)|(with_reducible refine wP ?_)))
  all_goals (try conv=>whnf)
  rcases hL:folk.length with _|n
  ·omega
  (repeat' ((try conv=>whnf);first|(with_reducible first|refine wT ?_|refine wF ?_|(refine wI (fun hq=>?_) (fun hq=>?_) <;> try simp only [zA,zE,zD,zJ,zB,zI,wK,wL] at hq)|refine wA ?_|refine wB ?_|refine wC ?_|refine wD ?_|refine wE ?_)|((with_reducible refine wN ?_ ?_);focus exact needA)|(with_reducible refine wG ?_)|(with_reducible refine wP ?_)))
  all_goals (try conv=>whnf)
  exact FWk.of [(1,.ptr 0 0),(2,.ptr 1 0),(3,.ptr 2 0)] [.box 4 (cPool f ⟨folk,needs,ill,most⟩),.box 4 (ofL [nilS,nilS,AI 0,AI 0]),.box 4 (ofL [.own 3 folk.length,nilS,AI ill,AI most]),rowFo folk.length folk] [0,1,2,3] (wO rfl rfl rfl (wV rfl (LnB.boxN ⟨⟨⟨⟨True.intro,by first|exact Ln.sameB _ rfl|exact Ln.slN hL|fail⟩,Ln.sameB _ rfl⟩,Ln.A⟩,Ln.A⟩) (wV rfl (LnB.boxN ⟨⟨⟨⟨True.intro,Ln.A⟩,Ln.A⟩,Ln.A⟩,Ln.A⟩) (wV rfl (LnB.boxN ⟨⟨⟨⟨True.intro,Ln.ownE rfl (by omega)⟩,Ln.A⟩,Ln.A⟩,Ln.A⟩) (wV rfl (LnB.rowE (by omega) fun k hk o ho=>fo0c) wX))))) ⟨Ln.ptr _ _ _ rfl,Ln.ptr _ _ _ rfl,Ln.ptr _ _ _ rfl,True.intro⟩ rest.h
 (repeat' ((try conv=>whnf);first|(with_reducible first|refine wT ?_|refine wF ?_|(refine wI (fun hq=>?_) (fun hq=>?_) <;> try simp only [zA,zE,zD,zJ,zB,zI,wK,wL] at hq)|refine wA ?_|refine wB ?_|refine wC ?_|refine wD ?_|refine wE ?_)|((with_reducible refine wN ?_ ?_);focus exact needA)|(with_reducible refine wG ?_)|(with_reducible refine wP ?_)))
 (try conv=>whnf)
 refine FLoop.of (ACalls.mono _) (X:=Bool × Nat) (fun x=>[(1,.ptr 0 0),(2,.ptr 1 0),(3,.ptr 2 0),(4,AI x.2)]) (fun x=>match x with
  | (false,0)=>[.box 4 (cPool f ⟨folk,needs,ill,most⟩),.box 4 (ofL [nilS,nilS,AI 0,AI 0]),.box 4 (ofL [.own 3 folk.length,nilS,AI ill,AI most]),rowFo folk.length folk]
  | (false,i + 1)=>[.box 4 (cPool f ⟨folk,needs,ill,most⟩),.box 4 (ofL [nilS,nilS,AI 0,AI 0]),.box 4 (ofL [.own 3 folk.length,.own 4 (i + 1),AI ill,AI most]),rowFo folk.length folk,rowR (i + 1) needs]
  | (true,i)=>[.box 4 (cPool f ⟨folk,needs,ill,most⟩),.box 4 (ofL [nilS,nilS,AI 0,AI 0]),.box 4 (ofL [.own 3 folk.length,.own 4 i,AI ill,AI most]),rowFo folk.length folk,.rwg i 1 (gN needs q (.own 5 (needs.getD q []).length)),.row (needs.getD q []).length 1 (fun k _=>AI ((needs.getD q []).getD k 0))]) (fun x=>x.2 ≤ needs.length ∧ (x.1 = false → x.2 ≤ q) ∧ (x.1 = true → q < x.2)) (fun x=>needs.length - x.2) (false,0) ⟨⟨Nat.zero_le _,fun _=>Nat.zero_le _,(by intro h;cases h)⟩,[0,1,2,3],Cut.A,allA⟩ ?_
 rintro ⟨b,i⟩ ⟨hi,hb0,hb1⟩
 simp only at hi hb0 hb1
 by_cases hlt:i < needs.length
 ·have q1:=n3 i hlt
  rcases b with _|_
  ·have hiq:=hb0 rfl
   by_cases hqi:i = q
   ·subst hqi
    rcases i with _|i
    ·(repeat' ((try conv=>whnf);first|(with_reducible first|refine wT ?_|refine wF ?_|(refine wI (fun hq=>?_) (fun hq=>?_) <;> try simp only [zA,zE,zD,zJ,zB,zI,wK,wL] at hq)|refine wA ?_|refine wB ?_|refine wC ?_|refine wD ?_|refine wE ?_)|((with_reducible refine wN ?_ ?_);focus exact needA)|(with_reducible refine wG ?_)|(with_reducible refine wP ?_)))
     (try conv=>whnf)
     rcases hR:(needs.getD 0 []).length with _|R
     ·omega
     (repeat' ((try conv=>whnf);first|(with_reducible first|refine wT ?_|refine wF ?_|(refine wI (fun hq=>?_) (fun hq=>?_) <;> try simp only [zA,zE,zD,zJ,zB,zI,wK,wL] at hq)|refine wA ?_|refine wB ?_|refine wC ?_|refine wD ?_|refine wE ?_)|((with_reducible refine wN ?_ ?_);focus exact needA)|(with_reducible refine wG ?_)|(refine FOr.keep ?_)|(with_reducible refine wP ?_)))
     (try conv=>whnf)
     exact ⟨⟨(true,0 + 1),⟨hlt,(by intro h;cases h),fun _=>Nat.lt_succ_self _⟩,by show needs.length - (0 + 1) < needs.length - 0;omega,[0,1,2,3,6,4],(wO rfl rfl rfl (wV rfl (LnB.A) (wV rfl (LnB.A) (wV rfl (LnB.boxN ⟨⟨⟨⟨True.intro,Ln.A⟩,Ln.ownE rfl (by first|rfl|omega)⟩,Ln.A⟩,Ln.A⟩) (wV rfl (LnB.A) (wV rfl (gN_new (n:=0) (by omega) (Ln.ownE rfl (by omega))) (wV rfl (LnB.rowE (by omega) fun k hk o ho=>ap0 ho) wX))))))),allA⟩⟩
    ·(repeat' ((try conv=>whnf);first|(with_reducible first|refine wT ?_|refine wF ?_|(refine wI (fun hq=>?_) (fun hq=>?_) <;> try simp only [zA,zE,zD,zJ,zB,zI,wK,wL] at hq)|refine wA ?_|refine wB ?_|refine wC ?_|refine wD ?_|refine wE ?_)|((with_reducible refine wN ?_ ?_);focus exact needA)|(with_reducible refine wG ?_)|(with_reducible refine wP ?_)))
     (try conv=>whnf)
     rcases hR:(needs.getD (i + 1) []).length with _|R
     ·omega
     (repeat' ((try conv=>whnf);first|(with_reducible first|refine wT ?_|refine wF ?_|(refine wI (fun hq=>?_) (fun hq=>?_) <;> try simp only [zA,zE,zD,zJ,zB,zI,wK,wL] at hq)|refine wA ?_|refine wB ?_|refine wC ?_|refine wD ?_|refine wE ?_)|((with_reducible refine wN ?_ ?_);focus exact needA)|(with_reducible refine wG ?_)|(refine FOr.keep ?_)|(with_reducible refine wP ?_)))
     (try conv=>whnf)
     exact ⟨⟨(true,(i + 1) + 1),⟨hlt,(by intro h;cases h),fun _=>Nat.lt_succ_self _⟩,by show needs.length - ((i + 1) + 1) < needs.length - (i + 1);omega,[0,1,2,3,7,5],(wO rfl rfl rfl (wV rfl (LnB.A) (wV rfl (LnB.A) (wV rfl (LnB.boxN ⟨⟨⟨⟨True.intro,Ln.A⟩,Ln.ownE rfl (by first|rfl|omega)⟩,Ln.A⟩,Ln.A⟩) (wV rfl (LnB.A) (wV rfl (gN_new (n:=(i + 1)) (by omega) (Ln.ownE rfl (by omega))) (wV rfl (LnB.rowE (by omega) fun k hk o ho=>ap0 ho) wX))))))),allA⟩⟩
   ·have hiq:i < q:=by omega
    rcases i with _|i
    ·skip
     (repeat' ((try conv=>whnf);first|(with_reducible first|refine wT ?_|refine wF ?_|(refine wI (fun hq=>?_) (fun hq=>?_) <;> try simp only [zA,zE,zD,zJ,zB,zI,wK,wL] at hq)|refine wA ?_|refine wB ?_|refine wC ?_|refine wD ?_|refine wE ?_)|((with_reducible refine wN ?_ ?_);focus exact needA)|(with_reducible refine wG ?_)|(with_reducible refine wP ?_)))
     (try conv=>whnf)
     rcases hR:(needs.getD 0 []).length with _|R
     ·omega
     (repeat' ((try conv=>whnf);first|(with_reducible first|refine wT ?_|refine wF ?_|(refine wI (fun hq=>?_) (fun hq=>?_) <;> try simp only [zA,zE,zD,zJ,zB,zI,wK,wL] at hq)|refine wA ?_|refine wB ?_|refine wC ?_|refine wD ?_|refine wE ?_)|((with_reducible refine wN ?_ ?_);focus exact needA)|(with_reducible refine wG ?_)|(with_reducible refine wP ?_)))
     (try conv=>whnf)
     exact ⟨⟨(false,0 + 1),⟨hlt,fun _=>hiq,(by intro h;cases h)⟩,by show needs.length - (0 + 1) < needs.length - 0;omega,[0,1,2,3,5],(wO rfl rfl rfl (wV rfl (LnB.A) (wV rfl (LnB.A) (wV rfl (LnB.boxN ⟨⟨⟨⟨True.intro,Ln.A⟩,Ln.ownE rfl (by first|rfl|omega)⟩,Ln.A⟩,Ln.A⟩) (wV rfl (LnB.A) (wV rfl (LnB.rowL (Nat.le_refl _) (fun k hk o ho=>cpApp (fun k hk=>absurd hk (Nat.not_lt_zero k)) (cpR1 hR (fun k hk=>by simp [appc])) hk ho)) wX)))))),allA⟩⟩
    ·skip
     (repeat' ((try conv=>whnf);first|(with_reducible first|refine wT ?_|refine wF ?_|(refine wI (fun hq=>?_) (fun hq=>?_) <;> try simp only [zA,zE,zD,zJ,zB,zI,wK,wL] at hq)|refine wA ?_|refine wB ?_|refine wC ?_|refine wD ?_|refine wE ?_)|((with_reducible refine wN ?_ ?_);focus exact needA)|(with_reducible refine wG ?_)|(with_reducible refine wP ?_)))
     (try conv=>whnf)
     rcases hR:(needs.getD (i + 1) []).length with _|R
     ·omega
     (repeat' ((try conv=>whnf);first|(with_reducible first|refine wT ?_|refine wF ?_|(refine wI (fun hq=>?_) (fun hq=>?_) <;> try simp only [zA,zE,zD,zJ,zB,zI,wK,wL] at hq)|refine wA ?_|refine wB ?_|refine wC ?_|refine wD ?_|refine wE ?_)|((with_reducible refine wN ?_ ?_);focus exact needA)|(with_reducible refine wG ?_)|(with_reducible refine wP ?_)))
     (try conv=>whnf)
     exact ⟨⟨(false,(i + 1) + 1),⟨hlt,fun _=>hiq,(by intro h;cases h)⟩,by show needs.length - ((i + 1) + 1) < needs.length - (i + 1);omega,[0,1,2,3,6],(wO rfl rfl rfl (wV rfl (LnB.A) (wV rfl (LnB.A) (wV rfl (LnB.boxN ⟨⟨⟨⟨True.intro,Ln.A⟩,Ln.ownE rfl (by first|rfl|omega)⟩,Ln.A⟩,Ln.A⟩) (wV rfl (LnB.A) (wV rfl (LnB.rowL (Nat.le_refl _) (fun k hk o ho=>cpApp (fun _ _=>rfl) (cpR1 hR (fun k hk=>by simp [appc])) hk ho)) wX)))))),allA⟩⟩
  ·have hqi:=hb1 rfl
   (repeat' ((try conv=>whnf);first|(with_reducible first|refine wT ?_|refine wF ?_|(refine wI (fun hq=>?_) (fun hq=>?_) <;> try simp only [zA,zE,zD,zJ,zB,zI,wK,wL] at hq)|refine wA ?_|refine wB ?_|refine wC ?_|refine wD ?_|refine wE ?_)|((with_reducible refine wN ?_ ?_);focus exact needA)|(with_reducible refine wG ?_)|(with_reducible refine wP ?_)))
   (try conv=>whnf)
   rcases hR:(needs.getD i []).length with _|R
   ·omega
   (repeat' ((try conv=>whnf);first|(with_reducible first|refine wT ?_|refine wF ?_|(refine wI (fun hq=>?_) (fun hq=>?_) <;> try simp only [zA,zE,zD,zJ,zB,zI,wK,wL] at hq)|refine wA ?_|refine wB ?_|refine wC ?_|refine wD ?_|refine wE ?_)|((with_reducible refine wN ?_ ?_);focus exact needA)|(with_reducible refine wG ?_)|(with_reducible refine wP ?_)))
   (try conv=>whnf)
   exact ⟨⟨(true,i + 1),⟨hlt,(by intro h;cases h),fun _=>Nat.lt_succ_of_lt hqi⟩,by show needs.length - (i + 1) < needs.length - i;omega,[0,1,2,3,7,5],(wO rfl rfl rfl (wV rfl (LnB.A) (wV rfl (LnB.A) (wV rfl (LnB.boxN ⟨⟨⟨⟨True.intro,Ln.A⟩,Ln.ownE rfl (by first|rfl|omega)⟩,Ln.A⟩,Ln.A⟩) (wV rfl (LnB.A) (wV rfl (gN_more hqi (Ln.ownE rfl rfl) (Ln.le _ _ True.intro (cpR1 hR (fun k hk=>by simp [appc])))) (wV rfl (LnB.A) wX))))))),allA⟩⟩
 ·obtain rfl:i = needs.length:=by omega
  rcases b with _|_
  ·have:=hb0 rfl;omega
  (repeat' ((try conv=>whnf);first|(with_reducible first|refine wT ?_|refine wF ?_|(refine wI (fun hq=>?_) (fun hq=>?_) <;> try simp only [zA,zE,zD,zJ,zB,zI,wK,wL] at hq)|refine wA ?_|refine wB ?_|refine wC ?_|refine wD ?_|refine wE ?_)|((with_reducible refine wN ?_ ?_);focus exact needA)|(with_reducible refine wG ?_)|(with_reducible refine wP ?_)))
  (try conv=>whnf)
  exact ⟨⟨.agg 4 (ofL [.own 0 (lenF folk),.own 1 needs.length,AI ill,AI most]),[rowFo (lenF folk) folk,.rwg needs.length 1 (gN needs q (.own 2 (needs.getD q []).length)),.row (needs.getD q []).length 1 (fun k _=>AI ((needs.getD q []).getD k 0))],[3,4,5],(wO rfl rfl rfl (wV rfl (LnB.A) (wV rfl (gN_ref (Ln.ownE rfl rfl)) (wV rfl (LnB.A) wX)))),Ln.aggN ⟨⟨⟨⟨True.intro,Ln.A⟩,Ln.A⟩,Ln.A⟩,Ln.A⟩,rfl,rfl⟩⟩
end Go.Proofs.Ytbhjehpjjbbhbaa

namespace Go.Proofs.Ytbhjehpjjbbhbaa
open Go.RowKit

abbrev cEz (xP xT xS xPay xSl xTo xN xI xM:Int) (m:Folk):Nat → AV:=ofL [AI xP,AI xT,AI xS,AI xPay,AI xSl,AI xTo,AI xN,AI xI,AI xM,AI m.tongues,AI m.slots,AI m.pay]
def flZ : PoF:=⟨false,false,false,false,fun _=>false,fun _=>false⟩
theorem off3 {p:Nat → Prop} (h0:p 0) (h1:p 1) (h2:p 2):∀ o,o < 3 → p o:=fun o ho=>by
 rcases (show o = 0 ∨ o = 1 ∨ o = 2 by omega) with rfl|rfl|rfl <;> assumption
theorem fk_cell {l:List Folk} {g:GainP} {i k o:Nat} {new:Nat → AV} (hq:g.q = some i) (hi:i < l.length) (hk:k < l.length) (hnew:∀ o,o < 3 → cFolk ((l.getD i fo0).gain g) o = new o) (ho:o < 3):cFolk ((folkG l g).getD k fo0) o = updRm (fun k=>cFolk (l.getD k fo0)) i new k o:=by
 rw [folkG_get l g hk,hq]
 simp only [updRm,Option.some.injEq]
 by_cases e:k = i
 ·subst e;rw [if_pos rfl,if_pos rfl];exact hnew o ho
 ·rw [if_neg (fun h=>e h.symm),if_neg e]
theorem plusF_cells {l:List Folk} {m:Folk} {k o:Nat} {L:Nat → Nat → AV} {n:Nat} (hk:k < n + 1) (hL:∀ o,o < 3 → cFolk m o = L 0 o) (ho:o < 3) (hn:l.length = n:=by assumption):cFolk ((l ++ [m]).getD k fo0) o = appc n (fun k=>cFolk (l.getD k fo0)) L k o:=by
 subst hn
 by_cases h:k < l.length
 ·rw [appc,if_pos h]
  simp only [List.getD,List.getElem?_append_left h]
 ·obtain rfl:k = l.length:=by omega
  rw [appc,if_neg h,Nat.sub_self,← hL o ho]
  simp [List.getD]
theorem need_at {l:List (List Int)} {g:GainP} {s t:Nat} (h:g.at' = some (s,t)) (hs:s < l.length):(needG l g).getD s [] = (l.getD s []).set t (max 0 ((l.getD s []).getD t 0 - g.need)):=by
 rw [needG_get l g hs,h]
 exact if_pos rfl
theorem need_off {l:List (List Int)} {g:GainP} {s t:Nat} (h:g.at' = some (s,t)):∀ k,k ≠ s → k < l.length → (needG l g).getD k [] = l.getD k []:=fun k hk hl=>by
 rw [needG_get l g hl,h]
 exact if_neg (fun e=>hk e.symm)
theorem need_cell {l:List Int} {t k o:Nat} {v w:Int} (ht:t < l.length) (hv:v = w) (ho:o < 1):AI ((l.set t (max 0 (l.getD t 0 - v))).getD k 0) = updRm (fun k _=>AI (l.getD k 0)) t (fun _=>AI (max 0 (l.getD t 0 - w))) k o:=by
 subst hv
 simp only [updRm,List.getD,List.getElem?_set,ht,if_true]
 by_cases e:t = k
 ·subst e;simp
 ·rw [if_neg e,if_neg (fun h=>e h.symm)]
section
variable {σ:Nat → Nat → Prop} {Bp:Nat → Prop} {H:List AB}
theorem pubN {d e n L:Nat} {l:List (List Int)} {g:GainP} {q:Nat} (h4:Bp d) (hd:H[d]? = some (.rwg l.length 1 (gN l q (.own e L)))) (hoff:∀ k,k ≠ q → k < l.length → (needG l g).getD k [] = l.getD k []) (h5:Ln σ Bp H (.own e L) (aInts false false ((needG l g).getD q []))) (hn:n = l.length:=by rfl):Ln σ Bp H (.own d n) (aRows false false (fun _=>false) (fun _=>false) (needG l g)):=by
 subst hn
 have hl:=needG_len l g
 show Ln σ Bp H (.own d l.length) (.sl false false (needG l g).length 1 _)
 rw [hl]
 refine Ln.pubg d _ _ 1 _ _ h4 hd (Nat.le_refl _) (fun k hk o ho=>?_) (fun k hk o ho=>pureB_ok _ rfl)
 by_cases e:k = q
 ·subst e;rw [gN_at];exact h5
 ·rw [gN_off e,hoff k e hk]
  exact Ln.sl _ _ _ _ _ _ _ (fun h=>by cases h) (fun _ _ _ _=>rfl)
theorem need_same {l:List (List Int)} {g:GainP} (h:g.at' = none):Ln σ Bp H (.sl false false l.length 1 (fun k _=>cpRow (l.getD k []))) (aRows false false (fun _=>false) (fun _=>false) (needG l g)):=by
 have e:needG l g = l:=by unfold needG;rw [h]
 rw [e]
 exact Ln.le _ _ True.intro (LeV.sl (fun h=>h) fun k hk o ho=>LeV.sl (fun h=>by cases h) fun _ _ _ _=>LeV.refl _)
theorem foldBack {l:List Folk} {m:Folk} {n:Nat} (hn:n = l.length):Ln σ Bp H (.sl false false n 3 (fun k=>cFolk ((l ++ [m]).getD k fo0))) (aFolks false false l):=by
 subst hn
 exact Ln.sl _ _ _ _ _ _ _ (fun h=>h) (fun k hk o ho=>by simp only [List.getD,List.getElem?_append_left hk])
end
theorem near_gain {p:Pool} (h:NearP p) (g:GainP):NearP (p.gain g) :=
 ⟨by show (folkG p.folk g).length ≤ 1000;rw [folkG_len];exact h.f,by show (needG p.needs g).length ≤ 1000;rw [needG_len];exact h.n,fun s hs=>by
  have hs':s < p.needs.length:=by
   have e:(p.gain g).needs.length = p.needs.length:=needG_len _ _
   omega
  have:=h.r s hs'
  unfold Pool.row at this ⊢
  show ((needG p.needs g).getD s []).length ≤ 1000
  rw [needG_row _ _ hs'];exact this⟩
end Go.Proofs.Ytbhjehpjjbbhbaa

namespace Go.Proofs.Ytbhjehpjjbbhbaa
open Go.RowKit

set_option maxHeartbeats 8000000
set_option maxRecDepth 100000
theorem easierC_any (f:PoF) (p:Pool) (xP xT xS xPay xSl xTo xN xI xM:Int) (m:Folk):ACall Try.prog 3 [aPool f p,.agg 12 (cEz xP xT xS xPay xSl xTo xN xI xM m)] [] (fun v h=>v = .bool true ∧ h = []):=by
 have hcv:=valid_ok f p
 (refine fcall_of mixed Try.func3 rfl (by decide) (hs:={ ord:=[(6,[(0,[]),(1,[]),(2,[]),(3,[]),(4,[]),(5,[1,3]),(6,[]),(7,[]),(8,[]),(9,[]),(10,[]),(11,[]),(12,[])]),(10,[(0,[]),(1,[]),(2,[]),(3,[]),(4,[]),(5,[]),(6,[]),(7,[]),(8,[]),(9,[]),(10,[]),(11,[]),(12,[]),(13,[]),(14,[]),(15,[]),(16,[]),(17,[]),(18,[]),(19,[]),(20,[18]),(21,[]),(22,[])])],pub:=[4,10,12,15,17] }) ?k (ac:=?ac) ?c (rs:=?rs) ?r ?l ?H;(case k=>kernel_rfl);(case c=>(conv=>(lhs;cbv)));(case r=>(conv=>(lhs;cbv)));(case l=>exact Nat.le_of_ble_eq_true rfl))
 cases hv:validT p
 ·rw [hv] at hcv
  (repeat' ((try conv=>whnf);first|(with_reducible first|refine FCond.t rfl ?_|refine FCond.f rfl ?_)|((with_reducible refine FCond.uT (fun hq=>?_));rw [hq];(with_reducible refine FCond.t rfl ?_);clear hq)|((with_reducible refine FCond.uF (fun hq=>?_));rw [hq];(with_reducible refine FCond.f rfl ?_);clear hq)|((with_reducible refine wJ (fun hq=>?_) (fun hq=>?_)) <;> (rw [hq];(with_reducible first|refine FCond.t rfl ?_|refine FCond.f rfl ?_);(try simp only [zA,zE,zD,zJ,zB,zI,wK,wL] at hq)))|(with_reducible first|refine wA ?_|refine wB ?_|refine wC ?_|refine wD ?_|refine wE ?_)|((with_reducible refine wN ?_ ?_);focus exact needA)|(with_reducible refine wG ?_)|(refine FCall.pure (hcv) ⟨Ln.sameB _ rfl,True.intro⟩ rfl ?_)|(refine FCall.pure works_ok True.intro rfl ?_)|(with_reducible refine wP ?_)))
  all_goals (try conv=>whnf)
  all_goals ((refine ⟨⟨_,[],[],Cut.nil _,Ln.sameB _ rfl,?_,rfl⟩⟩);rfl)
 rw [hv] at hcv
 obtain ⟨hn,hk,h,hsm⟩:=valid_d hv
 by_cases k0:p.folk.length ≤ 4
 case neg =>
  (repeat' ((try conv=>whnf);first|(with_reducible first|refine FCond.t rfl ?_|refine FCond.f rfl ?_)|((with_reducible refine FCond.uT (fun hq=>?_));rw [hq];(with_reducible refine FCond.t rfl ?_);clear hq)|((with_reducible refine FCond.uF (fun hq=>?_));rw [hq];(with_reducible refine FCond.f rfl ?_);clear hq)|((with_reducible refine wJ (fun hq=>?_) (fun hq=>?_)) <;> (rw [hq];(with_reducible first|refine FCond.t rfl ?_|refine FCond.f rfl ?_);(try simp only [zA,zE,zD,zJ,zB,zI,wK,wL] at hq)))|(with_reducible first|refine wA ?_|refine wB ?_|refine wC ?_|refine wD ?_|refine wE ?_)|((with_reducible refine wN ?_ ?_);focus exact needA)|(with_reducible refine wG ?_)|(refine FCall.pure (hcv) ⟨Ln.sameB _ rfl,True.intro⟩ rfl ?_)|(refine FCall.pure works_ok True.intro rfl ?_)|(with_reducible refine wP ?_)))
  all_goals (try conv=>whnf)
  all_goals ((refine ⟨⟨_,[],[],Cut.nil _,Ln.sameB _ rfl,?_,rfl⟩⟩);rfl)
 by_cases k1:0 ≤ xT
 case neg =>
  (repeat' ((try conv=>whnf);first|(with_reducible first|refine FCond.t rfl ?_|refine FCond.f rfl ?_)|((with_reducible refine FCond.uT (fun hq=>?_));rw [hq];(with_reducible refine FCond.t rfl ?_);clear hq)|((with_reducible refine FCond.uF (fun hq=>?_));rw [hq];(with_reducible refine FCond.f rfl ?_);clear hq)|((with_reducible refine wJ (fun hq=>?_) (fun hq=>?_)) <;> (rw [hq];(with_reducible first|refine FCond.t rfl ?_|refine FCond.f rfl ?_);(try simp only [zA,zE,zD,zJ,zB,zI,wK,wL] at hq)))|(with_reducible first|refine wA ?_|refine wB ?_|refine wC ?_|refine wD ?_|refine wE ?_)|((with_reducible refine wN ?_ ?_);focus exact needA)|(with_reducible refine wG ?_)|(refine FCall.pure (hcv) ⟨Ln.sameB _ rfl,True.intro⟩ rfl ?_)|(refine FCall.pure works_ok True.intro rfl ?_)|(with_reducible refine wP ?_)))
  all_goals (try conv=>whnf)
  all_goals ((refine ⟨⟨_,[],[],Cut.nil _,Ln.sameB _ rfl,?_,rfl⟩⟩);rfl)
 by_cases k2:xT ≤ 31
 case neg =>
  (repeat' ((try conv=>whnf);first|(with_reducible first|refine FCond.t rfl ?_|refine FCond.f rfl ?_)|((with_reducible refine FCond.uT (fun hq=>?_));rw [hq];(with_reducible refine FCond.t rfl ?_);clear hq)|((with_reducible refine FCond.uF (fun hq=>?_));rw [hq];(with_reducible refine FCond.f rfl ?_);clear hq)|((with_reducible refine wJ (fun hq=>?_) (fun hq=>?_)) <;> (rw [hq];(with_reducible first|refine FCond.t rfl ?_|refine FCond.f rfl ?_);(try simp only [zA,zE,zD,zJ,zB,zI,wK,wL] at hq)))|(with_reducible first|refine wA ?_|refine wB ?_|refine wC ?_|refine wD ?_|refine wE ?_)|((with_reducible refine wN ?_ ?_);focus exact needA)|(with_reducible refine wG ?_)|(refine FCall.pure (hcv) ⟨Ln.sameB _ rfl,True.intro⟩ rfl ?_)|(refine FCall.pure works_ok True.intro rfl ?_)|(with_reducible refine wP ?_)))
  all_goals (try conv=>whnf)
  all_goals ((refine ⟨⟨_,[],[],Cut.nil _,Ln.sameB _ rfl,?_,rfl⟩⟩);rfl)
 by_cases k3:0 ≤ xS
 case neg =>
  (repeat' ((try conv=>whnf);first|(with_reducible first|refine FCond.t rfl ?_|refine FCond.f rfl ?_)|((with_reducible refine FCond.uT (fun hq=>?_));rw [hq];(with_reducible refine FCond.t rfl ?_);clear hq)|((with_reducible refine FCond.uF (fun hq=>?_));rw [hq];(with_reducible refine FCond.f rfl ?_);clear hq)|((with_reducible refine wJ (fun hq=>?_) (fun hq=>?_)) <;> (rw [hq];(with_reducible first|refine FCond.t rfl ?_|refine FCond.f rfl ?_);(try simp only [zA,zE,zD,zJ,zB,zI,wK,wL] at hq)))|(with_reducible first|refine wA ?_|refine wB ?_|refine wC ?_|refine wD ?_|refine wE ?_)|((with_reducible refine wN ?_ ?_);focus exact needA)|(with_reducible refine wG ?_)|(refine FCall.pure (hcv) ⟨Ln.sameB _ rfl,True.intro⟩ rfl ?_)|(refine FCall.pure works_ok True.intro rfl ?_)|(with_reducible refine wP ?_)))
  all_goals (try conv=>whnf)
  all_goals ((refine ⟨⟨_,[],[],Cut.nil _,Ln.sameB _ rfl,?_,rfl⟩⟩);rfl)
 by_cases k4:xS ≤ 63
 case neg =>
  (repeat' ((try conv=>whnf);first|(with_reducible first|refine FCond.t rfl ?_|refine FCond.f rfl ?_)|((with_reducible refine FCond.uT (fun hq=>?_));rw [hq];(with_reducible refine FCond.t rfl ?_);clear hq)|((with_reducible refine FCond.uF (fun hq=>?_));rw [hq];(with_reducible refine FCond.f rfl ?_);clear hq)|((with_reducible refine wJ (fun hq=>?_) (fun hq=>?_)) <;> (rw [hq];(with_reducible first|refine FCond.t rfl ?_|refine FCond.f rfl ?_);(try simp only [zA,zE,zD,zJ,zB,zI,wK,wL] at hq)))|(with_reducible first|refine wA ?_|refine wB ?_|refine wC ?_|refine wD ?_|refine wE ?_)|((with_reducible refine wN ?_ ?_);focus exact needA)|(with_reducible refine wG ?_)|(refine FCall.pure (hcv) ⟨Ln.sameB _ rfl,True.intro⟩ rfl ?_)|(refine FCall.pure works_ok True.intro rfl ?_)|(with_reducible refine wP ?_)))
  all_goals (try conv=>whnf)
  all_goals ((refine ⟨⟨_,[],[],Cut.nil _,Ln.sameB _ rfl,?_,rfl⟩⟩);rfl)
 by_cases k5:0 ≤ xPay
 case neg =>
  (repeat' ((try conv=>whnf);first|(with_reducible first|refine FCond.t rfl ?_|refine FCond.f rfl ?_)|((with_reducible refine FCond.uT (fun hq=>?_));rw [hq];(with_reducible refine FCond.t rfl ?_);clear hq)|((with_reducible refine FCond.uF (fun hq=>?_));rw [hq];(with_reducible refine FCond.f rfl ?_);clear hq)|((with_reducible refine wJ (fun hq=>?_) (fun hq=>?_)) <;> (rw [hq];(with_reducible first|refine FCond.t rfl ?_|refine FCond.f rfl ?_);(try simp only [zA,zE,zD,zJ,zB,zI,wK,wL] at hq)))|(with_reducible first|refine wA ?_|refine wB ?_|refine wC ?_|refine wD ?_|refine wE ?_)|((with_reducible refine wN ?_ ?_);focus exact needA)|(with_reducible refine wG ?_)|(refine FCall.pure (hcv) ⟨Ln.sameB _ rfl,True.intro⟩ rfl ?_)|(refine FCall.pure works_ok True.intro rfl ?_)|(with_reducible refine wP ?_)))
  all_goals (try conv=>whnf)
  all_goals ((refine ⟨⟨_,[],[],Cut.nil _,Ln.sameB _ rfl,?_,rfl⟩⟩);rfl)
 by_cases k6:xPay ≤ 1000
 case neg =>
  (repeat' ((try conv=>whnf);first|(with_reducible first|refine FCond.t rfl ?_|refine FCond.f rfl ?_)|((with_reducible refine FCond.uT (fun hq=>?_));rw [hq];(with_reducible refine FCond.t rfl ?_);clear hq)|((with_reducible refine FCond.uF (fun hq=>?_));rw [hq];(with_reducible refine FCond.f rfl ?_);clear hq)|((with_reducible refine wJ (fun hq=>?_) (fun hq=>?_)) <;> (rw [hq];(with_reducible first|refine FCond.t rfl ?_|refine FCond.f rfl ?_);(try simp only [zA,zE,zD,zJ,zB,zI,wK,wL] at hq)))|(with_reducible first|refine wA ?_|refine wB ?_|refine wC ?_|refine wD ?_|refine wE ?_)|((with_reducible refine wN ?_ ?_);focus exact needA)|(with_reducible refine wG ?_)|(refine FCall.pure (hcv) ⟨Ln.sameB _ rfl,True.intro⟩ rfl ?_)|(refine FCall.pure works_ok True.intro rfl ?_)|(with_reducible refine wP ?_)))
  all_goals (try conv=>whnf)
  all_goals ((refine ⟨⟨_,[],[],Cut.nil _,Ln.sameB _ rfl,?_,rfl⟩⟩);rfl)
 by_cases k7:0 ≤ xN
 case neg =>
  (repeat' ((try conv=>whnf);first|(with_reducible first|refine FCond.t rfl ?_|refine FCond.f rfl ?_)|((with_reducible refine FCond.uT (fun hq=>?_));rw [hq];(with_reducible refine FCond.t rfl ?_);clear hq)|((with_reducible refine FCond.uF (fun hq=>?_));rw [hq];(with_reducible refine FCond.f rfl ?_);clear hq)|((with_reducible refine wJ (fun hq=>?_) (fun hq=>?_)) <;> (rw [hq];(with_reducible first|refine FCond.t rfl ?_|refine FCond.f rfl ?_);(try simp only [zA,zE,zD,zJ,zB,zI,wK,wL] at hq)))|(with_reducible first|refine wA ?_|refine wB ?_|refine wC ?_|refine wD ?_|refine wE ?_)|((with_reducible refine wN ?_ ?_);focus exact needA)|(with_reducible refine wG ?_)|(refine FCall.pure (hcv) ⟨Ln.sameB _ rfl,True.intro⟩ rfl ?_)|(refine FCall.pure works_ok True.intro rfl ?_)|(with_reducible refine wP ?_)))
  all_goals (try conv=>whnf)
  all_goals ((refine ⟨⟨_,[],[],Cut.nil _,Ln.sameB _ rfl,?_,rfl⟩⟩);rfl)
 by_cases k8:xN ≤ 8
 case neg =>
  (repeat' ((try conv=>whnf);first|(with_reducible first|refine FCond.t rfl ?_|refine FCond.f rfl ?_)|((with_reducible refine FCond.uT (fun hq=>?_));rw [hq];(with_reducible refine FCond.t rfl ?_);clear hq)|((with_reducible refine FCond.uF (fun hq=>?_));rw [hq];(with_reducible refine FCond.f rfl ?_);clear hq)|((with_reducible refine wJ (fun hq=>?_) (fun hq=>?_)) <;> (rw [hq];(with_reducible first|refine FCond.t rfl ?_|refine FCond.f rfl ?_);(try simp only [zA,zE,zD,zJ,zB,zI,wK,wL] at hq)))|(with_reducible first|refine wA ?_|refine wB ?_|refine wC ?_|refine wD ?_|refine wE ?_)|((with_reducible refine wN ?_ ?_);focus exact needA)|(with_reducible refine wG ?_)|(refine FCall.pure (hcv) ⟨Ln.sameB _ rfl,True.intro⟩ rfl ?_)|(refine FCall.pure works_ok True.intro rfl ?_)|(with_reducible refine wP ?_)))
  all_goals (try conv=>whnf)
  all_goals ((refine ⟨⟨_,[],[],Cut.nil _,Ln.sameB _ rfl,?_,rfl⟩⟩);rfl)
 by_cases k9:0 ≤ xI
 case neg =>
  (repeat' ((try conv=>whnf);first|(with_reducible first|refine FCond.t rfl ?_|refine FCond.f rfl ?_)|((with_reducible refine FCond.uT (fun hq=>?_));rw [hq];(with_reducible refine FCond.t rfl ?_);clear hq)|((with_reducible refine FCond.uF (fun hq=>?_));rw [hq];(with_reducible refine FCond.f rfl ?_);clear hq)|((with_reducible refine wJ (fun hq=>?_) (fun hq=>?_)) <;> (rw [hq];(with_reducible first|refine FCond.t rfl ?_|refine FCond.f rfl ?_);(try simp only [zA,zE,zD,zJ,zB,zI,wK,wL] at hq)))|(with_reducible first|refine wA ?_|refine wB ?_|refine wC ?_|refine wD ?_|refine wE ?_)|((with_reducible refine wN ?_ ?_);focus exact needA)|(with_reducible refine wG ?_)|(refine FCall.pure (hcv) ⟨Ln.sameB _ rfl,True.intro⟩ rfl ?_)|(refine FCall.pure works_ok True.intro rfl ?_)|(with_reducible refine wP ?_)))
  all_goals (try conv=>whnf)
  all_goals ((refine ⟨⟨_,[],[],Cut.nil _,Ln.sameB _ rfl,?_,rfl⟩⟩);rfl)
 by_cases k10:xI ≤ 3
 case neg =>
  (repeat' ((try conv=>whnf);first|(with_reducible first|refine FCond.t rfl ?_|refine FCond.f rfl ?_)|((with_reducible refine FCond.uT (fun hq=>?_));rw [hq];(with_reducible refine FCond.t rfl ?_);clear hq)|((with_reducible refine FCond.uF (fun hq=>?_));rw [hq];(with_reducible refine FCond.f rfl ?_);clear hq)|((with_reducible refine wJ (fun hq=>?_) (fun hq=>?_)) <;> (rw [hq];(with_reducible first|refine FCond.t rfl ?_|refine FCond.f rfl ?_);(try simp only [zA,zE,zD,zJ,zB,zI,wK,wL] at hq)))|(with_reducible first|refine wA ?_|refine wB ?_|refine wC ?_|refine wD ?_|refine wE ?_)|((with_reducible refine wN ?_ ?_);focus exact needA)|(with_reducible refine wG ?_)|(refine FCall.pure (hcv) ⟨Ln.sameB _ rfl,True.intro⟩ rfl ?_)|(refine FCall.pure works_ok True.intro rfl ?_)|(with_reducible refine wP ?_)))
  all_goals (try conv=>whnf)
  all_goals ((refine ⟨⟨_,[],[],Cut.nil _,Ln.sameB _ rfl,?_,rfl⟩⟩);rfl)
 by_cases k11:0 ≤ xM
 case neg =>
  (repeat' ((try conv=>whnf);first|(with_reducible first|refine FCond.t rfl ?_|refine FCond.f rfl ?_)|((with_reducible refine FCond.uT (fun hq=>?_));rw [hq];(with_reducible refine FCond.t rfl ?_);clear hq)|((with_reducible refine FCond.uF (fun hq=>?_));rw [hq];(with_reducible refine FCond.f rfl ?_);clear hq)|((with_reducible refine wJ (fun hq=>?_) (fun hq=>?_)) <;> (rw [hq];(with_reducible first|refine FCond.t rfl ?_|refine FCond.f rfl ?_);(try simp only [zA,zE,zD,zJ,zB,zI,wK,wL] at hq)))|(with_reducible first|refine wA ?_|refine wB ?_|refine wC ?_|refine wD ?_|refine wE ?_)|((with_reducible refine wN ?_ ?_);focus exact needA)|(with_reducible refine wG ?_)|(refine FCall.pure (hcv) ⟨Ln.sameB _ rfl,True.intro⟩ rfl ?_)|(refine FCall.pure works_ok True.intro rfl ?_)|(with_reducible refine wP ?_)))
  all_goals (try conv=>whnf)
  all_goals ((refine ⟨⟨_,[],[],Cut.nil _,Ln.sameB _ rfl,?_,rfl⟩⟩);rfl)
 by_cases k12:xM ≤ 6
 case neg =>
  (repeat' ((try conv=>whnf);first|(with_reducible first|refine FCond.t rfl ?_|refine FCond.f rfl ?_)|((with_reducible refine FCond.uT (fun hq=>?_));rw [hq];(with_reducible refine FCond.t rfl ?_);clear hq)|((with_reducible refine FCond.uF (fun hq=>?_));rw [hq];(with_reducible refine FCond.f rfl ?_);clear hq)|((with_reducible refine wJ (fun hq=>?_) (fun hq=>?_)) <;> (rw [hq];(with_reducible first|refine FCond.t rfl ?_|refine FCond.f rfl ?_);(try simp only [zA,zE,zD,zJ,zB,zI,wK,wL] at hq)))|(with_reducible first|refine wA ?_|refine wB ?_|refine wC ?_|refine wD ?_|refine wE ?_)|((with_reducible refine wN ?_ ?_);focus exact needA)|(with_reducible refine wG ?_)|(refine FCall.pure (hcv) ⟨Ln.sameB _ rfl,True.intro⟩ rfl ?_)|(refine FCall.pure works_ok True.intro rfl ?_)|(with_reducible refine wP ?_)))
  all_goals (try conv=>whnf)
  all_goals ((refine ⟨⟨_,[],[],Cut.nil _,Ln.sameB _ rfl,?_,rfl⟩⟩);rfl)
 have n1:=h.n1
 have n8:=h.n8
 have s1:=h.s1
 have s6:=h.s6
 have t1:=h.t1
 have t5:=h.t5
 have hill:=h.ill
 have hmost:=h.most
 have hp1:=Nat.two_pow_pos p.nT
 have hp2:=Nat.two_pow_pos p.needs.length
 have hp3:2 ^ p.nT ≤ 2 ^ 5:=Nat.pow_le_pow_right (by decide) t5
 have hp4:2 ^ p.needs.length ≤ 2 ^ 6:=Nat.pow_le_pow_right (by decide) s6
 have hrow:∀ s,s < p.needs.length → 0 < (p.needs.getD s []).length ∧ (p.needs.getD s []).length ≤ 1000:=fun s hs=>by have:=(h.row s hs).1;unfold Pool.row at this;omega
 have cTg:=tongues_ok f p (by omega)
 have hy1:xT.toNat &&& (2 ^ p.nT - 1) < 2 ^ p.nT:=Nat.lt_of_le_of_lt Nat.and_le_right (by omega)
 have hy2:xS.toNat &&& (2 ^ p.needs.length - 1) < 2 ^ p.needs.length:=Nat.lt_of_le_of_lt Nat.and_le_right (by omega)
 obtain ⟨g,hgE⟩:∃ g:GainP,Hold (g = ⟨if 0 ≤ xP ∧ xP < p.folk.length then some xP.toNat else none,xT.toNat &&& (2 ^ p.nT - 1),xS.toNat &&& (2 ^ p.needs.length - 1),xPay,if (0 ≤ xSl ∧ xSl < p.needs.length) ∧ (0 ≤ xTo ∧ xTo < p.nT) then some (xSl.toNat,xTo.toNat) else none,xN,xI,xM⟩):=⟨_,⟨rfl⟩⟩
 apply cutG
 ·intro rest
  by_cases hat:(0 ≤ xSl ∧ xSl < p.needs.length) ∧ (0 ≤ xTo ∧ xTo < p.nT)
  ·have cC:=copy_n f p.folk p.needs p.ill p.most (by omega) (by omega) (by omega) hrow xSl.toNat (by omega)
   have hga:g.at' = some (xSl.toNat,xTo.toNat):=by rw [hgE.h];exact if_pos hat
   (repeat' ((try conv=>whnf);first|(with_reducible first|refine FCond.t rfl ?_|refine FCond.f rfl ?_)|((with_reducible refine FCond.uT (fun hq=>?_));rw [hq];(with_reducible refine FCond.t rfl ?_);clear hq)|((with_reducible refine FCond.uF (fun hq=>?_));rw [hq];(with_reducible refine FCond.f rfl ?_);clear hq)|((with_reducible refine wJ (fun hq=>?_) (fun hq=>?_)) <;> (rw [hq];(with_reducible first|refine FCond.t rfl ?_|refine FCond.f rfl ?_);(try simp only [zA,zE,zD,zJ,zB,zI,wK,wL] at hq)))|(with_reducible first|refine wA ?_|refine wB ?_|refine wC ?_|refine wD ?_|refine wE ?_)|((with_reducible refine wN ?_ ?_);focus exact needA)|(with_reducible refine wG ?_)|(refine FCall.pure (hcv) ⟨Ln.sameB _ rfl,True.intro⟩ rfl ?_)|(with_reducible refine wP ?_)))
   all_goals (try conv=>whnf)
   ((refine FCall.give [] [] (cC) rfl rfl True.intro ⟨Ln.A,True.intro⟩ ?_);rintro _ _ ⟨rfl,rfl⟩;(refine ⟨by first|exact Nat.le_of_ble_eq_true rfl|omega,.inl rfl,?_⟩))
   (repeat' ((try conv=>whnf);first|(with_reducible first|refine FCond.t rfl ?_|refine FCond.f rfl ?_)|((with_reducible refine FCond.uT (fun hq=>?_));rw [hq];(with_reducible refine FCond.t rfl ?_);clear hq)|((with_reducible refine FCond.uF (fun hq=>?_));rw [hq];(with_reducible refine FCond.f rfl ?_);clear hq)|((with_reducible refine wJ (fun hq=>?_) (fun hq=>?_)) <;> (rw [hq];(with_reducible first|refine FCond.t rfl ?_|refine FCond.f rfl ?_);(try simp only [zA,zE,zD,zJ,zB,zI,wK,wL] at hq)))|(with_reducible first|refine wA ?_|refine wB ?_|refine wC ?_|refine wD ?_|refine wE ?_)|((with_reducible refine wN ?_ ?_);focus exact needA)|(with_reducible refine wG ?_)|(with_reducible refine wP ?_)))
   all_goals (try conv=>whnf)
   refine FWk.of [(2,.ptr 0 0),(3,.ptr 1 0),(5,.ptr 2 0)] [.box 4 (cPool f p),.box 12 (cEz xP xT xS xPay xSl xTo xN xI xM m),.box 4 (ofL [.own 3 p.folk.length,.own 4 p.needs.length,AI p.ill,AI p.most]),rowFo p.folk.length p.folk,.rwg p.needs.length 1 (gN p.needs xSl.toNat (.own 5 (p.needs.getD xSl.toNat []).length)),.row (p.needs.getD xSl.toNat []).length 1 (fun k _=>AI ((p.needs.getD xSl.toNat []).getD k 0))] [0,1,5,2,3,4] (wO rfl rfl rfl (wV rfl (LnB.A) (wV rfl (LnB.A) (wV rfl (LnB.boxN ⟨⟨⟨⟨True.intro,Ln.ownE rfl rfl⟩,Ln.ownE rfl rfl⟩,Ln.A⟩,Ln.A⟩) (wV rfl (LnB.A) (wV rfl (gN_ren (Ln.ownE rfl rfl)) (wV rfl (LnB.A) wX))))))) ⟨Ln.ptr _ _ _ rfl,Ln.ptr _ _ _ rfl,Ln.ptr _ _ _ rfl,True.intro⟩ ?_
   apply cutG
   ·intro rest2
    by_cases hq:0 ≤ xP ∧ xP < p.folk.length
    ·have hqn:xP.toNat < p.folk.length:=by omega
     have hgq:g.q = some xP.toNat:=by rw [hgE.h];exact if_pos hq
     have hfo:=h.folk xP.toNat hqn
     (repeat' ((try conv=>whnf);first|(with_reducible first|refine FCond.t rfl ?_|refine FCond.f rfl ?_)|((with_reducible refine FCond.uT (fun hq=>?_));rw [hq];(with_reducible refine FCond.t rfl ?_);clear hq)|((with_reducible refine FCond.uF (fun hq=>?_));rw [hq];(with_reducible refine FCond.f rfl ?_);clear hq)|((with_reducible refine wJ (fun hq=>?_) (fun hq=>?_)) <;> (rw [hq];(with_reducible first|refine FCond.t rfl ?_|refine FCond.f rfl ?_);(try simp only [zA,zE,zD,zJ,zB,zI,wK,wL] at hq)))|(with_reducible first|refine wA ?_|refine wB ?_|refine wC ?_|refine wD ?_|refine wE ?_)|((with_reducible refine wN ?_ ?_);focus exact needA)|(with_reducible refine wG ?_)|(refine FBit.shl1 (j:=p.nT) rfl (by omega) ?_)|(refine FBit.shl1 (j:=p.needs.length) rfl (by omega) ?_)|(with_reducible refine Fits.inU (by omega) ?_)|(refine FBit.andI (a:=xT.toNat) (b:=2 ^ p.nT - 1) rfl (by omega) (by omega) (by omega) (by omega) ?_)|(refine FBit.andI (a:=xS.toNat) (b:=2 ^ p.needs.length - 1) rfl (by omega) (by omega) (by omega) (by omega) ?_)|(refine FBit.orI (a:=(p.folk.getD xP.toNat fo0).tongues.toNat) rfl (by omega) rfl (by omega) (by omega) ?_)|(refine FBit.orI (a:=(p.folk.getD xP.toNat fo0).slots.toNat) rfl (by omega) rfl (by omega) (by omega) ?_)|(refine FCall.pure (cTg) ⟨Ln.sameB _ rfl,True.intro⟩ rfl ?_)|(with_reducible refine wP ?_)))
     all_goals (try conv=>whnf)
     exact FWk.of [(2,.ptr 0 0),(3,.ptr 1 0),(5,.ptr 2 0)] [.box 4 (cPool f p),.box 12 (cEz xP xT xS xPay xSl xTo xN xI xM m),.box 4 (ofL [.own 3 p.folk.length,.own 4 p.needs.length,AI p.ill,AI p.most]),rowFo p.folk.length (folkG p.folk g),.rwg p.needs.length 1 (gN p.needs xSl.toNat (.own 5 (p.needs.getD xSl.toNat []).length)),.row (p.needs.getD xSl.toNat []).length 1 (fun k _=>AI ((p.needs.getD xSl.toNat []).getD k 0))] [0,1,2,3,4,5] (wO rfl rfl rfl (wV rfl (LnB.A) (wV rfl (LnB.A) (wV rfl (LnB.A) (wV rfl (LnB.rowE (Nat.le_refl _) fun k hk o ho=>fk_cell hgq hqn hk (off3 (by rw [hgE.h];rfl) (by rw [hgE.h];rfl) (by rw [hgE.h];rfl)) ho) (wV rfl (gN_ref (Ln.ownE rfl rfl)) (wV rfl (LnB.A) wX))))))) ⟨Ln.ptr _ _ _ rfl,Ln.ptr _ _ _ rfl,Ln.ptr _ _ _ rfl,True.intro⟩ rest2.h
    ·have hgq:g.q = none:=by rw [hgE.h];exact if_neg hq
     have hfl:folkG p.folk g = p.folk:=by unfold folkG;rw [hgq]
     by_cases hq0:0 ≤ xP
     ·have hq1:¬ xP < p.folk.length:=fun h=>hq ⟨hq0,h⟩
      (repeat' ((try conv=>whnf);first|(with_reducible first|refine FCond.t rfl ?_|refine FCond.f rfl ?_)|((with_reducible refine FCond.uT (fun hq=>?_));rw [hq];(with_reducible refine FCond.t rfl ?_);clear hq)|((with_reducible refine FCond.uF (fun hq=>?_));rw [hq];(with_reducible refine FCond.f rfl ?_);clear hq)|((with_reducible refine wJ (fun hq=>?_) (fun hq=>?_)) <;> (rw [hq];(with_reducible first|refine FCond.t rfl ?_|refine FCond.f rfl ?_);(try simp only [zA,zE,zD,zJ,zB,zI,wK,wL] at hq)))|(with_reducible first|refine wA ?_|refine wB ?_|refine wC ?_|refine wD ?_|refine wE ?_)|((with_reducible refine wN ?_ ?_);focus exact needA)|(with_reducible refine wG ?_)|(with_reducible refine wP ?_)))
      all_goals (try conv=>whnf)
      exact FWk.of [(2,.ptr 0 0),(3,.ptr 1 0),(5,.ptr 2 0)] [.box 4 (cPool f p),.box 12 (cEz xP xT xS xPay xSl xTo xN xI xM m),.box 4 (ofL [.own 3 p.folk.length,.own 4 p.needs.length,AI p.ill,AI p.most]),rowFo p.folk.length (folkG p.folk g),.rwg p.needs.length 1 (gN p.needs xSl.toNat (.own 5 (p.needs.getD xSl.toNat []).length)),.row (p.needs.getD xSl.toNat []).length 1 (fun k _=>AI ((p.needs.getD xSl.toNat []).getD k 0))] [0,1,2,3,4,5] (wO rfl rfl rfl (wV rfl (LnB.A) (wV rfl (LnB.A) (wV rfl (LnB.A) (wV rfl ((by rw [hfl];exact LnB.A)) (wV rfl (gN_ref (Ln.ownE rfl rfl)) (wV rfl (LnB.A) wX))))))) ⟨Ln.ptr _ _ _ rfl,Ln.ptr _ _ _ rfl,Ln.ptr _ _ _ rfl,True.intro⟩ rest2.h
     ·(repeat' ((try conv=>whnf);first|(with_reducible first|refine FCond.t rfl ?_|refine FCond.f rfl ?_)|((with_reducible refine FCond.uT (fun hq=>?_));rw [hq];(with_reducible refine FCond.t rfl ?_);clear hq)|((with_reducible refine FCond.uF (fun hq=>?_));rw [hq];(with_reducible refine FCond.f rfl ?_);clear hq)|((with_reducible refine wJ (fun hq=>?_) (fun hq=>?_)) <;> (rw [hq];(with_reducible first|refine FCond.t rfl ?_|refine FCond.f rfl ?_);(try simp only [zA,zE,zD,zJ,zB,zI,wK,wL] at hq)))|(with_reducible first|refine wA ?_|refine wB ?_|refine wC ?_|refine wD ?_|refine wE ?_)|((with_reducible refine wN ?_ ?_);focus exact needA)|(with_reducible refine wG ?_)|(with_reducible refine wP ?_)))
      all_goals (try conv=>whnf)
      exact FWk.of [(2,.ptr 0 0),(3,.ptr 1 0),(5,.ptr 2 0)] [.box 4 (cPool f p),.box 12 (cEz xP xT xS xPay xSl xTo xN xI xM m),.box 4 (ofL [.own 3 p.folk.length,.own 4 p.needs.length,AI p.ill,AI p.most]),rowFo p.folk.length (folkG p.folk g),.rwg p.needs.length 1 (gN p.needs xSl.toNat (.own 5 (p.needs.getD xSl.toNat []).length)),.row (p.needs.getD xSl.toNat []).length 1 (fun k _=>AI ((p.needs.getD xSl.toNat []).getD k 0))] [0,1,2,3,4,5] (wO rfl rfl rfl (wV rfl (LnB.A) (wV rfl (LnB.A) (wV rfl (LnB.A) (wV rfl ((by rw [hfl];exact LnB.A)) (wV rfl (gN_ref (Ln.ownE rfl rfl)) (wV rfl (LnB.A) wX))))))) ⟨Ln.ptr _ _ _ rfl,Ln.ptr _ _ _ rfl,Ln.ptr _ _ _ rfl,True.intro⟩ rest2.h
   obtain ⟨⟨a1,a2⟩,a3,a4⟩:=hat
   have hsl:xSl.toNat < p.needs.length:=by omega
   have hto:xTo.toNat < (p.needs.getD xSl.toNat []).length:=by have:=(h.row xSl.toNat hsl).1;unfold Pool.row at this;omega
   have hrw:=(h.row xSl.toNat hsl).2 xTo.toNat (by omega)
   unfold Pool.row at hrw
   (repeat' ((try conv=>whnf);first|(with_reducible first|refine FCond.t rfl ?_|refine FCond.f rfl ?_)|((with_reducible refine FCond.uT (fun hq=>?_));rw [hq];(with_reducible refine FCond.t rfl ?_);clear hq)|((with_reducible refine FCond.uF (fun hq=>?_));rw [hq];(with_reducible refine FCond.f rfl ?_);clear hq)|((with_reducible refine wJ (fun hq=>?_) (fun hq=>?_)) <;> (rw [hq];(with_reducible first|refine FCond.t rfl ?_|refine FCond.f rfl ?_);(try simp only [zA,zE,zD,zJ,zB,zI,wK,wL] at hq)))|(with_reducible first|refine wA ?_|refine wB ?_|refine wC ?_|refine wD ?_|refine wE ?_)|((with_reducible refine wN ?_ ?_);focus exact needA)|(with_reducible refine wG ?_)|(refine FCall.pure (cTg) ⟨Ln.sameB _ rfl,True.intro⟩ rfl ?_)|(rw [gN_at])|(with_reducible refine wP ?_)))
   all_goals (try conv=>whnf)
   exact FWk.of [(2,.ptr 0 0),(3,.ptr 1 0),(5,.ptr 2 0)] [.box 4 (cPool f p),.box 12 (cEz xP xT xS xPay xSl xTo xN xI xM m),.box 4 (ofL [.own 3 p.folk.length,(aRows false false (fun _=>false) (fun _=>false) (needG p.needs g)),AI p.ill,AI p.most]),rowFo p.folk.length (folkG p.folk g)] [0,1,2,3] (wO rfl rfl rfl (wV rfl (LnB.A) (wV rfl (LnB.A) (wV rfl (LnB.boxN ⟨⟨⟨⟨True.intro,Ln.ownE rfl rfl⟩,pubN (goneB rfl) rfl (need_off hga) (by rw [need_at hga hsl];exact Ln.pubE (goneB rfl) rfl (Nat.le_refl _) (by rw [List.length_set]) (fun k hk o ho=>need_cell hto (by rw [hgE.h]) ho))⟩,Ln.A⟩,Ln.A⟩) (wV rfl (LnB.A) wX))))) ⟨Ln.ptr _ _ _ rfl,Ln.ptr _ _ _ rfl,Ln.ptr _ _ _ rfl,True.intro⟩ rest.h
  ·have cC:=copy_f f p.folk p.needs p.ill p.most (by omega) (by omega) (by omega) (by omega) hrow
   have hga:g.at' = none:=by rw [hgE.h];exact if_neg hat
   (repeat' ((try conv=>whnf);first|(with_reducible first|refine FCond.t rfl ?_|refine FCond.f rfl ?_)|((with_reducible refine FCond.uT (fun hq=>?_));rw [hq];(with_reducible refine FCond.t rfl ?_);clear hq)|((with_reducible refine FCond.uF (fun hq=>?_));rw [hq];(with_reducible refine FCond.f rfl ?_);clear hq)|((with_reducible refine wJ (fun hq=>?_) (fun hq=>?_)) <;> (rw [hq];(with_reducible first|refine FCond.t rfl ?_|refine FCond.f rfl ?_);(try simp only [zA,zE,zD,zJ,zB,zI,wK,wL] at hq)))|(with_reducible first|refine wA ?_|refine wB ?_|refine wC ?_|refine wD ?_|refine wE ?_)|((with_reducible refine wN ?_ ?_);focus exact needA)|(with_reducible refine wG ?_)|(refine FCall.pure (hcv) ⟨Ln.sameB _ rfl,True.intro⟩ rfl ?_)|(with_reducible refine wP ?_)))
   all_goals (try conv=>whnf)
   ((refine FCall.give [] [] (cC) rfl rfl True.intro ⟨Ln.A,True.intro⟩ ?_);rintro _ _ ⟨rfl,rfl⟩;(refine ⟨by first|exact Nat.le_of_ble_eq_true rfl|omega,.inl rfl,?_⟩))
   (repeat' ((try conv=>whnf);first|(with_reducible first|refine FCond.t rfl ?_|refine FCond.f rfl ?_)|((with_reducible refine FCond.uT (fun hq=>?_));rw [hq];(with_reducible refine FCond.t rfl ?_);clear hq)|((with_reducible refine FCond.uF (fun hq=>?_));rw [hq];(with_reducible refine FCond.f rfl ?_);clear hq)|((with_reducible refine wJ (fun hq=>?_) (fun hq=>?_)) <;> (rw [hq];(with_reducible first|refine FCond.t rfl ?_|refine FCond.f rfl ?_);(try simp only [zA,zE,zD,zJ,zB,zI,wK,wL] at hq)))|(with_reducible first|refine wA ?_|refine wB ?_|refine wC ?_|refine wD ?_|refine wE ?_)|((with_reducible refine wN ?_ ?_);focus exact needA)|(with_reducible refine wG ?_)|(with_reducible refine wP ?_)))
   all_goals (try conv=>whnf)
   refine FWk.of [(2,.ptr 0 0),(3,.ptr 1 0),(5,.ptr 2 0)] [.box 4 (cPool f p),.box 12 (cEz xP xT xS xPay xSl xTo xN xI xM m),.box 4 (ofL [.own 3 p.folk.length,(.sl false false p.needs.length 1 (fun k _=>cpRow (p.needs.getD k []))),AI p.ill,AI p.most]),rowFo p.folk.length p.folk] [0,1,3,2] (wO rfl rfl rfl (wV rfl (LnB.A) (wV rfl (LnB.A) (wV rfl (LnB.boxN ⟨⟨⟨⟨True.intro,Ln.ownE rfl rfl⟩,Ln.A⟩,Ln.A⟩,Ln.A⟩) (wV rfl (LnB.A) wX))))) ⟨Ln.ptr _ _ _ rfl,Ln.ptr _ _ _ rfl,Ln.ptr _ _ _ rfl,True.intro⟩ ?_
   apply cutG
   ·intro rest2
    by_cases hq:0 ≤ xP ∧ xP < p.folk.length
    ·have hqn:xP.toNat < p.folk.length:=by omega
     have hgq:g.q = some xP.toNat:=by rw [hgE.h];exact if_pos hq
     have hfo:=h.folk xP.toNat hqn
     (repeat' ((try conv=>whnf);first|(with_reducible first|refine FCond.t rfl ?_|refine FCond.f rfl ?_)|((with_reducible refine FCond.uT (fun hq=>?_));rw [hq];(with_reducible refine FCond.t rfl ?_);clear hq)|((with_reducible refine FCond.uF (fun hq=>?_));rw [hq];(with_reducible refine FCond.f rfl ?_);clear hq)|((with_reducible refine wJ (fun hq=>?_) (fun hq=>?_)) <;> (rw [hq];(with_reducible first|refine FCond.t rfl ?_|refine FCond.f rfl ?_);(try simp only [zA,zE,zD,zJ,zB,zI,wK,wL] at hq)))|(with_reducible first|refine wA ?_|refine wB ?_|refine wC ?_|refine wD ?_|refine wE ?_)|((with_reducible refine wN ?_ ?_);focus exact needA)|(with_reducible refine wG ?_)|(refine FBit.shl1 (j:=p.nT) rfl (by omega) ?_)|(refine FBit.shl1 (j:=p.needs.length) rfl (by omega) ?_)|(with_reducible refine Fits.inU (by omega) ?_)|(refine FBit.andI (a:=xT.toNat) (b:=2 ^ p.nT - 1) rfl (by omega) (by omega) (by omega) (by omega) ?_)|(refine FBit.andI (a:=xS.toNat) (b:=2 ^ p.needs.length - 1) rfl (by omega) (by omega) (by omega) (by omega) ?_)|(refine FBit.orI (a:=(p.folk.getD xP.toNat fo0).tongues.toNat) rfl (by omega) rfl (by omega) (by omega) ?_)|(refine FBit.orI (a:=(p.folk.getD xP.toNat fo0).slots.toNat) rfl (by omega) rfl (by omega) (by omega) ?_)|(refine FCall.pure (cTg) ⟨Ln.sameB _ rfl,True.intro⟩ rfl ?_)|(with_reducible refine wP ?_)))
     all_goals (try conv=>whnf)
     exact FWk.of [(2,.ptr 0 0),(3,.ptr 1 0),(5,.ptr 2 0)] [.box 4 (cPool f p),.box 12 (cEz xP xT xS xPay xSl xTo xN xI xM m),.box 4 (ofL [.own 3 p.folk.length,(.sl false false p.needs.length 1 (fun k _=>cpRow (p.needs.getD k []))),AI p.ill,AI p.most]),rowFo p.folk.length (folkG p.folk g)] [0,1,2,3] (wO rfl rfl rfl (wV rfl (LnB.A) (wV rfl (LnB.A) (wV rfl (LnB.A) (wV rfl (LnB.rowE (Nat.le_refl _) fun k hk o ho=>fk_cell hgq hqn hk (off3 (by rw [hgE.h];rfl) (by rw [hgE.h];rfl) (by rw [hgE.h];rfl)) ho) wX))))) ⟨Ln.ptr _ _ _ rfl,Ln.ptr _ _ _ rfl,Ln.ptr _ _ _ rfl,True.intro⟩ rest2.h
    ·have hgq:g.q = none:=by rw [hgE.h];exact if_neg hq
     have hfl:folkG p.folk g = p.folk:=by unfold folkG;rw [hgq]
     by_cases hq0:0 ≤ xP
     ·have hq1:¬ xP < p.folk.length:=fun h=>hq ⟨hq0,h⟩
      (repeat' ((try conv=>whnf);first|(with_reducible first|refine FCond.t rfl ?_|refine FCond.f rfl ?_)|((with_reducible refine FCond.uT (fun hq=>?_));rw [hq];(with_reducible refine FCond.t rfl ?_);clear hq)|((with_reducible refine FCond.uF (fun hq=>?_));rw [hq];(with_reducible refine FCond.f rfl ?_);clear hq)|((with_reducible refine wJ (fun hq=>?_) (fun hq=>?_)) <;> (rw [hq];(with_reducible first|refine FCond.t rfl ?_|refine FCond.f rfl ?_);(try simp only [zA,zE,zD,zJ,zB,zI,wK,wL] at hq)))|(with_reducible first|refine wA ?_|refine wB ?_|refine wC ?_|refine wD ?_|refine wE ?_)|((with_reducible refine wN ?_ ?_);focus exact needA)|(with_reducible refine wG ?_)|(with_reducible refine wP ?_)))
      all_goals (try conv=>whnf)
      exact FWk.of [(2,.ptr 0 0),(3,.ptr 1 0),(5,.ptr 2 0)] [.box 4 (cPool f p),.box 12 (cEz xP xT xS xPay xSl xTo xN xI xM m),.box 4 (ofL [.own 3 p.folk.length,(.sl false false p.needs.length 1 (fun k _=>cpRow (p.needs.getD k []))),AI p.ill,AI p.most]),rowFo p.folk.length (folkG p.folk g)] [0,1,2,3] (wO rfl rfl rfl (wV rfl (LnB.A) (wV rfl (LnB.A) (wV rfl (LnB.A) (wV rfl ((by rw [hfl];exact LnB.A)) wX))))) ⟨Ln.ptr _ _ _ rfl,Ln.ptr _ _ _ rfl,Ln.ptr _ _ _ rfl,True.intro⟩ rest2.h
     ·(repeat' ((try conv=>whnf);first|(with_reducible first|refine FCond.t rfl ?_|refine FCond.f rfl ?_)|((with_reducible refine FCond.uT (fun hq=>?_));rw [hq];(with_reducible refine FCond.t rfl ?_);clear hq)|((with_reducible refine FCond.uF (fun hq=>?_));rw [hq];(with_reducible refine FCond.f rfl ?_);clear hq)|((with_reducible refine wJ (fun hq=>?_) (fun hq=>?_)) <;> (rw [hq];(with_reducible first|refine FCond.t rfl ?_|refine FCond.f rfl ?_);(try simp only [zA,zE,zD,zJ,zB,zI,wK,wL] at hq)))|(with_reducible first|refine wA ?_|refine wB ?_|refine wC ?_|refine wD ?_|refine wE ?_)|((with_reducible refine wN ?_ ?_);focus exact needA)|(with_reducible refine wG ?_)|(with_reducible refine wP ?_)))
      all_goals (try conv=>whnf)
      exact FWk.of [(2,.ptr 0 0),(3,.ptr 1 0),(5,.ptr 2 0)] [.box 4 (cPool f p),.box 12 (cEz xP xT xS xPay xSl xTo xN xI xM m),.box 4 (ofL [.own 3 p.folk.length,(.sl false false p.needs.length 1 (fun k _=>cpRow (p.needs.getD k []))),AI p.ill,AI p.most]),rowFo p.folk.length (folkG p.folk g)] [0,1,2,3] (wO rfl rfl rfl (wV rfl (LnB.A) (wV rfl (LnB.A) (wV rfl (LnB.A) (wV rfl ((by rw [hfl];exact LnB.A)) wX))))) ⟨Ln.ptr _ _ _ rfl,Ln.ptr _ _ _ rfl,Ln.ptr _ _ _ rfl,True.intro⟩ rest2.h
   by_cases a1:0 ≤ xSl
   case neg =>
    (repeat' ((try conv=>whnf);first|(with_reducible first|refine FCond.t rfl ?_|refine FCond.f rfl ?_)|((with_reducible refine FCond.uT (fun hq=>?_));rw [hq];(with_reducible refine FCond.t rfl ?_);clear hq)|((with_reducible refine FCond.uF (fun hq=>?_));rw [hq];(with_reducible refine FCond.f rfl ?_);clear hq)|((with_reducible refine wJ (fun hq=>?_) (fun hq=>?_)) <;> (rw [hq];(with_reducible first|refine FCond.t rfl ?_|refine FCond.f rfl ?_);(try simp only [zA,zE,zD,zJ,zB,zI,wK,wL] at hq)))|(with_reducible first|refine wA ?_|refine wB ?_|refine wC ?_|refine wD ?_|refine wE ?_)|((with_reducible refine wN ?_ ?_);focus exact needA)|(with_reducible refine wG ?_)|(refine FCall.pure (cTg) ⟨Ln.sameB _ rfl,True.intro⟩ rfl ?_)|(with_reducible refine wP ?_)))
    all_goals (try conv=>whnf)
    exact FWk.of [(2,.ptr 0 0),(3,.ptr 1 0),(5,.ptr 2 0)] [.box 4 (cPool f p),.box 12 (cEz xP xT xS xPay xSl xTo xN xI xM m),.box 4 (ofL [.own 3 p.folk.length,(aRows false false (fun _=>false) (fun _=>false) (needG p.needs g)),AI p.ill,AI p.most]),rowFo p.folk.length (folkG p.folk g)] [0,1,2,3] (wO rfl rfl rfl (wV rfl (LnB.A) (wV rfl (LnB.A) (wV rfl (LnB.boxN ⟨⟨⟨⟨True.intro,Ln.ownE rfl rfl⟩,need_same hga⟩,Ln.A⟩,Ln.A⟩) (wV rfl (LnB.A) wX))))) ⟨Ln.ptr _ _ _ rfl,Ln.ptr _ _ _ rfl,Ln.ptr _ _ _ rfl,True.intro⟩ rest.h
   by_cases a2:xSl < p.needs.length
   case neg =>
    (repeat' ((try conv=>whnf);first|(with_reducible first|refine FCond.t rfl ?_|refine FCond.f rfl ?_)|((with_reducible refine FCond.uT (fun hq=>?_));rw [hq];(with_reducible refine FCond.t rfl ?_);clear hq)|((with_reducible refine FCond.uF (fun hq=>?_));rw [hq];(with_reducible refine FCond.f rfl ?_);clear hq)|((with_reducible refine wJ (fun hq=>?_) (fun hq=>?_)) <;> (rw [hq];(with_reducible first|refine FCond.t rfl ?_|refine FCond.f rfl ?_);(try simp only [zA,zE,zD,zJ,zB,zI,wK,wL] at hq)))|(with_reducible first|refine wA ?_|refine wB ?_|refine wC ?_|refine wD ?_|refine wE ?_)|((with_reducible refine wN ?_ ?_);focus exact needA)|(with_reducible refine wG ?_)|(refine FCall.pure (cTg) ⟨Ln.sameB _ rfl,True.intro⟩ rfl ?_)|(with_reducible refine wP ?_)))
    all_goals (try conv=>whnf)
    exact FWk.of [(2,.ptr 0 0),(3,.ptr 1 0),(5,.ptr 2 0)] [.box 4 (cPool f p),.box 12 (cEz xP xT xS xPay xSl xTo xN xI xM m),.box 4 (ofL [.own 3 p.folk.length,(aRows false false (fun _=>false) (fun _=>false) (needG p.needs g)),AI p.ill,AI p.most]),rowFo p.folk.length (folkG p.folk g)] [0,1,2,3] (wO rfl rfl rfl (wV rfl (LnB.A) (wV rfl (LnB.A) (wV rfl (LnB.boxN ⟨⟨⟨⟨True.intro,Ln.ownE rfl rfl⟩,need_same hga⟩,Ln.A⟩,Ln.A⟩) (wV rfl (LnB.A) wX))))) ⟨Ln.ptr _ _ _ rfl,Ln.ptr _ _ _ rfl,Ln.ptr _ _ _ rfl,True.intro⟩ rest.h
   by_cases a3:0 ≤ xTo
   case neg =>
    (repeat' ((try conv=>whnf);first|(with_reducible first|refine FCond.t rfl ?_|refine FCond.f rfl ?_)|((with_reducible refine FCond.uT (fun hq=>?_));rw [hq];(with_reducible refine FCond.t rfl ?_);clear hq)|((with_reducible refine FCond.uF (fun hq=>?_));rw [hq];(with_reducible refine FCond.f rfl ?_);clear hq)|((with_reducible refine wJ (fun hq=>?_) (fun hq=>?_)) <;> (rw [hq];(with_reducible first|refine FCond.t rfl ?_|refine FCond.f rfl ?_);(try simp only [zA,zE,zD,zJ,zB,zI,wK,wL] at hq)))|(with_reducible first|refine wA ?_|refine wB ?_|refine wC ?_|refine wD ?_|refine wE ?_)|((with_reducible refine wN ?_ ?_);focus exact needA)|(with_reducible refine wG ?_)|(refine FCall.pure (cTg) ⟨Ln.sameB _ rfl,True.intro⟩ rfl ?_)|(with_reducible refine wP ?_)))
    all_goals (try conv=>whnf)
    exact FWk.of [(2,.ptr 0 0),(3,.ptr 1 0),(5,.ptr 2 0)] [.box 4 (cPool f p),.box 12 (cEz xP xT xS xPay xSl xTo xN xI xM m),.box 4 (ofL [.own 3 p.folk.length,(aRows false false (fun _=>false) (fun _=>false) (needG p.needs g)),AI p.ill,AI p.most]),rowFo p.folk.length (folkG p.folk g)] [0,1,2,3] (wO rfl rfl rfl (wV rfl (LnB.A) (wV rfl (LnB.A) (wV rfl (LnB.boxN ⟨⟨⟨⟨True.intro,Ln.ownE rfl rfl⟩,need_same hga⟩,Ln.A⟩,Ln.A⟩) (wV rfl (LnB.A) wX))))) ⟨Ln.ptr _ _ _ rfl,Ln.ptr _ _ _ rfl,Ln.ptr _ _ _ rfl,True.intro⟩ rest.h
   have a4:¬ xTo < p.nT:=fun h'=>hat ⟨⟨a1,a2⟩,a3,h'⟩
   (repeat' ((try conv=>whnf);first|(with_reducible first|refine FCond.t rfl ?_|refine FCond.f rfl ?_)|((with_reducible refine FCond.uT (fun hq=>?_));rw [hq];(with_reducible refine FCond.t rfl ?_);clear hq)|((with_reducible refine FCond.uF (fun hq=>?_));rw [hq];(with_reducible refine FCond.f rfl ?_);clear hq)|((with_reducible refine wJ (fun hq=>?_) (fun hq=>?_)) <;> (rw [hq];(with_reducible first|refine FCond.t rfl ?_|refine FCond.f rfl ?_);(try simp only [zA,zE,zD,zJ,zB,zI,wK,wL] at hq)))|(with_reducible first|refine wA ?_|refine wB ?_|refine wC ?_|refine wD ?_|refine wE ?_)|((with_reducible refine wN ?_ ?_);focus exact needA)|(with_reducible refine wG ?_)|(refine FCall.pure (cTg) ⟨Ln.sameB _ rfl,True.intro⟩ rfl ?_)|(with_reducible refine wP ?_)))
   all_goals (try conv=>whnf)
   exact FWk.of [(2,.ptr 0 0),(3,.ptr 1 0),(5,.ptr 2 0)] [.box 4 (cPool f p),.box 12 (cEz xP xT xS xPay xSl xTo xN xI xM m),.box 4 (ofL [.own 3 p.folk.length,(aRows false false (fun _=>false) (fun _=>false) (needG p.needs g)),AI p.ill,AI p.most]),rowFo p.folk.length (folkG p.folk g)] [0,1,2,3] (wO rfl rfl rfl (wV rfl (LnB.A) (wV rfl (LnB.A) (wV rfl (LnB.boxN ⟨⟨⟨⟨True.intro,Ln.ownE rfl rfl⟩,need_same hga⟩,Ln.A⟩,Ln.A⟩) (wV rfl (LnB.A) wX))))) ⟨Ln.ptr _ _ _ rfl,Ln.ptr _ _ _ rfl,Ln.ptr _ _ _ rfl,True.intro⟩ rest.h
 have hokG:(p.gain g).ok = true:=gain_okP hk g (by rw [hgE.h];exact hy1) (by rw [hgE.h];exact hy2) (by rw [hgE.h];exact k5) (by rw [hgE.h];exact k7) (by rw [hgE.h];exact k9) (by rw [hgE.h];exact k11)
 have heG:=gain_easierP h g (by rw [hgE.h];exact k5) (by rw [hgE.h];exact k7) (by rw [hgE.h];exact k9) (by rw [hgE.h];exact k11)
 have hG:=pool_d hokG
 have hnG:=near_gain hn g
 have hnP:NearP ((p.gain g).plus m):=⟨by show (folkG p.folk g ++ [m]).length ≤ 1000;rw [List.length_append,folkG_len];simp only [List.length_singleton];omega,hnG.n,hnG.r⟩
 have hfl:=folkG_len p.folk g
 have hgl:(p.gain g).folk.length = p.folk.length:=hfl
 have hpl:((p.gain g).plus m).folk.length = p.folk.length + 1:=by show (folkG p.folk g ++ [m]).length = _;rw [List.length_append,hfl];rfl
 (repeat' ((try conv=>whnf);first|(with_reducible first|refine FCond.t rfl ?_|refine FCond.f rfl ?_)|((with_reducible refine FCond.uT (fun hq=>?_));rw [hq];(with_reducible refine FCond.t rfl ?_);clear hq)|((with_reducible refine FCond.uF (fun hq=>?_));rw [hq];(with_reducible refine FCond.f rfl ?_);clear hq)|((with_reducible refine wJ (fun hq=>?_) (fun hq=>?_)) <;> (rw [hq];(with_reducible first|refine FCond.t rfl ?_|refine FCond.f rfl ?_);(try simp only [zA,zE,zD,zJ,zB,zI,wK,wL] at hq)))|(with_reducible first|refine wA ?_|refine wB ?_|refine wC ?_|refine wD ?_|refine wE ?_)|((with_reducible refine wN ?_ ?_);focus exact needA)|(with_reducible refine wG ?_)|(with_reducible refine wP ?_)))
 all_goals (try conv=>whnf)
 refine FWk.of [(2,.ptr 0 0),(5,.ptr 1 0)] [.box 4 (cPool f p),.box 4 (cPool flZ ((p.gain g).plus m))] [0,2] ?cu ⟨Ln.A,Ln.A,True.intro⟩ ?k
 case cu=>exact (wO rfl rfl rfl (wV rfl (LnB.A) (wV rfl (LnB.boxN ⟨⟨⟨⟨True.intro,Ln.pubE (goneB rfl) rfl (Nat.le_refl _) (by show p.folk.length + 1 = (folkG p.folk g ++ [m]).length;rw [List.length_append,hfl];rfl) (fun k hk o ho=>plusF_cells hk (off3 rfl rfl rfl) ho)⟩,Ln.A⟩,Ln.int (by show _ = max 0 (p.ill - g.ill);rw [hgE.h])⟩,Ln.int (by show _ = min 6 (p.most + g.most);rw [hgE.h])⟩) wX)))
 have cCk:=refCheck_ok flZ ((p.gain g).plus m) hnP
 have q1:=plan_ok f p hn
 cases hkP:((p.gain g).plus m).ok
 ·rw [check_100 hkP] at cCk
  (repeat' ((try conv=>whnf);first|(with_reducible first|refine FCond.t rfl ?_|refine FCond.f rfl ?_)|((with_reducible refine FCond.uT (fun hq=>?_));rw [hq];(with_reducible refine FCond.t rfl ?_);clear hq)|((with_reducible refine FCond.uF (fun hq=>?_));rw [hq];(with_reducible refine FCond.f rfl ?_);clear hq)|((with_reducible refine wJ (fun hq=>?_) (fun hq=>?_)) <;> (rw [hq];(with_reducible first|refine FCond.t rfl ?_|refine FCond.f rfl ?_);(try simp only [zA,zE,zD,zJ,zB,zI,wK,wL] at hq)))|(with_reducible first|refine wA ?_|refine wB ?_|refine wC ?_|refine wD ?_|refine wE ?_)|((with_reducible refine wN ?_ ?_);focus exact needA)|(with_reducible refine wG ?_)|(refine FCall.pure (cCk) ⟨Ln.sameB _ rfl,True.intro⟩ rfl ?_)|(with_reducible refine wP ?_)))
  all_goals (try conv=>whnf)
  refine FWk.of [(2,.ptr 0 0),(5,.ptr 1 0)] [.box 4 (cPool f p),.box 4 (cPool flZ (p.gain g))] [0,1] ?cu2 ⟨Ln.A,Ln.A,True.intro⟩ ?k2
  case cu2=>exact (wO rfl rfl rfl (wV rfl (LnB.A) (wV rfl (LnB.boxN ⟨⟨⟨⟨True.intro,foldBack (by omega)⟩,Ln.sameB _ rfl⟩,Ln.int rfl⟩,Ln.int rfl⟩) wX)))
  have q2:=plan_ok flZ (p.gain g) hnG
  rcases plan_le heG hk hokG with ⟨v,a,e1,v',b,e2,hab⟩|⟨e1,v',b,e,e2,he⟩
  ·rw [e1] at q1
   rw [e2] at q2
   (repeat' ((try conv=>whnf);first|(with_reducible first|refine FCond.t rfl ?_|refine FCond.f rfl ?_)|((with_reducible refine FCond.uT (fun hq=>?_));rw [hq];(with_reducible refine FCond.t rfl ?_);clear hq)|((with_reducible refine FCond.uF (fun hq=>?_));rw [hq];(with_reducible refine FCond.f rfl ?_);clear hq)|((with_reducible refine wJ (fun hq=>?_) (fun hq=>?_)) <;> (rw [hq];(with_reducible first|refine FCond.t rfl ?_|refine FCond.f rfl ?_);(try simp only [zA,zE,zD,zJ,zB,zI,wK,wL] at hq)))|(with_reducible first|refine wA ?_|refine wB ?_|refine wC ?_|refine wD ?_|refine wE ?_)|((with_reducible refine wN ?_ ?_);focus exact needA)|(with_reducible refine wG ?_)|(refine FCall.pure (q1) ⟨Ln.sameB _ rfl,True.intro⟩ rfl ?_)|(refine FCall.pure (q2) ⟨Ln.sameB _ rfl,True.intro⟩ rfl ?_)|(refine FCall.pure works_ok True.intro rfl ?_)|(with_reducible refine wP ?_)))
   all_goals (try conv=>whnf)
   all_goals ((refine ⟨⟨_,[],[],Cut.nil _,Ln.sameB _ rfl,?_,rfl⟩⟩);rfl)
  ·rw [e1] at q1
   rw [e2] at q2
   rcases he with rfl|rfl
   all_goals
    (repeat' ((try conv=>whnf);first|(with_reducible first|refine FCond.t rfl ?_|refine FCond.f rfl ?_)|((with_reducible refine FCond.uT (fun hq=>?_));rw [hq];(with_reducible refine FCond.t rfl ?_);clear hq)|((with_reducible refine FCond.uF (fun hq=>?_));rw [hq];(with_reducible refine FCond.f rfl ?_);clear hq)|((with_reducible refine wJ (fun hq=>?_) (fun hq=>?_)) <;> (rw [hq];(with_reducible first|refine FCond.t rfl ?_|refine FCond.f rfl ?_);(try simp only [zA,zE,zD,zJ,zB,zI,wK,wL] at hq)))|(with_reducible first|refine wA ?_|refine wB ?_|refine wC ?_|refine wD ?_|refine wE ?_)|((with_reducible refine wN ?_ ?_);focus exact needA)|(with_reducible refine wG ?_)|(refine FCall.pure (q1) ⟨Ln.sameB _ rfl,True.intro⟩ rfl ?_)|(refine FCall.pure (q2) ⟨Ln.sameB _ rfl,True.intro⟩ rfl ?_)|(refine FCall.pure works_ok True.intro rfl ?_)|(with_reducible refine wP ?_)))
    all_goals (try conv=>whnf)
    all_goals ((refine ⟨⟨_,[],[],Cut.nil _,Ln.sameB _ rfl,?_,rfl⟩⟩);rfl)
 ·rw [check_0.2 hkP] at cCk
  (repeat' ((try conv=>whnf);first|(with_reducible first|refine FCond.t rfl ?_|refine FCond.f rfl ?_)|((with_reducible refine FCond.uT (fun hq=>?_));rw [hq];(with_reducible refine FCond.t rfl ?_);clear hq)|((with_reducible refine FCond.uF (fun hq=>?_));rw [hq];(with_reducible refine FCond.f rfl ?_);clear hq)|((with_reducible refine wJ (fun hq=>?_) (fun hq=>?_)) <;> (rw [hq];(with_reducible first|refine FCond.t rfl ?_|refine FCond.f rfl ?_);(try simp only [zA,zE,zD,zJ,zB,zI,wK,wL] at hq)))|(with_reducible first|refine wA ?_|refine wB ?_|refine wC ?_|refine wD ?_|refine wE ?_)|((with_reducible refine wN ?_ ?_);focus exact needA)|(with_reducible refine wG ?_)|(refine FCall.pure (cCk) ⟨Ln.sameB _ rfl,True.intro⟩ rfl ?_)|(with_reducible refine wP ?_)))
  all_goals (try conv=>whnf)
  refine FWk.of [(2,.ptr 0 0),(5,.ptr 1 0)] [.box 4 (cPool f p),.box 4 (cPool flZ ((p.gain g).plus m))] [0,1] Cut.A ⟨Ln.A,Ln.A,True.intro⟩ ?_
  have q2:=plan_ok flZ ((p.gain g).plus m) hnP
  rcases plan_le (heG.trans (plus_easierP hG m)) hk hkP with ⟨v,a,e1,v',b,e2,hab⟩|⟨e1,v',b,e,e2,he⟩
  ·rw [e1] at q1
   rw [e2] at q2
   (repeat' ((try conv=>whnf);first|(with_reducible first|refine FCond.t rfl ?_|refine FCond.f rfl ?_)|((with_reducible refine FCond.uT (fun hq=>?_));rw [hq];(with_reducible refine FCond.t rfl ?_);clear hq)|((with_reducible refine FCond.uF (fun hq=>?_));rw [hq];(with_reducible refine FCond.f rfl ?_);clear hq)|((with_reducible refine wJ (fun hq=>?_) (fun hq=>?_)) <;> (rw [hq];(with_reducible first|refine FCond.t rfl ?_|refine FCond.f rfl ?_);(try simp only [zA,zE,zD,zJ,zB,zI,wK,wL] at hq)))|(with_reducible first|refine wA ?_|refine wB ?_|refine wC ?_|refine wD ?_|refine wE ?_)|((with_reducible refine wN ?_ ?_);focus exact needA)|(with_reducible refine wG ?_)|(refine FCall.pure (q1) ⟨Ln.sameB _ rfl,True.intro⟩ rfl ?_)|(refine FCall.pure (q2) ⟨Ln.sameB _ rfl,True.intro⟩ rfl ?_)|(refine FCall.pure works_ok True.intro rfl ?_)|(with_reducible refine wP ?_)))
   all_goals (try conv=>whnf)
   all_goals ((refine ⟨⟨_,[],[],Cut.nil _,Ln.sameB _ rfl,?_,rfl⟩⟩);rfl)
  ·rw [e1] at q1
   rw [e2] at q2
   rcases he with rfl|rfl
   all_goals
    (repeat' ((try conv=>whnf);first|(with_reducible first|refine FCond.t rfl ?_|refine FCond.f rfl ?_)|((with_reducible refine FCond.uT (fun hq=>?_));rw [hq];(with_reducible refine FCond.t rfl ?_);clear hq)|((with_reducible refine FCond.uF (fun hq=>?_));rw [hq];(with_reducible refine FCond.f rfl ?_);clear hq)|((with_reducible refine wJ (fun hq=>?_) (fun hq=>?_)) <;> (rw [hq];(with_reducible first|refine FCond.t rfl ?_|refine FCond.f rfl ?_);(try simp only [zA,zE,zD,zJ,zB,zI,wK,wL] at hq)))|(with_reducible first|refine wA ?_|refine wB ?_|refine wC ?_|refine wD ?_|refine wE ?_)|((with_reducible refine wN ?_ ?_);focus exact needA)|(with_reducible refine wG ?_)|(refine FCall.pure (q1) ⟨Ln.sameB _ rfl,True.intro⟩ rfl ?_)|(refine FCall.pure (q2) ⟨Ln.sameB _ rfl,True.intro⟩ rfl ?_)|(refine FCall.pure works_ok True.intro rfl ?_)|(with_reducible refine wP ?_)))
    all_goals (try conv=>whnf)
    all_goals ((refine ⟨⟨_,[],[],Cut.nil _,Ln.sameB _ rfl,?_,rfl⟩⟩);rfl)
end Go.Proofs.Ytbhjehpjjbbhbaa

namespace Go.Proofs.Ytbhjehpjjbbhbaa
open Go.RowKit Go.ChangeShapes Go.WideShapes Go.Deep

structure EaseP where
 p:Int
 t:Int
 s:Int
 pay:Int
 sl:Int
 to:Int
 n:Int
 i:Int
 mo:Int
 m:Folk
section
variable {H:Type} {enc:TypeId × Value → H} {w:World} {base:Nat} {held:Bool}
theorem csz12 : Try.prog.cellsOf 29 = 12 ∧ Try.prog.cellsOf 3 = 1 ∧ Try.prog.cellsOf 27 = 3:=by
 refine ⟨?_,?_,?_⟩ <;> kernel_rfl
theorem rt_ease {n:Nat} {cs:List Value} {y:DataW H × List MemPlace} (h:DataW.trod enc Try.prog w base (fun _=>true) held n 29 cs = some y):∃ x:EaseP,True ∧ CellsAre w cs 12 (cEz x.p x.t x.s x.pay x.sl x.to x.n x.i x.mo x.m):=by
 obtain ⟨hl,⟨_,_,h0⟩,⟨_,_,h1⟩,⟨_,_,h2⟩,⟨_,_,h3⟩,⟨_,_,h4⟩,⟨_,_,h5⟩,⟨_,_,h6⟩,⟨_,_,h7⟩,⟨_,_,h8⟩,⟨_,_,h9⟩,_⟩:=rdr_fields Try.underlying29 h
 simp only [csz12.2.1,csz12.2.2] at h0 h1 h2 h3 h4 h5 h6 h7 h8 h9
 obtain ⟨a0,_,c0⟩:=rt_int h0
 obtain ⟨a1,_,c1⟩:=rt_int h1
 obtain ⟨a2,_,c2⟩:=rt_int h2
 obtain ⟨a3,_,c3⟩:=rt_int h3
 obtain ⟨a4,_,c4⟩:=rt_int h4
 obtain ⟨a5,_,c5⟩:=rt_int h5
 obtain ⟨a6,_,c6⟩:=rt_int h6
 obtain ⟨a7,_,c7⟩:=rt_int h7
 obtain ⟨a8,_,c8⟩:=rt_int h8
 obtain ⟨a9,_,c9⟩:=rt_folk h9
 refine ⟨⟨a0,a1,a2,a3,a4,a5,a6,a7,a8,a9⟩,trivial,by rw [hl];exact csz12.1,fun o ho=>?_⟩
 rcases (show o = 0 ∨ o = 1 ∨ o = 2 ∨ o = 3 ∨ o = 4 ∨ o = 5 ∨ o = 6 ∨ o = 7 ∨ o = 8 ∨ o = 9 ∨ o = 10 ∨ o = 11 by omega) with rfl|rfl|rfl|rfl|rfl|rfl|rfl|rfl|rfl|rfl|rfl|rfl
 ·exact c0.sub (o:=0) (by omega)
 ·exact c1.sub (o:=0) (by omega)
 ·exact c2.sub (o:=0) (by omega)
 ·exact c3.sub (o:=0) (by omega)
 ·exact c4.sub (o:=0) (by omega)
 ·exact c5.sub (o:=0) (by omega)
 ·exact c6.sub (o:=0) (by omega)
 ·exact c7.sub (o:=0) (by omega)
 ·exact c8.sub (o:=0) (by omega)
 ·exact c9.sub (o:=0) (by omega)
 ·exact c9.sub (o:=1) (by omega)
 ·exact c9.sub (o:=2) (by omega)
end
end Go.Proofs.Ytbhjehpjjbbhbaa
