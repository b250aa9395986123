/- Teams: what is easier for a crew: a team that fits fits still, for the same fee. Plain law. / Teams: the reference's Copy, where one person's levels and ties stay own rows (printed by gen_teq.py). / Teams: with more people, fewer ties, more fields or a higher level there is a team still, for no more (TeamsEasier). -/
import Derived.Test.YtdipcdallenmkaaBt9
import Derived.Test.YtdipcdallenmkaaBt10
set_option linter.unusedSimpArgs false
set_option linter.unusedVariables false
namespace Go.Proofs.Ytdipcdallenmkaa

/-- A crew in which nothing is harder. -/
structure Easier (c c':Crew) (j:Job):Prop where
 la:c'.langs = c.langs
 lw:c'.laws = c.laws
 len:c.people.length ≤ c'.people.length
 may:∀ k,k < c.people.length → (c.people.getD k ps0).may j = true → (c'.people.getD k ps0).may j = true
 lev:∀ k a,k < c.people.length → (c.people.getD k ps0).levels.getD a 0 ≤ (c'.people.getD k ps0).levels.getD a 0
 deaf:∀ k,k < c.people.length → (c'.people.getD k ps0).deaf = (c.people.getD k ps0).deaf
 fee:∀ k,k < c.people.length → (c'.people.getD k ps0).fee = (c.people.getD k ps0).fee
theorem filter_more {u n:Nat} (h:u < 2 ^ n):∀ d,(List.range (n + d)).filter (fun i=>u.testBit i) = (List.range n).filter (fun i=>u.testBit i)
 | 0=>rfl
 | d + 1=>by
  have hb:u.testBit (n + d) = false:=Nat.testBit_lt_two_pow (Nat.lt_of_lt_of_le h (Nat.pow_le_pow_right (by decide) (Nat.le_add_right n d)))
  rw [← Nat.add_assoc,List.range_succ,List.filter_append,filter_more h d]
  simp [hb]
theorem Easier.memb {c c':Crew} {j:Job} (h:Easier c c' j) {u:Nat} (hu:u < 2 ^ c.people.length):memb c' u = memb c u:=by
 obtain ⟨d,hd⟩:∃ d,c'.people.length = c.people.length + d:=⟨c'.people.length - c.people.length,by have:=h.len;omega⟩
 show (List.range c'.people.length).filter (fun i=>u.testBit i) = _
 rw [hd,filter_more hu d];rfl
theorem Easier.feeT {c c':Crew} {j:Job} (h:Easier c c' j) {u:Nat} (hu:u < 2 ^ c.people.length):feeT c' u = feeT c u:=by
 show ((Go.Proofs.Ytdipcdallenmkaa.memb c' u).map fun i=>(c'.people.getD i ps0).fee).sum = _
 rw [h.memb hu]
 show _ = ((Go.Proofs.Ytdipcdallenmkaa.memb c u).map fun i=>(c.people.getD i ps0).fee).sum
 congr 1
 exact List.map_congr_left fun k hk=>h.fee k (mem_memb.1 hk).1
theorem any_mono {α:Type} {l:List α} {p q:α → Bool} (h:∀ x ∈ l,p x = true → q x = true) (hp:l.any p = true):l.any q = true:=by
 rw [List.any_eq_true] at hp ⊢
 obtain ⟨x,hx,hp⟩:=hp
 exact ⟨x,hx,h x hx hp⟩
theorem Easier.fits {c c':Crew} {j:Job} (h:Easier c c' j) {u:Nat} (hu:u < 2 ^ c.people.length) (hf:fitsT c j u = true):fitsT c' j u = true:=by
 rw [fits_b,broken_zero,solo_zero] at hf ⊢
 obtain ⟨h0,h1,h2,h3,h4⟩:=hf
 have hl:lawOf c' j = lawOf c j:=by unfold lawOf;rw [h.lw]
 have hm:=h.memb hu
 rw [hl,h.la]
 refine ⟨h0,fun k hk hb=>?_,h2,fun hd=>?_,?_⟩
 ·have hk:k < c.people.length:=by
   rcases Nat.lt_or_ge k c.people.length with h'|h'
   ·exact h'
   ·have:=Nat.testBit_lt_two_pow (Nat.lt_of_lt_of_le hu (Nat.pow_le_pow_right (by decide) h'))
    rw [this] at hb;cases hb
  exact h.may k hk (h1 k hk hb)
 ·have:=h3 hd
  unfold deafT at this ⊢
  rw [hm]
  exact any_mono (fun k hk hp=>by rw [h.deaf k (mem_memb.1 hk).1];exact hp) this
 ·refine (dist_mono (fun a b hab=>?_) h4).1
  unfold relT joinsT at hab ⊢
  rw [hm]
  refine any_mono (fun k hk hp=>?_) hab
  simp only [Bool.and_eq_true,decide_eq_true_eq] at hp ⊢
  have a1:=h.lev k a (mem_memb.1 hk).1
  have a2:=h.lev k b (mem_memb.1 hk).1
  omega
/-- There is a team if there was one, and it costs no more. -/
theorem Easier.best {c c':Crew} {j:Job} (h:Easier c c' j) (hb:(bestT c j).1 ≠ 0):(bestT c' j).1 ≠ 0 ∧ (bestT c' j).2 ≤ (bestT c j).2:=by
 rcases best_two c j with ⟨b1,_⟩|⟨b1,b2,b3,b4,_⟩
 ·exact absurd b1 hb
 have hf:=h.fits b2 b3
 have hlt:(bestT c j).1 < 2 ^ c'.people.length:=Nat.lt_of_lt_of_le b2 (Nat.pow_le_pow_right (by decide) h.len)
 rcases best_two c' j with ⟨_,d2⟩|⟨d1,_,_,d4,d5⟩
 ·rw [d2 _ b1 hlt] at hf;cases hf
 ·refine ⟨by omega,?_⟩
  have hfee:=h.feeT b2
  have:=d5 _ b1 hlt hf
  rw [hfee] at this
  rw [d4,b4]
  omega
theorem getD_in1 {l:List Int} {a:Nat} (h:a < l.length):l.getD a 0 = l[a]:=by simp [List.getD,List.getElem?_eq_getElem h]
theorem getD_out1 {l:List Int} {a:Nat} (h:l.length ≤ a):l.getD a 0 = 0:=by simp [List.getD,List.getElem?_eq_none h]
def Crew.plus (c:Crew) (x:Person):Crew:=⟨c.langs,c.people ++ [x],c.laws⟩
theorem plus_get {c:Crew} {x:Person} {k:Nat} (hk:k < c.people.length):(c.plus x).people.getD k ps0 = c.people.getD k ps0:=by
 unfold Crew.plus
 simp only [List.getD,List.getElem?_append_left hk]
theorem plus_easier (c:Crew) (x:Person) (j:Job):Easier c (c.plus x) j :=
 ⟨rfl,rfl,by unfold Crew.plus;simp,fun k hk h=>by rw [plus_get hk];exact h,fun k a hk=>by rw [plus_get hk];exact Int.le_refl _,fun k hk=>by rw [plus_get hk],fun k hk=>by rw [plus_get hk]⟩
/-- One person with one tie less, more fields and clearances, and a higher level. -/
def delT (l:List Int) (i:Nat):List Int:=l.take i ++ l.drop (i + 1)
structure Gain where
 lang:Option Nat
 up:Int
 tie:Option Nat
 fields:Nat
 clears:Nat
def Person.gain (p:Person) (g:Gain):Person :=
 ⟨match g.lang with|none=>p.levels|some a=>p.levels.set a (min 5 (p.levels.getD a 0 + g.up)),((p.fields.toNat ||| g.fields:Nat):Int),((p.clears.toNat ||| g.clears:Nat):Int),match g.tie with|none=>p.ties|some i=>delT p.ties i,p.deaf,p.fee⟩
def Crew.gain (c:Crew) (q:Nat) (g:Gain):Crew:=⟨c.langs,c.people.set q ((c.people.getD q ps0).gain g),c.laws⟩
theorem getD_set1 {l:List Person} {q k:Nat} {p:Person} (hq:q < l.length):(l.set q p).getD k ps0 = if k = q then p else l.getD k ps0:=by
 simp only [List.getD,List.getElem?_set,hq,if_true]
 by_cases h:q = k
 ·subst h;simp
 ·rw [if_neg h,if_neg (fun e=>h e.symm)]
theorem gain_get {c:Crew} {q k:Nat} {g:Gain} (hq:q < c.people.length):(c.gain q g).people.getD k ps0 = if k = q then (c.people.getD q ps0).gain g else c.people.getD k ps0:=getD_set1 hq
theorem delT_mem {l:List Int} {i:Nat} {x:Int} (h:x ∈ delT l i):x ∈ l:=by
 unfold delT at h
 rcases List.mem_append.1 h with h|h
 ·exact List.mem_of_mem_take h
 ·exact List.mem_of_mem_drop h
theorem delT_len {l:List Int} {i:Nat}:(delT l i).length ≤ l.length:=by
 unfold delT
 rw [List.length_append,List.length_take,List.length_drop];omega
theorem gain_ties {p:Person} {g:Gain} {x:Int} (h:x ∈ (p.gain g).ties):x ∈ p.ties:=by
 unfold Person.gain at h
 cases ht:g.tie with
 | none=>rw [ht] at h;exact h
 | some i=>rw [ht] at h;exact delT_mem h
theorem gain_lev {p:Person} {g:Gain} (hu:0 ≤ g.up) (h5:∀ x ∈ p.levels,x ≤ 5) (a:Nat):p.levels.getD a 0 ≤ (p.gain g).levels.getD a 0:=by
 unfold Person.gain
 cases hl:g.lang with
 | none=>exact Int.le_refl _
 | some b =>
  show _ ≤ (p.levels.set b (min 5 (p.levels.getD b 0 + g.up))).getD a 0
  by_cases h:b < p.levels.length
  ·simp only [List.getD,List.getElem?_set,h,if_true]
   by_cases e:b = a
   ·subst e
    have:=h5 p.levels[b] (List.getElem_mem h)
    simp only [List.getElem?_eq_getElem h,Option.getD_some,if_true]
    omega
   ·rw [if_neg e];exact Int.le_refl _
  ·rw [List.set_eq_of_length_le (by omega)];exact Int.le_refl _
theorem gain_may {p:Person} {j:Job} {g:Gain} (h:p.may j = true):(p.gain g).may j = true:=by
 unfold Person.may tiedT at h ⊢
 simp only [Bool.and_eq_true,Bool.not_eq_true',List.any_eq_false,decide_eq_true_eq] at h ⊢
 obtain ⟨⟨h1,h2⟩,h3⟩:=h
 refine ⟨⟨fun x hx=>h1 x (gain_ties hx),?_⟩,?_⟩
 ·show (((p.fields.toNat ||| g.fields:Nat):Int).toNat).testBit j.field.toNat = true
  rw [Int.toNat_natCast,Nat.testBit_or,h2];rfl
 ·show (((p.clears.toNat ||| g.clears:Nat):Int).toNat).testBit j.kind.toNat = true
  rw [Int.toNat_natCast,Nat.testBit_or,h3];rfl
theorem gain_easier {c:Crew} {q:Nat} {g:Gain} (hq:q < c.people.length) (hu:0 ≤ g.up) (hp:∀ x ∈ (c.people.getD q ps0).levels,x ≤ 5) (j:Job):Easier c (c.gain q g) j:=by
 have key:∀ k,(c.gain q g).people.getD k ps0 = if k = q then (c.people.getD q ps0).gain g else c.people.getD k ps0:=fun k=>gain_get hq
 refine ⟨rfl,rfl,by unfold Crew.gain;simp,fun k hk h=>?_,fun k a hk=>?_,fun k hk=>?_,fun k hk=>?_⟩
 all_goals
  rw [key]
  by_cases e:k = q
 ·subst e;rw [if_pos rfl];exact gain_may h
 ·rw [if_neg e];exact h
 ·subst e;rw [if_pos rfl];exact gain_lev hu hp a
 ·rw [if_neg e];exact Int.le_refl _
 ·subst e;rw [if_pos rfl];rfl
 ·rw [if_neg e]
 ·subst e;rw [if_pos rfl];rfl
 ·rw [if_neg e]
theorem gain_ok {c:Crew} {q:Nat} {g:Gain} (hc:c.ok = true) (hq:q < c.people.length) (hu:0 ≤ g.up) (hf:g.fields < 256) (hk:g.clears < 256):(c.gain q g).ok = true:=by
 obtain ⟨d1,d2,d3,d4,d5⟩:=crew_d hc
 have hp:=d4 q hq
 unfold Crew.ok at hc ⊢
 have hl:(c.gain q g).people.length = c.people.length:=by unfold Crew.gain;simp
 simp only [Bool.and_eq_true,hl] at hc ⊢
 obtain ⟨⟨⟨⟨a,b⟩,d⟩,e⟩,f⟩:=hc
 refine ⟨⟨⟨⟨a,b⟩,d⟩,?_⟩,f⟩
 rw [List.all_eq_true] at e ⊢
 intro p hpm
 rcases List.mem_or_eq_of_mem_set hpm with h|rfl
 ·exact e p h
 ·show Person.ok c.langs _ = true
  unfold Person.ok at hp ⊢
  simp only [Bool.and_eq_true,decide_eq_true_eq,List.all_eq_true,inB] at hp ⊢
  obtain ⟨⟨⟨⟨⟨⟨k1,k2⟩,k3⟩,k4⟩,k5⟩,k6⟩,k7⟩:=hp
  have b8:∀ {x:Int} {y:Nat},0 ≤ x ∧ x ≤ 255 → y < 256 → 0 ≤ ((x.toNat ||| y:Nat):Int) ∧ ((x.toNat ||| y:Nat):Int) ≤ 255:=fun {x y} hx hy=>by
   have:=Nat.or_lt_two_pow (n:=8) (show x.toNat < 2 ^ 8 by omega) (show y < 2 ^ 8 by omega)
   omega
  refine ⟨⟨⟨⟨⟨⟨?_,?_⟩,b8 k3 hf⟩,b8 k4 hk⟩,?_⟩,fun x hx=>k6 x (gain_ties hx)⟩,k7⟩
  ·unfold Person.gain
   cases g.lang with
   | none=>exact k1
   | some a=>show ((List.set _ _ _).length:Int) = _;rw [List.length_set];exact k1
  ·unfold Person.gain
   cases hlg:g.lang with
   | none=>exact k2
   | some a =>
    intro x hx
    rcases List.mem_or_eq_of_mem_set hx with h|rfl
    ·exact k2 x h
    ·have:0 ≤ (c.people.getD q ps0).levels.getD a 0:=by
      by_cases ha:a < (c.people.getD q ps0).levels.length
      ·rw [getD_in1 ha];exact (k2 _ (List.getElem_mem ha)).1
      ·rw [getD_out1 (show (c.people.getD q ps0).levels.length ≤ a by omega)];exact Int.le_refl _
     omega
  ·unfold Person.gain
   cases g.tie with
   | none=>exact k5
   | some i=>exact Nat.le_trans delT_len k5
end Go.Proofs.Ytdipcdallenmkaa

namespace Go.Proofs.Ytdipcdallenmkaa
open Go.RowKit

theorem FBit.and255 {x:Int} {K:Int → Prop} (h:∀ y:Nat,y < 256 → K (y:Int)):FBit .and .i64 x 255 K:=⟨by
 have e2:rawBit .and .i64 x 255 = IntKind.i64.wrap ((BitVec.ofInt 64 x &&& BitVec.ofInt 64 255).toNat:Int):=rfl
 have e:(BitVec.ofInt 64 x &&& BitVec.ofInt 64 255).toNat < 256:=by rw [BitVec.toNat_and];exact Nat.lt_of_le_of_lt Nat.and_le_right (by decide)
 rw [e2,wrapN rfl (by omega)];exact h _ e⟩
/-- The cells of a person whose rows are own. -/
abbrev cQ0 (dl:Nat) (p:Person):Nat → AV:=ofL [.own dl p.levels.length,AI p.fields,AI p.clears,aInts false (decide (p.ties.length = 0)) p.ties,.bool p.deaf,AI p.fee]
abbrev cQ1 (dl dt:Nat) (p:Person):Nat → AV:=ofL [.own dl p.levels.length,AI p.fields,AI p.clears,.own dt p.ties.length,.bool p.deaf,AI p.fee]
abbrev rowJ (l:List Int):AB:=.row l.length 1 (fun k _=>AI (l.getD k 0))
/-- All people, the q-th one with other cells. -/
def gC (l:List Person) (q:Nat) (c:Nat → AV) (k o:Nat):AV:=if k = q then c o else cPers l k o
theorem gC_at (l:List Person) (q:Nat) (c:Nat → AV):gC l q c q = c:=by funext o;exact if_pos rfl
theorem gC_off {l:List Person} {q k:Nat} {c:Nat → AV} (h:k ≠ q):gC l q c k = cPers l k:=by funext o;exact if_neg h
structure Ln6 (σ:Nat → Nat → Prop) (Bp:Nat → Prop) (H:List AB) (c c':Nat → AV):Prop where
 a:Ln σ Bp H (c 0) (c' 0)
 b:Ln σ Bp H (c 1) (c' 1)
 d:Ln σ Bp H (c 2) (c' 2)
 e:Ln σ Bp H (c 3) (c' 3)
 f:Ln σ Bp H (c 4) (c' 4)
 g:Ln σ Bp H (c 5) (c' 5)
section
variable {σ:Nat → Nat → Prop} {Bp:Nat → Prop} {H:List AB}
theorem Ln6.get {c c':Nat → AV} (h:Ln6 σ Bp H c c') {o:Nat} (ho:o < 6):Ln σ Bp H (c o) (c' o):=by
 rcases (show o = 0 ∨ o = 1 ∨ o = 2 ∨ o = 3 ∨ o = 4 ∨ o = 5 by omega) with rfl|rfl|rfl|rfl|rfl|rfl
 ·exact h.a
 ·exact h.b
 ·exact h.d
 ·exact h.e
 ·exact h.f
 ·exact h.g
theorem pers_same (l:List Person) (k:Nat) {o:Nat} (ho:o < 6):Ln σ Bp H (cPers l k o) (cPers l k o):=by
 rcases (show o = 0 ∨ o = 1 ∨ o = 2 ∨ o = 3 ∨ o = 4 ∨ o = 5 by omega) with rfl|rfl|rfl|rfl|rfl|rfl <;> exact Ln.sameB _ rfl
theorem gC_ref {l:List Person} {n q:Nat} {c c':Nat → AV} (h:Ln6 σ Bp H c c'):LnB σ Bp H (.rwg n 6 (gC l q c)) (.rwg n 6 (gC l q c')):=by
 refine ⟨rfl,Nat.le_refl _,fun k hk o ho=>?_⟩
 by_cases e:k = q
 ·subst e;rw [gC_at,gC_at];exact h.get ho
 ·rw [gC_off e,gC_off e];exact pers_same l k ho
theorem gC_new {l:List Person} {n q:Nat} {c':Nat → AV} {L:Nat → Nat → AV} (hn:n = q) (h:Ln6 σ Bp H (L 0) c'):LnB σ Bp H (.rwg (n + 1) 6 (appc n (cPers l) L)) (.rwg (n + 1) 6 (gC l q c')):=by
 subst hn
 refine ⟨rfl,Nat.le_refl _,fun k hk o ho=>?_⟩
 by_cases e:k = n
 ·subst e
  rw [gC_at]
  simp only [appc,Nat.lt_irrefl,if_false,Nat.sub_self]
  exact h.get ho
 ·rw [gC_off e]
  simp only [appc,show k < n by omega,if_true]
  exact pers_same l k ho
theorem gC_more {l:List Person} {n q:Nat} {c c':Nat → AV} {L:Nat → Nat → AV} (hq:q < n) (h:Ln6 σ Bp H c c') (h2:Ln6 σ Bp H (L 0) (cPers l n)):LnB σ Bp H (.rwg (n + 1) 6 (appc n (gC l q c) L)) (.rwg (n + 1) 6 (gC l q c')):=by
 refine ⟨rfl,Nat.le_refl _,fun k hk o ho=>?_⟩
 by_cases e:k = q
 ·subst e
  rw [gC_at]
  simp only [appc,hq,if_true]
  rw [gC_at];exact h.get ho
 ·rw [gC_off e]
  by_cases hkn:k < n
  ·simp only [appc,hkn,if_true]
   rw [gC_off e];exact pers_same l k ho
  ·obtain rfl:k = n:=by omega
   simp only [appc,Nat.lt_irrefl,if_false,Nat.sub_self]
   exact h2.get ho
end
theorem ap0 {l:List Int} {z:Nat → Nat → AV} {k o:Nat} (ho:o < 1):AI (l.getD k 0) = appc 0 z (fun k _=>AI (l.getD k 0)) k o:=by
 simp only [appc]
 rw [if_neg (Nat.not_lt_zero k),Nat.sub_zero]
set_option maxHeartbeats 8000000
set_option maxRecDepth 100000
theorem copy_q0 (f:CFl) (langs:Int) (people:List Person) (laws:List LawT) (hs:SmallC ⟨langs,people,laws⟩) (q:Nat) (hq:q < people.length) (hl:∀ i,i < people.length → 0 < (people.getD i ps0).levels.length) (ht:(people.getD q ps0).ties.length = 0):ACall Try.prog 13 [aCrew f ⟨langs,people,laws⟩] [] (fun v h=>v = .agg 3 (ofL [AI langs,.own 0 people.length,cpLaws laws]) ∧ h = [.rwg people.length 6 (gC people q (cQ0 1 (people.getD q ps0))),rowJ (people.getD q ps0).levels]):=by
 have s1:people.length ≤ 1000:=hs.pl
 have s2:=hs.wl
 have s3:∀ i,i < people.length → (people.getD i ps0).levels.length ≤ 1000 ∧ (people.getD i ps0).ties.length ≤ 1000:=hs.ps
 clear hs
 (refine fcall_of mixed Try.func13 rfl (by decide) (hs:={ pub:=[2,8],alt:=[(1,⟨[0,1,2,3,4],(.alt 5 [6] (.alt 7 [] (.alt 8 [] .leaf .leaf) .leaf) (.alt 7 [] (.alt 5 [6] (.alt 8 [] .leaf .leaf) .leaf) .leaf)),[(5,[1]),(7,[1,4])]⟩)] }) ?k (ac:=?ac) ?c (rs:=?rs) ?r ?l ?H;(case k=>kernel_rfl);(case c=>(conv=>(lhs;cbv)));(case r=>(conv=>(lhs;cbv)));(case l=>exact Nat.le_of_ble_eq_true rfl))
 apply cutG
 ·intro rest
  (repeat' ((try conv=>whnf);first|(with_reducible first|refine wT ?_|refine wF ?_|(refine wI (fun hq=>?_) (fun hq=>?_) <;> try simp only [zA,zE,zD,zJ,zB,zI,wK,wL] at hq)|refine wA ?_|refine wB ?_|refine wC ?_|refine wD ?_|refine wE ?_)|((with_reducible refine wN ?_ ?_);focus exact needA)|(with_reducible refine wG ?_)|(refine FAlt.mk ?_ ?_)|(with_reducible refine wP ?_)))
  all_goals (try conv=>whnf)
  all_goals (rcases hL:laws.length with _|n)
  all_goals
   (repeat' ((try conv=>whnf);first|(with_reducible first|refine wT ?_|refine wF ?_|(refine wI (fun hq=>?_) (fun hq=>?_) <;> try simp only [zA,zE,zD,zJ,zB,zI,wK,wL] at hq)|refine wA ?_|refine wB ?_|refine wC ?_|refine wD ?_|refine wE ?_)|((with_reducible refine wN ?_ ?_);focus exact needA)|(with_reducible refine wG ?_)|(refine FAlt.mk ?_ ?_)|((with_reducible refine wN ?_ ?_);focus ((conv=>whnf);exact ⟨(by show AV.sl _ _ laws.length 3 _ = AV.sl _ _ _ 3 _;rw [hL])⟩))|(with_reducible refine wP ?_)))
   all_goals (try conv=>whnf)
   all_goals first
    | exact FWk.of [(1,.ptr 0 0),(2,.ptr 1 0),(3,.ptr 2 0)] [.box 3 (cCrew f ⟨langs,people,laws⟩),.box 3 (ofL [AI 0,nilS,nilS]),.box 3 (ofL [AI langs,nilS,cpLaws laws])] [0,1,2] (wO rfl rfl rfl (wV rfl ((LnB.boxN ⟨⟨⟨True.intro,Ln.sameB _ rfl⟩,Ln.sameB _ rfl⟩,by first|exact Ln.sameB _ rfl|exact Ln.slN hL|fail⟩)) (wV rfl ((LnB.boxN ⟨⟨⟨True.intro,Ln.sameB _ rfl⟩,Ln.sameB _ rfl⟩,Ln.sameB _ rfl⟩)) (wV rfl (LnB.boxN ⟨⟨⟨True.intro,Ln.sameB _ rfl⟩,Ln.sameB _ rfl⟩,Ln.slZ hL⟩) wX)))) ⟨Ln.ptr _ _ _ rfl,Ln.ptr _ _ _ rfl,Ln.ptr _ _ _ rfl,True.intro⟩ rest.h
    | exact FWk.of [(1,.ptr 0 0),(2,.ptr 1 0),(3,.ptr 2 0)] [.box 3 (cCrew f ⟨langs,people,laws⟩),.box 3 (ofL [AI 0,nilS,nilS]),.box 3 (ofL [AI langs,nilS,cpLaws laws])] [0,1,3] (wO rfl rfl rfl (wV rfl ((LnB.boxN ⟨⟨⟨True.intro,Ln.sameB _ rfl⟩,Ln.sameB _ rfl⟩,by first|exact Ln.sameB _ rfl|exact Ln.slN hL|fail⟩)) (wV rfl ((LnB.boxN ⟨⟨⟨True.intro,Ln.sameB _ rfl⟩,Ln.sameB _ rfl⟩,Ln.sameB _ rfl⟩)) (wV rfl (LnB.boxN ⟨⟨⟨True.intro,Ln.sameB _ rfl⟩,Ln.sameB _ rfl⟩,Ln.pubD (by omega) (goneB rfl) rfl (Nat.le_refl _) (by omega) (fun k hk o ho=>by simp [appc])⟩) wX)))) ⟨Ln.ptr _ _ _ rfl,Ln.ptr _ _ _ rfl,Ln.ptr _ _ _ rfl,True.intro⟩ rest.h
    | exact FWk.of [(1,.ptr 0 0),(2,.ptr 1 0),(3,.ptr 2 0)] [.box 3 (cCrew f ⟨langs,people,laws⟩),.box 3 (ofL [AI 0,nilS,nilS]),.box 3 (ofL [AI langs,nilS,cpLaws laws])] [0,1,2] (wO rfl rfl rfl (wV rfl ((LnB.boxN ⟨⟨⟨True.intro,Ln.sameB _ rfl⟩,Ln.sameB _ rfl⟩,by first|exact Ln.sameB _ rfl|exact Ln.slN hL|fail⟩)) (wV rfl ((LnB.boxN ⟨⟨⟨True.intro,Ln.sameB _ rfl⟩,Ln.sameB _ rfl⟩,Ln.sameB _ rfl⟩)) (wV rfl (LnB.boxN ⟨⟨⟨True.intro,Ln.sameB _ rfl⟩,Ln.sameB _ rfl⟩,Ln.pubD (by omega) (goneB rfl) rfl (Nat.le_refl _) (by omega) (fun k hk o ho=>by simp [appc])⟩) wX)))) ⟨Ln.ptr _ _ _ rfl,Ln.ptr _ _ _ rfl,Ln.ptr _ _ _ rfl,True.intro⟩ rest.h
    | fail
 ·skip
  (repeat' ((try conv=>whnf);first|(with_reducible first|refine wT ?_|refine wF ?_|(refine wI (fun hq=>?_) (fun hq=>?_) <;> try simp only [zA,zE,zD,zJ,zB,zI,wK,wL] at hq)|refine wA ?_|refine wB ?_|refine wC ?_|refine wD ?_|refine wE ?_)|((with_reducible refine wN ?_ ?_);focus exact needA)|(with_reducible refine wG ?_)|(with_reducible refine wP ?_)))
  (try conv=>whnf)
  refine FLoop.of (ACalls.mono _) (X:=Bool × Nat) (fun x=>[(1,.ptr 0 0),(2,.ptr 1 0),(3,.ptr 2 0),(4,AI x.2)]) (fun x=>match x with
   | (false,0)=>[.box 3 (cCrew f ⟨langs,people,laws⟩),.box 3 (ofL [AI 0,nilS,nilS]),.box 3 (ofL [AI langs,nilS,cpLaws laws])]
   | (false,i + 1)=>[.box 3 (cCrew f ⟨langs,people,laws⟩),.box 3 (ofL [AI 0,nilS,nilS]),.box 3 (ofL [AI langs,.own 3 (i + 1),cpLaws laws]),rowP (i + 1) people]
   | (true,i)=>[.box 3 (cCrew f ⟨langs,people,laws⟩),.box 3 (ofL [AI 0,nilS,nilS]),.box 3 (ofL [AI langs,.own 3 i,cpLaws laws]),.rwg i 6 (gC people q (cQ0 4 (people.getD q ps0))),rowJ (people.getD q ps0).levels]) (fun x=>x.2 ≤ people.length ∧ (x.1 = false → x.2 ≤ q) ∧ (x.1 = true → q < x.2)) (fun x=>people.length - x.2) (false,0) ⟨⟨Nat.zero_le _,fun _=>Nat.zero_le _,(by intro h;cases h)⟩,[0,1,2],Cut.A,allA⟩ ?_
  rintro ⟨b,i⟩ ⟨hi,hb0,hb1⟩
  simp only at hi hb0 hb1
  by_cases hlt:i < people.length
  ·obtain ⟨q1,q2⟩:=s3 i hlt
   have hli:=hl i hlt
   rcases b with _|_
   ·have hiq:=hb0 rfl
    by_cases hqi:i = q
    ·subst hqi
     rcases i with _|i
     ·(repeat' ((try conv=>whnf);first|(with_reducible first|refine wT ?_|refine wF ?_|(refine wI (fun hq=>?_) (fun hq=>?_) <;> try simp only [zA,zE,zD,zJ,zB,zI,wK,wL] at hq)|refine wA ?_|refine wB ?_|refine wC ?_|refine wD ?_|refine wE ?_)|((with_reducible refine wN ?_ ?_);focus exact needA)|(with_reducible refine wG ?_)|(with_reducible refine wP ?_)))
      (try conv=>whnf)
      rcases hL:(people.getD 0 ps0).levels.length with _|L
      ·omega
      (repeat' ((try conv=>whnf);first|(with_reducible first|refine wT ?_|refine wF ?_|(refine wI (fun hq=>?_) (fun hq=>?_) <;> try simp only [zA,zE,zD,zJ,zB,zI,wK,wL] at hq)|refine wA ?_|refine wB ?_|refine wC ?_|refine wD ?_|refine wE ?_)|((with_reducible refine wN ?_ ?_);focus exact needA)|(with_reducible refine wG ?_)|(with_reducible refine wP ?_)))
      (try conv=>whnf)
      rcases hT:(people.getD 0 ps0).ties.length with _|T
      ·(repeat' ((try conv=>whnf);first|(with_reducible first|refine wT ?_|refine wF ?_|(refine wI (fun hq=>?_) (fun hq=>?_) <;> try simp only [zA,zE,zD,zJ,zB,zI,wK,wL] at hq)|refine wA ?_|refine wB ?_|refine wC ?_|refine wD ?_|refine wE ?_)|((with_reducible refine wN ?_ ?_);focus exact needA)|(with_reducible refine wG ?_)|(with_reducible refine wP ?_)))
       (try conv=>whnf)
       refine FWk.of [(1,.ptr 0 0),(2,.ptr 1 0),(3,.ptr 2 0),(4,AI (0:Nat)),(5,.ptr 3 0)] [.box 3 (cCrew f ⟨langs,people,laws⟩),.box 3 (ofL [AI 0,nilS,nilS]),.box 3 (ofL [AI langs,nilS,cpLaws laws]),.box 6 (cQ0 4 (people.getD 0 ps0)),rowJ (people.getD 0 ps0).levels] [0,1,2,3,4] (wO rfl rfl rfl (wV rfl (LnB.A) (wV rfl (LnB.A) (wV rfl (LnB.A) (wV rfl (LnB.boxN ⟨⟨⟨⟨⟨⟨True.intro,Ln.ownE rfl (by omega)⟩,Ln.A⟩,Ln.A⟩,Ln.slZ ht⟩,Ln.A⟩,Ln.A⟩) (wV rfl (LnB.rowE (by omega) fun k hk o ho=>ap0 ho) wX)))))) ⟨Ln.A,Ln.A,Ln.A,Ln.A,Ln.A,True.intro⟩ ?_
       (repeat' ((try conv=>whnf);first|(with_reducible first|refine wT ?_|refine wF ?_|(refine wI (fun hq=>?_) (fun hq=>?_) <;> try simp only [zA,zE,zD,zJ,zB,zI,wK,wL] at hq)|refine wA ?_|refine wB ?_|refine wC ?_|refine wD ?_|refine wE ?_)|((with_reducible refine wN ?_ ?_);focus exact needA)|(with_reducible refine wG ?_)|(refine FOr.keep ?_)|(with_reducible refine wP ?_)))
       (try conv=>whnf)
       exact ⟨⟨(true,0 + 1),⟨hlt,(by intro h;cases h),fun _=>Nat.lt_succ_self _⟩,by show people.length - (0 + 1) < people.length - 0;omega,[0,1,2,6,4],(wO rfl rfl rfl (wV rfl (LnB.A) (wV rfl (LnB.A) (wV rfl (LnB.boxN ⟨⟨⟨True.intro,Ln.A⟩,Ln.ownE rfl (by first|rfl|omega)⟩,Ln.A⟩) (wV rfl (gC_new (n:=0) (by omega) ⟨Ln.ownE rfl rfl,Ln.A,Ln.A,Ln.A,Ln.A,Ln.A⟩) (wV rfl (LnB.A) wX)))))),allA⟩⟩
      ·omega
     ·(repeat' ((try conv=>whnf);first|(with_reducible first|refine wT ?_|refine wF ?_|(refine wI (fun hq=>?_) (fun hq=>?_) <;> try simp only [zA,zE,zD,zJ,zB,zI,wK,wL] at hq)|refine wA ?_|refine wB ?_|refine wC ?_|refine wD ?_|refine wE ?_)|((with_reducible refine wN ?_ ?_);focus exact needA)|(with_reducible refine wG ?_)|(with_reducible refine wP ?_)))
      (try conv=>whnf)
      rcases hL:(people.getD (i + 1) ps0).levels.length with _|L
      ·omega
      (repeat' ((try conv=>whnf);first|(with_reducible first|refine wT ?_|refine wF ?_|(refine wI (fun hq=>?_) (fun hq=>?_) <;> try simp only [zA,zE,zD,zJ,zB,zI,wK,wL] at hq)|refine wA ?_|refine wB ?_|refine wC ?_|refine wD ?_|refine wE ?_)|((with_reducible refine wN ?_ ?_);focus exact needA)|(with_reducible refine wG ?_)|(with_reducible refine wP ?_)))
      (try conv=>whnf)
      rcases hT:(people.getD (i + 1) ps0).ties.length with _|T
      ·(repeat' ((try conv=>whnf);first|(with_reducible first|refine wT ?_|refine wF ?_|(refine wI (fun hq=>?_) (fun hq=>?_) <;> try simp only [zA,zE,zD,zJ,zB,zI,wK,wL] at hq)|refine wA ?_|refine wB ?_|refine wC ?_|refine wD ?_|refine wE ?_)|((with_reducible refine wN ?_ ?_);focus exact needA)|(with_reducible refine wG ?_)|(with_reducible refine wP ?_)))
       (try conv=>whnf)
       refine FWk.of [(1,.ptr 0 0),(2,.ptr 1 0),(3,.ptr 2 0),(4,AI ((i + 1):Nat)),(5,.ptr 4 0)] [.box 3 (cCrew f ⟨langs,people,laws⟩),.box 3 (ofL [AI 0,nilS,nilS]),.box 3 (ofL [AI langs,.own 3 (i + 1),cpLaws laws]),rowP (i + 1) people,.box 6 (cQ0 5 (people.getD (i + 1) ps0)),rowJ (people.getD (i + 1) ps0).levels] [0,1,2,3,4,5] (wO rfl rfl rfl (wV rfl (LnB.A) (wV rfl (LnB.A) (wV rfl (LnB.A) (wV rfl (LnB.A) (wV rfl (LnB.boxN ⟨⟨⟨⟨⟨⟨True.intro,Ln.ownE rfl (by omega)⟩,Ln.A⟩,Ln.A⟩,Ln.slZ ht⟩,Ln.A⟩,Ln.A⟩) (wV rfl (LnB.rowE (by omega) fun k hk o ho=>ap0 ho) wX))))))) ⟨Ln.A,Ln.A,Ln.A,Ln.A,Ln.A,True.intro⟩ ?_
       (repeat' ((try conv=>whnf);first|(with_reducible first|refine wT ?_|refine wF ?_|(refine wI (fun hq=>?_) (fun hq=>?_) <;> try simp only [zA,zE,zD,zJ,zB,zI,wK,wL] at hq)|refine wA ?_|refine wB ?_|refine wC ?_|refine wD ?_|refine wE ?_)|((with_reducible refine wN ?_ ?_);focus exact needA)|(with_reducible refine wG ?_)|(refine FOr.keep ?_)|(with_reducible refine wP ?_)))
       (try conv=>whnf)
       exact ⟨⟨(true,(i + 1) + 1),⟨hlt,(by intro h;cases h),fun _=>Nat.lt_succ_self _⟩,by show people.length - ((i + 1) + 1) < people.length - (i + 1);omega,[0,1,2,7,5],(wO rfl rfl rfl (wV rfl (LnB.A) (wV rfl (LnB.A) (wV rfl (LnB.boxN ⟨⟨⟨True.intro,Ln.A⟩,Ln.ownE rfl (by first|rfl|omega)⟩,Ln.A⟩) (wV rfl (gC_new (n:=(i + 1)) (by omega) ⟨Ln.ownE rfl rfl,Ln.A,Ln.A,Ln.A,Ln.A,Ln.A⟩) (wV rfl (LnB.A) wX)))))),allA⟩⟩
      ·omega
    ·have hiq:i < q:=by omega
     rcases i with _|i
     ·(repeat' ((try conv=>whnf);first|(with_reducible first|refine wT ?_|refine wF ?_|(refine wI (fun hq=>?_) (fun hq=>?_) <;> try simp only [zA,zE,zD,zJ,zB,zI,wK,wL] at hq)|refine wA ?_|refine wB ?_|refine wC ?_|refine wD ?_|refine wE ?_)|((with_reducible refine wN ?_ ?_);focus exact needA)|(with_reducible refine wG ?_)|(with_reducible refine wP ?_)))
      (try conv=>whnf)
      rcases hL:(people.getD 0 ps0).levels.length with _|L
      ·omega
      ·(repeat' ((try conv=>whnf);first|(with_reducible first|refine wT ?_|refine wF ?_|(refine wI (fun hq=>?_) (fun hq=>?_) <;> try simp only [zA,zE,zD,zJ,zB,zI,wK,wL] at hq)|refine wA ?_|refine wB ?_|refine wC ?_|refine wD ?_|refine wE ?_)|((with_reducible refine wN ?_ ?_);focus exact needA)|(with_reducible refine wG ?_)|(with_reducible refine wP ?_)))
       (try conv=>whnf)
       rcases hT:(people.getD 0 ps0).ties.length with _|T
       all_goals
        (repeat' ((try conv=>whnf);first|(with_reducible first|refine wT ?_|refine wF ?_|(refine wI (fun hq=>?_) (fun hq=>?_) <;> try simp only [zA,zE,zD,zJ,zB,zI,wK,wL] at hq)|refine wA ?_|refine wB ?_|refine wC ?_|refine wD ?_|refine wE ?_)|((with_reducible refine wN ?_ ?_);focus exact needA)|(with_reducible refine wG ?_)|(with_reducible refine wP ?_)))
        (try conv=>whnf)
        refine FWk.of [(1,.ptr 0 0),(2,.ptr 1 0),(3,.ptr 2 0),(4,AI (0:Nat)),(5,.ptr 3 0)] [.box 3 (cCrew f ⟨langs,people,laws⟩),.box 3 (ofL [AI 0,nilS,nilS]),.box 3 (ofL [AI langs,nilS,cpLaws laws]),.box 6 (cPers people 0)] [0,1,2,3] (wO rfl rfl rfl (wV rfl (LnB.A) (wV rfl (LnB.A) (wV rfl (LnB.A) (wV rfl (LnB.boxN ⟨⟨⟨⟨⟨⟨True.intro,by first|exact Ln.slZ (by assumption)|exact Ln.pubD (by omega) (goneB rfl) rfl (by omega) (by omega) (fun k hk o ho=>by simp [appc])|fail⟩,Ln.A⟩,Ln.A⟩,by first|exact Ln.slZ (by assumption)|exact Ln.pubD (by omega) (goneB rfl) rfl (by omega) (by omega) (fun k hk o ho=>by simp [appc])|fail⟩,Ln.A⟩,Ln.A⟩) wX))))) ⟨Ln.A,Ln.A,Ln.A,Ln.A,Ln.A,True.intro⟩ ?_
        (repeat' ((try conv=>whnf);first|(with_reducible first|refine wT ?_|refine wF ?_|(refine wI (fun hq=>?_) (fun hq=>?_) <;> try simp only [zA,zE,zD,zJ,zB,zI,wK,wL] at hq)|refine wA ?_|refine wB ?_|refine wC ?_|refine wD ?_|refine wE ?_)|((with_reducible refine wN ?_ ?_);focus exact needA)|(with_reducible refine wG ?_)|(with_reducible refine wP ?_)))
        (try conv=>whnf)
        exact ⟨⟨(false,0 + 1),⟨hlt,fun _=>hiq,(by intro h;cases h)⟩,by show people.length - (0 + 1) < people.length - 0;omega,[0,1,2,4],(wO rfl rfl rfl (wV rfl (LnB.A) (wV rfl (LnB.A) (wV rfl (LnB.A) (wV rfl (LnB.app (fun k hk=>absurd hk (Nat.not_lt_zero k)) (fun o ho=>rfl)) wX))))),allA⟩⟩
     ·(repeat' ((try conv=>whnf);first|(with_reducible first|refine wT ?_|refine wF ?_|(refine wI (fun hq=>?_) (fun hq=>?_) <;> try simp only [zA,zE,zD,zJ,zB,zI,wK,wL] at hq)|refine wA ?_|refine wB ?_|refine wC ?_|refine wD ?_|refine wE ?_)|((with_reducible refine wN ?_ ?_);focus exact needA)|(with_reducible refine wG ?_)|(with_reducible refine wP ?_)))
      (try conv=>whnf)
      rcases hL:(people.getD (i + 1) ps0).levels.length with _|L
      ·omega
      ·(repeat' ((try conv=>whnf);first|(with_reducible first|refine wT ?_|refine wF ?_|(refine wI (fun hq=>?_) (fun hq=>?_) <;> try simp only [zA,zE,zD,zJ,zB,zI,wK,wL] at hq)|refine wA ?_|refine wB ?_|refine wC ?_|refine wD ?_|refine wE ?_)|((with_reducible refine wN ?_ ?_);focus exact needA)|(with_reducible refine wG ?_)|(with_reducible refine wP ?_)))
       (try conv=>whnf)
       rcases hT:(people.getD (i + 1) ps0).ties.length with _|T
       all_goals
        (repeat' ((try conv=>whnf);first|(with_reducible first|refine wT ?_|refine wF ?_|(refine wI (fun hq=>?_) (fun hq=>?_) <;> try simp only [zA,zE,zD,zJ,zB,zI,wK,wL] at hq)|refine wA ?_|refine wB ?_|refine wC ?_|refine wD ?_|refine wE ?_)|((with_reducible refine wN ?_ ?_);focus exact needA)|(with_reducible refine wG ?_)|(with_reducible refine wP ?_)))
        (try conv=>whnf)
        refine FWk.of [(1,.ptr 0 0),(2,.ptr 1 0),(3,.ptr 2 0),(4,AI ((i + 1):Nat)),(5,.ptr 4 0)] [.box 3 (cCrew f ⟨langs,people,laws⟩),.box 3 (ofL [AI 0,nilS,nilS]),.box 3 (ofL [AI langs,.own 3 (i + 1),cpLaws laws]),rowP (i + 1) people,.box 6 (cPers people (i + 1))] [0,1,2,3,4] (wO rfl rfl rfl (wV rfl (LnB.A) (wV rfl (LnB.A) (wV rfl (LnB.A) (wV rfl (LnB.A) (wV rfl (LnB.boxN ⟨⟨⟨⟨⟨⟨True.intro,by first|exact Ln.slZ (by assumption)|exact Ln.pubD (by omega) (goneB rfl) rfl (by omega) (by omega) (fun k hk o ho=>by simp [appc])|fail⟩,Ln.A⟩,Ln.A⟩,by first|exact Ln.slZ (by assumption)|exact Ln.pubD (by omega) (goneB rfl) rfl (by omega) (by omega) (fun k hk o ho=>by simp [appc])|fail⟩,Ln.A⟩,Ln.A⟩) wX)))))) ⟨Ln.A,Ln.A,Ln.A,Ln.A,Ln.A,True.intro⟩ ?_
        (repeat' ((try conv=>whnf);first|(with_reducible first|refine wT ?_|refine wF ?_|(refine wI (fun hq=>?_) (fun hq=>?_) <;> try simp only [zA,zE,zD,zJ,zB,zI,wK,wL] at hq)|refine wA ?_|refine wB ?_|refine wC ?_|refine wD ?_|refine wE ?_)|((with_reducible refine wN ?_ ?_);focus exact needA)|(with_reducible refine wG ?_)|(with_reducible refine wP ?_)))
        (try conv=>whnf)
        exact ⟨⟨(false,i + 1 + 1),⟨hlt,fun _=>hiq,(by intro h;cases h)⟩,by show people.length - (i + 1 + 1) < people.length - (i + 1);omega,[0,1,2,5],(wO rfl rfl rfl (wV rfl (LnB.A) (wV rfl (LnB.A) (wV rfl (LnB.A) (wV rfl (LnB.app (fun _ _ _ _=>rfl) (fun o ho=>rfl)) wX))))),allA⟩⟩
   ·have hqi:=hb1 rfl
    skip
    ·(repeat' ((try conv=>whnf);first|(with_reducible first|refine wT ?_|refine wF ?_|(refine wI (fun hq=>?_) (fun hq=>?_) <;> try simp only [zA,zE,zD,zJ,zB,zI,wK,wL] at hq)|refine wA ?_|refine wB ?_|refine wC ?_|refine wD ?_|refine wE ?_)|((with_reducible refine wN ?_ ?_);focus exact needA)|(with_reducible refine wG ?_)|(with_reducible refine wP ?_)))
     (try conv=>whnf)
     rcases hL:(people.getD i ps0).levels.length with _|L
     ·omega
     ·(repeat' ((try conv=>whnf);first|(with_reducible first|refine wT ?_|refine wF ?_|(refine wI (fun hq=>?_) (fun hq=>?_) <;> try simp only [zA,zE,zD,zJ,zB,zI,wK,wL] at hq)|refine wA ?_|refine wB ?_|refine wC ?_|refine wD ?_|refine wE ?_)|((with_reducible refine wN ?_ ?_);focus exact needA)|(with_reducible refine wG ?_)|(with_reducible refine wP ?_)))
      (try conv=>whnf)
      rcases hT:(people.getD i ps0).ties.length with _|T
      all_goals
       (repeat' ((try conv=>whnf);first|(with_reducible first|refine wT ?_|refine wF ?_|(refine wI (fun hq=>?_) (fun hq=>?_) <;> try simp only [zA,zE,zD,zJ,zB,zI,wK,wL] at hq)|refine wA ?_|refine wB ?_|refine wC ?_|refine wD ?_|refine wE ?_)|((with_reducible refine wN ?_ ?_);focus exact needA)|(with_reducible refine wG ?_)|(with_reducible refine wP ?_)))
       (try conv=>whnf)
       refine FWk.of [(1,.ptr 0 0),(2,.ptr 1 0),(3,.ptr 2 0),(4,AI (i:Nat)),(5,.ptr 5 0)] [.box 3 (cCrew f ⟨langs,people,laws⟩),.box 3 (ofL [AI 0,nilS,nilS]),.box 3 (ofL [AI langs,.own 3 i,cpLaws laws]),.rwg i 6 (gC people q (cQ0 4 (people.getD q ps0))),rowJ (people.getD q ps0).levels,.box 6 (cPers people i)] [0,1,2,3,4,5] (wO rfl rfl rfl (wV rfl (LnB.A) (wV rfl (LnB.A) (wV rfl (LnB.A) (wV rfl (gC_ref ⟨Ln.ownE rfl rfl,Ln.A,Ln.A,by first|exact Ln.ownE rfl rfl|exact Ln.sameB _ rfl|fail,Ln.A,Ln.A⟩) (wV rfl (LnB.A) (wV rfl (LnB.boxN ⟨⟨⟨⟨⟨⟨True.intro,by first|exact Ln.slZ (by assumption)|exact Ln.pubD (by omega) (goneB rfl) rfl (by omega) (by omega) (fun k hk o ho=>by simp [appc])|fail⟩,Ln.A⟩,Ln.A⟩,by first|exact Ln.slZ (by assumption)|exact Ln.pubD (by omega) (goneB rfl) rfl (by omega) (by omega) (fun k hk o ho=>by simp [appc])|fail⟩,Ln.A⟩,Ln.A⟩) wX))))))) ⟨Ln.A,Ln.A,Ln.A,Ln.A,Ln.A,True.intro⟩ ?_
       (repeat' ((try conv=>whnf);first|(with_reducible first|refine wT ?_|refine wF ?_|(refine wI (fun hq=>?_) (fun hq=>?_) <;> try simp only [zA,zE,zD,zJ,zB,zI,wK,wL] at hq)|refine wA ?_|refine wB ?_|refine wC ?_|refine wD ?_|refine wE ?_)|((with_reducible refine wN ?_ ?_);focus exact needA)|(with_reducible refine wG ?_)|(with_reducible refine wP ?_)))
       (try conv=>whnf)
       exact ⟨⟨(true,i + 1),⟨hlt,(by intro h;cases h),fun _=>Nat.lt_succ_of_lt hqi⟩,by show people.length - (i + 1) < people.length - i;omega,[0,1,2,6,4],(wO rfl rfl rfl (wV rfl (LnB.A) (wV rfl (LnB.A) (wV rfl (LnB.A) (wV rfl (gC_more hqi ⟨Ln.ownE rfl rfl,Ln.A,Ln.A,Ln.A,Ln.A,Ln.A⟩ ⟨Ln.A,Ln.A,Ln.A,Ln.A,Ln.A,Ln.A⟩) (wV rfl (LnB.A) wX)))))),allA⟩⟩
  ·obtain rfl:i = people.length:=by omega
   rcases b with _|_
   ·have:=hb0 rfl;omega
   (repeat' ((try conv=>whnf);first|(with_reducible first|refine wT ?_|refine wF ?_|(refine wI (fun hq=>?_) (fun hq=>?_) <;> try simp only [zA,zE,zD,zJ,zB,zI,wK,wL] at hq)|refine wA ?_|refine wB ?_|refine wC ?_|refine wD ?_|refine wE ?_)|((with_reducible refine wN ?_ ?_);focus exact needA)|(with_reducible refine wG ?_)|(with_reducible refine wP ?_)))
   (try conv=>whnf)
   exact ⟨⟨.agg 3 (ofL [AI langs,.own 0 people.length,cpLaws laws]),[.rwg people.length 6 (gC people q (cQ0 1 (people.getD q ps0))),rowJ (people.getD q ps0).levels],[3,4],(wO rfl rfl rfl (wV rfl (gC_ref ⟨Ln.ownE rfl rfl,Ln.A,Ln.A,Ln.A,Ln.A,Ln.A⟩) (wV rfl (LnB.A) wX))),Ln.aggN ⟨⟨⟨True.intro,Ln.A⟩,Ln.A⟩,Ln.A⟩,rfl,rfl⟩⟩
theorem copy_q1 (f:CFl) (langs:Int) (people:List Person) (laws:List LawT) (hs:SmallC ⟨langs,people,laws⟩) (q:Nat) (hq:q < people.length) (hl:∀ i,i < people.length → 0 < (people.getD i ps0).levels.length) (ht:0 < (people.getD q ps0).ties.length):ACall Try.prog 13 [aCrew f ⟨langs,people,laws⟩] [] (fun v h=>v = .agg 3 (ofL [AI langs,.own 0 people.length,cpLaws laws]) ∧ h = [.rwg people.length 6 (gC people q (cQ1 1 2 (people.getD q ps0))),rowJ (people.getD q ps0).levels,rowJ (people.getD q ps0).ties]):=by
 have s1:people.length ≤ 1000:=hs.pl
 have s2:=hs.wl
 have s3:∀ i,i < people.length → (people.getD i ps0).levels.length ≤ 1000 ∧ (people.getD i ps0).ties.length ≤ 1000:=hs.ps
 clear hs
 (refine fcall_of mixed Try.func13 rfl (by decide) (hs:={ pub:=[2,8],alt:=[(1,⟨[0,1,2,3,4],(.alt 5 [6] (.alt 7 [] (.alt 8 [] .leaf .leaf) .leaf) (.alt 7 [] (.alt 5 [6] (.alt 8 [] .leaf .leaf) .leaf) .leaf)),[(5,[1]),(7,[1,4])]⟩)] }) ?k (ac:=?ac) ?c (rs:=?rs) ?r ?l ?H;(case k=>kernel_rfl);(case c=>(conv=>(lhs;cbv)));(case r=>(conv=>(lhs;cbv)));(case l=>exact Nat.le_of_ble_eq_true rfl))
 apply cutG
 ·intro rest
  (repeat' ((try conv=>whnf);first|(with_reducible first|refine wT ?_|refine wF ?_|(refine wI (fun hq=>?_) (fun hq=>?_) <;> try simp only [zA,zE,zD,zJ,zB,zI,wK,wL] at hq)|refine wA ?_|refine wB ?_|refine wC ?_|refine wD ?_|refine wE ?_)|((with_reducible refine wN ?_ ?_);focus exact needA)|(with_reducible refine wG ?_)|(refine FAlt.mk ?_ ?_)|(with_reducible refine wP ?_)))
  all_goals (try conv=>whnf)
  all_goals (rcases hL:laws.length with _|n)
  all_goals
   (repeat' ((try conv=>whnf);first|(with_reducible first|refine wT ?_|refine wF ?_|(refine wI (fun hq=>?_) (fun hq=>?_) <;> try simp only [zA,zE,zD,zJ,zB,zI,wK,wL] at hq)|refine wA ?_|refine wB ?_|refine wC ?_|refine wD ?_|refine wE ?_)|((with_reducible refine wN ?_ ?_);focus exact needA)|(with_reducible refine wG ?_)|(refine FAlt.mk ?_ ?_)|((with_reducible refine wN ?_ ?_);focus ((conv=>whnf);exact ⟨(by show AV.sl _ _ laws.length 3 _ = AV.sl _ _ _ 3 _;rw [hL])⟩))|(with_reducible refine wP ?_)))
   all_goals (try conv=>whnf)
   all_goals first
    | exact FWk.of [(1,.ptr 0 0),(2,.ptr 1 0),(3,.ptr 2 0)] [.box 3 (cCrew f ⟨langs,people,laws⟩),.box 3 (ofL [AI 0,nilS,nilS]),.box 3 (ofL [AI langs,nilS,cpLaws laws])] [0,1,2] (wO rfl rfl rfl (wV rfl ((LnB.boxN ⟨⟨⟨True.intro,Ln.sameB _ rfl⟩,Ln.sameB _ rfl⟩,by first|exact Ln.sameB _ rfl|exact Ln.slN hL|fail⟩)) (wV rfl ((LnB.boxN ⟨⟨⟨True.intro,Ln.sameB _ rfl⟩,Ln.sameB _ rfl⟩,Ln.sameB _ rfl⟩)) (wV rfl (LnB.boxN ⟨⟨⟨True.intro,Ln.sameB _ rfl⟩,Ln.sameB _ rfl⟩,Ln.slZ hL⟩) wX)))) ⟨Ln.ptr _ _ _ rfl,Ln.ptr _ _ _ rfl,Ln.ptr _ _ _ rfl,True.intro⟩ rest.h
    | exact FWk.of [(1,.ptr 0 0),(2,.ptr 1 0),(3,.ptr 2 0)] [.box 3 (cCrew f ⟨langs,people,laws⟩),.box 3 (ofL [AI 0,nilS,nilS]),.box 3 (ofL [AI langs,nilS,cpLaws laws])] [0,1,3] (wO rfl rfl rfl (wV rfl ((LnB.boxN ⟨⟨⟨True.intro,Ln.sameB _ rfl⟩,Ln.sameB _ rfl⟩,by first|exact Ln.sameB _ rfl|exact Ln.slN hL|fail⟩)) (wV rfl ((LnB.boxN ⟨⟨⟨True.intro,Ln.sameB _ rfl⟩,Ln.sameB _ rfl⟩,Ln.sameB _ rfl⟩)) (wV rfl (LnB.boxN ⟨⟨⟨True.intro,Ln.sameB _ rfl⟩,Ln.sameB _ rfl⟩,Ln.pubD (by omega) (goneB rfl) rfl (Nat.le_refl _) (by omega) (fun k hk o ho=>by simp [appc])⟩) wX)))) ⟨Ln.ptr _ _ _ rfl,Ln.ptr _ _ _ rfl,Ln.ptr _ _ _ rfl,True.intro⟩ rest.h
    | exact FWk.of [(1,.ptr 0 0),(2,.ptr 1 0),(3,.ptr 2 0)] [.box 3 (cCrew f ⟨langs,people,laws⟩),.box 3 (ofL [AI 0,nilS,nilS]),.box 3 (ofL [AI langs,nilS,cpLaws laws])] [0,1,2] (wO rfl rfl rfl (wV rfl ((LnB.boxN ⟨⟨⟨True.intro,Ln.sameB _ rfl⟩,Ln.sameB _ rfl⟩,by first|exact Ln.sameB _ rfl|exact Ln.slN hL|fail⟩)) (wV rfl ((LnB.boxN ⟨⟨⟨True.intro,Ln.sameB _ rfl⟩,Ln.sameB _ rfl⟩,Ln.sameB _ rfl⟩)) (wV rfl (LnB.boxN ⟨⟨⟨True.intro,Ln.sameB _ rfl⟩,Ln.sameB _ rfl⟩,Ln.pubD (by omega) (goneB rfl) rfl (Nat.le_refl _) (by omega) (fun k hk o ho=>by simp [appc])⟩) wX)))) ⟨Ln.ptr _ _ _ rfl,Ln.ptr _ _ _ rfl,Ln.ptr _ _ _ rfl,True.intro⟩ rest.h
    | fail
 ·skip
  (repeat' ((try conv=>whnf);first|(with_reducible first|refine wT ?_|refine wF ?_|(refine wI (fun hq=>?_) (fun hq=>?_) <;> try simp only [zA,zE,zD,zJ,zB,zI,wK,wL] at hq)|refine wA ?_|refine wB ?_|refine wC ?_|refine wD ?_|refine wE ?_)|((with_reducible refine wN ?_ ?_);focus exact needA)|(with_reducible refine wG ?_)|(with_reducible refine wP ?_)))
  (try conv=>whnf)
  refine FLoop.of (ACalls.mono _) (X:=Bool × Nat) (fun x=>[(1,.ptr 0 0),(2,.ptr 1 0),(3,.ptr 2 0),(4,AI x.2)]) (fun x=>match x with
   | (false,0)=>[.box 3 (cCrew f ⟨langs,people,laws⟩),.box 3 (ofL [AI 0,nilS,nilS]),.box 3 (ofL [AI langs,nilS,cpLaws laws])]
   | (false,i + 1)=>[.box 3 (cCrew f ⟨langs,people,laws⟩),.box 3 (ofL [AI 0,nilS,nilS]),.box 3 (ofL [AI langs,.own 3 (i + 1),cpLaws laws]),rowP (i + 1) people]
   | (true,i)=>[.box 3 (cCrew f ⟨langs,people,laws⟩),.box 3 (ofL [AI 0,nilS,nilS]),.box 3 (ofL [AI langs,.own 3 i,cpLaws laws]),.rwg i 6 (gC people q (cQ1 4 5 (people.getD q ps0))),rowJ (people.getD q ps0).levels,rowJ (people.getD q ps0).ties]) (fun x=>x.2 ≤ people.length ∧ (x.1 = false → x.2 ≤ q) ∧ (x.1 = true → q < x.2)) (fun x=>people.length - x.2) (false,0) ⟨⟨Nat.zero_le _,fun _=>Nat.zero_le _,(by intro h;cases h)⟩,[0,1,2],Cut.A,allA⟩ ?_
  rintro ⟨b,i⟩ ⟨hi,hb0,hb1⟩
  simp only at hi hb0 hb1
  by_cases hlt:i < people.length
  ·obtain ⟨q1,q2⟩:=s3 i hlt
   have hli:=hl i hlt
   rcases b with _|_
   ·have hiq:=hb0 rfl
    by_cases hqi:i = q
    ·subst hqi
     rcases i with _|i
     ·(repeat' ((try conv=>whnf);first|(with_reducible first|refine wT ?_|refine wF ?_|(refine wI (fun hq=>?_) (fun hq=>?_) <;> try simp only [zA,zE,zD,zJ,zB,zI,wK,wL] at hq)|refine wA ?_|refine wB ?_|refine wC ?_|refine wD ?_|refine wE ?_)|((with_reducible refine wN ?_ ?_);focus exact needA)|(with_reducible refine wG ?_)|(with_reducible refine wP ?_)))
      (try conv=>whnf)
      rcases hL:(people.getD 0 ps0).levels.length with _|L
      ·omega
      (repeat' ((try conv=>whnf);first|(with_reducible first|refine wT ?_|refine wF ?_|(refine wI (fun hq=>?_) (fun hq=>?_) <;> try simp only [zA,zE,zD,zJ,zB,zI,wK,wL] at hq)|refine wA ?_|refine wB ?_|refine wC ?_|refine wD ?_|refine wE ?_)|((with_reducible refine wN ?_ ?_);focus exact needA)|(with_reducible refine wG ?_)|(with_reducible refine wP ?_)))
      (try conv=>whnf)
      rcases hT:(people.getD 0 ps0).ties.length with _|T
      ·omega
      (repeat' ((try conv=>whnf);first|(with_reducible first|refine wT ?_|refine wF ?_|(refine wI (fun hq=>?_) (fun hq=>?_) <;> try simp only [zA,zE,zD,zJ,zB,zI,wK,wL] at hq)|refine wA ?_|refine wB ?_|refine wC ?_|refine wD ?_|refine wE ?_)|((with_reducible refine wN ?_ ?_);focus exact needA)|(with_reducible refine wG ?_)|(with_reducible refine wP ?_)))
      (try conv=>whnf)
      refine FWk.of [(1,.ptr 0 0),(2,.ptr 1 0),(3,.ptr 2 0),(4,AI (0:Nat)),(5,.ptr 3 0)] [.box 3 (cCrew f ⟨langs,people,laws⟩),.box 3 (ofL [AI 0,nilS,nilS]),.box 3 (ofL [AI langs,nilS,cpLaws laws]),.box 6 (cQ1 4 5 (people.getD 0 ps0)),rowJ (people.getD 0 ps0).levels,rowJ (people.getD 0 ps0).ties] [0,1,2,3,4,5] (wO rfl rfl rfl (wV rfl (LnB.A) (wV rfl (LnB.A) (wV rfl (LnB.A) (wV rfl (LnB.boxN ⟨⟨⟨⟨⟨⟨True.intro,Ln.ownE rfl (by omega)⟩,Ln.A⟩,Ln.A⟩,Ln.ownE rfl (by omega)⟩,Ln.A⟩,Ln.A⟩) (wV rfl (LnB.rowE (by omega) fun k hk o ho=>ap0 ho) (wV rfl (LnB.rowE (by omega) fun k hk o ho=>ap0 ho) wX))))))) ⟨Ln.A,Ln.A,Ln.A,Ln.A,Ln.A,True.intro⟩ ?_
      (repeat' ((try conv=>whnf);first|(with_reducible first|refine wT ?_|refine wF ?_|(refine wI (fun hq=>?_) (fun hq=>?_) <;> try simp only [zA,zE,zD,zJ,zB,zI,wK,wL] at hq)|refine wA ?_|refine wB ?_|refine wC ?_|refine wD ?_|refine wE ?_)|((with_reducible refine wN ?_ ?_);focus exact needA)|(with_reducible refine wG ?_)|(refine FOr.keep ?_)|(with_reducible refine wP ?_)))
      (try conv=>whnf)
      exact ⟨⟨(true,0 + 1),⟨hlt,(by intro h;cases h),fun _=>Nat.lt_succ_self _⟩,by show people.length - (0 + 1) < people.length - 0;omega,[0,1,2,7,4,5],(wO rfl rfl rfl (wV rfl (LnB.A) (wV rfl (LnB.A) (wV rfl (LnB.boxN ⟨⟨⟨True.intro,Ln.A⟩,Ln.ownE rfl (by first|rfl|omega)⟩,Ln.A⟩) (wV rfl (gC_new (n:=0) (by omega) ⟨Ln.ownE rfl rfl,Ln.A,Ln.A,Ln.ownE rfl rfl,Ln.A,Ln.A⟩) (wV rfl (LnB.A) (wV rfl (LnB.A) wX))))))),allA⟩⟩
     ·(repeat' ((try conv=>whnf);first|(with_reducible first|refine wT ?_|refine wF ?_|(refine wI (fun hq=>?_) (fun hq=>?_) <;> try simp only [zA,zE,zD,zJ,zB,zI,wK,wL] at hq)|refine wA ?_|refine wB ?_|refine wC ?_|refine wD ?_|refine wE ?_)|((with_reducible refine wN ?_ ?_);focus exact needA)|(with_reducible refine wG ?_)|(with_reducible refine wP ?_)))
      (try conv=>whnf)
      rcases hL:(people.getD (i + 1) ps0).levels.length with _|L
      ·omega
      (repeat' ((try conv=>whnf);first|(with_reducible first|refine wT ?_|refine wF ?_|(refine wI (fun hq=>?_) (fun hq=>?_) <;> try simp only [zA,zE,zD,zJ,zB,zI,wK,wL] at hq)|refine wA ?_|refine wB ?_|refine wC ?_|refine wD ?_|refine wE ?_)|((with_reducible refine wN ?_ ?_);focus exact needA)|(with_reducible refine wG ?_)|(with_reducible refine wP ?_)))
      (try conv=>whnf)
      rcases hT:(people.getD (i + 1) ps0).ties.length with _|T
      ·omega
      (repeat' ((try conv=>whnf);first|(with_reducible first|refine wT ?_|refine wF ?_|(refine wI (fun hq=>?_) (fun hq=>?_) <;> try simp only [zA,zE,zD,zJ,zB,zI,wK,wL] at hq)|refine wA ?_|refine wB ?_|refine wC ?_|refine wD ?_|refine wE ?_)|((with_reducible refine wN ?_ ?_);focus exact needA)|(with_reducible refine wG ?_)|(with_reducible refine wP ?_)))
      (try conv=>whnf)
      refine FWk.of [(1,.ptr 0 0),(2,.ptr 1 0),(3,.ptr 2 0),(4,AI ((i + 1):Nat)),(5,.ptr 4 0)] [.box 3 (cCrew f ⟨langs,people,laws⟩),.box 3 (ofL [AI 0,nilS,nilS]),.box 3 (ofL [AI langs,.own 3 (i + 1),cpLaws laws]),rowP (i + 1) people,.box 6 (cQ1 5 6 (people.getD (i + 1) ps0)),rowJ (people.getD (i + 1) ps0).levels,rowJ (people.getD (i + 1) ps0).ties] [0,1,2,3,4,5,6] (wO rfl rfl rfl (wV rfl (LnB.A) (wV rfl (LnB.A) (wV rfl (LnB.A) (wV rfl (LnB.A) (wV rfl (LnB.boxN ⟨⟨⟨⟨⟨⟨True.intro,Ln.ownE rfl (by omega)⟩,Ln.A⟩,Ln.A⟩,Ln.ownE rfl (by omega)⟩,Ln.A⟩,Ln.A⟩) (wV rfl (LnB.rowE (by omega) fun k hk o ho=>ap0 ho) (wV rfl (LnB.rowE (by omega) fun k hk o ho=>ap0 ho) wX)))))))) ⟨Ln.A,Ln.A,Ln.A,Ln.A,Ln.A,True.intro⟩ ?_
      (repeat' ((try conv=>whnf);first|(with_reducible first|refine wT ?_|refine wF ?_|(refine wI (fun hq=>?_) (fun hq=>?_) <;> try simp only [zA,zE,zD,zJ,zB,zI,wK,wL] at hq)|refine wA ?_|refine wB ?_|refine wC ?_|refine wD ?_|refine wE ?_)|((with_reducible refine wN ?_ ?_);focus exact needA)|(with_reducible refine wG ?_)|(refine FOr.keep ?_)|(with_reducible refine wP ?_)))
      (try conv=>whnf)
      exact ⟨⟨(true,(i + 1) + 1),⟨hlt,(by intro h;cases h),fun _=>Nat.lt_succ_self _⟩,by show people.length - ((i + 1) + 1) < people.length - (i + 1);omega,[0,1,2,8,5,6],(wO rfl rfl rfl (wV rfl (LnB.A) (wV rfl (LnB.A) (wV rfl (LnB.boxN ⟨⟨⟨True.intro,Ln.A⟩,Ln.ownE rfl (by first|rfl|omega)⟩,Ln.A⟩) (wV rfl (gC_new (n:=(i + 1)) (by omega) ⟨Ln.ownE rfl rfl,Ln.A,Ln.A,Ln.ownE rfl rfl,Ln.A,Ln.A⟩) (wV rfl (LnB.A) (wV rfl (LnB.A) wX))))))),allA⟩⟩
    ·have hiq:i < q:=by omega
     rcases i with _|i
     ·(repeat' ((try conv=>whnf);first|(with_reducible first|refine wT ?_|refine wF ?_|(refine wI (fun hq=>?_) (fun hq=>?_) <;> try simp only [zA,zE,zD,zJ,zB,zI,wK,wL] at hq)|refine wA ?_|refine wB ?_|refine wC ?_|refine wD ?_|refine wE ?_)|((with_reducible refine wN ?_ ?_);focus exact needA)|(with_reducible refine wG ?_)|(with_reducible refine wP ?_)))
      (try conv=>whnf)
      rcases hL:(people.getD 0 ps0).levels.length with _|L
      ·omega
      ·(repeat' ((try conv=>whnf);first|(with_reducible first|refine wT ?_|refine wF ?_|(refine wI (fun hq=>?_) (fun hq=>?_) <;> try simp only [zA,zE,zD,zJ,zB,zI,wK,wL] at hq)|refine wA ?_|refine wB ?_|refine wC ?_|refine wD ?_|refine wE ?_)|((with_reducible refine wN ?_ ?_);focus exact needA)|(with_reducible refine wG ?_)|(with_reducible refine wP ?_)))
       (try conv=>whnf)
       rcases hT:(people.getD 0 ps0).ties.length with _|T
       all_goals
        (repeat' ((try conv=>whnf);first|(with_reducible first|refine wT ?_|refine wF ?_|(refine wI (fun hq=>?_) (fun hq=>?_) <;> try simp only [zA,zE,zD,zJ,zB,zI,wK,wL] at hq)|refine wA ?_|refine wB ?_|refine wC ?_|refine wD ?_|refine wE ?_)|((with_reducible refine wN ?_ ?_);focus exact needA)|(with_reducible refine wG ?_)|(with_reducible refine wP ?_)))
        (try conv=>whnf)
        refine FWk.of [(1,.ptr 0 0),(2,.ptr 1 0),(3,.ptr 2 0),(4,AI (0:Nat)),(5,.ptr 3 0)] [.box 3 (cCrew f ⟨langs,people,laws⟩),.box 3 (ofL [AI 0,nilS,nilS]),.box 3 (ofL [AI langs,nilS,cpLaws laws]),.box 6 (cPers people 0)] [0,1,2,3] (wO rfl rfl rfl (wV rfl (LnB.A) (wV rfl (LnB.A) (wV rfl (LnB.A) (wV rfl (LnB.boxN ⟨⟨⟨⟨⟨⟨True.intro,by first|exact Ln.slZ (by assumption)|exact Ln.pubD (by omega) (goneB rfl) rfl (by omega) (by omega) (fun k hk o ho=>by simp [appc])|fail⟩,Ln.A⟩,Ln.A⟩,by first|exact Ln.slZ (by assumption)|exact Ln.pubD (by omega) (goneB rfl) rfl (by omega) (by omega) (fun k hk o ho=>by simp [appc])|fail⟩,Ln.A⟩,Ln.A⟩) wX))))) ⟨Ln.A,Ln.A,Ln.A,Ln.A,Ln.A,True.intro⟩ ?_
        (repeat' ((try conv=>whnf);first|(with_reducible first|refine wT ?_|refine wF ?_|(refine wI (fun hq=>?_) (fun hq=>?_) <;> try simp only [zA,zE,zD,zJ,zB,zI,wK,wL] at hq)|refine wA ?_|refine wB ?_|refine wC ?_|refine wD ?_|refine wE ?_)|((with_reducible refine wN ?_ ?_);focus exact needA)|(with_reducible refine wG ?_)|(with_reducible refine wP ?_)))
        (try conv=>whnf)
        exact ⟨⟨(false,0 + 1),⟨hlt,fun _=>hiq,(by intro h;cases h)⟩,by show people.length - (0 + 1) < people.length - 0;omega,[0,1,2,4],(wO rfl rfl rfl (wV rfl (LnB.A) (wV rfl (LnB.A) (wV rfl (LnB.A) (wV rfl (LnB.app (fun k hk=>absurd hk (Nat.not_lt_zero k)) (fun o ho=>rfl)) wX))))),allA⟩⟩
     ·(repeat' ((try conv=>whnf);first|(with_reducible first|refine wT ?_|refine wF ?_|(refine wI (fun hq=>?_) (fun hq=>?_) <;> try simp only [zA,zE,zD,zJ,zB,zI,wK,wL] at hq)|refine wA ?_|refine wB ?_|refine wC ?_|refine wD ?_|refine wE ?_)|((with_reducible refine wN ?_ ?_);focus exact needA)|(with_reducible refine wG ?_)|(with_reducible refine wP ?_)))
      (try conv=>whnf)
      rcases hL:(people.getD (i + 1) ps0).levels.length with _|L
      ·omega
      ·(repeat' ((try conv=>whnf);first|(with_reducible first|refine wT ?_|refine wF ?_|(refine wI (fun hq=>?_) (fun hq=>?_) <;> try simp only [zA,zE,zD,zJ,zB,zI,wK,wL] at hq)|refine wA ?_|refine wB ?_|refine wC ?_|refine wD ?_|refine wE ?_)|((with_reducible refine wN ?_ ?_);focus exact needA)|(with_reducible refine wG ?_)|(with_reducible refine wP ?_)))
       (try conv=>whnf)
       rcases hT:(people.getD (i + 1) ps0).ties.length with _|T
       all_goals
        (repeat' ((try conv=>whnf);first|(with_reducible first|refine wT ?_|refine wF ?_|(refine wI (fun hq=>?_) (fun hq=>?_) <;> try simp only [zA,zE,zD,zJ,zB,zI,wK,wL] at hq)|refine wA ?_|refine wB ?_|refine wC ?_|refine wD ?_|refine wE ?_)|((with_reducible refine wN ?_ ?_);focus exact needA)|(with_reducible refine wG ?_)|(with_reducible refine wP ?_)))
        (try conv=>whnf)
        refine FWk.of [(1,.ptr 0 0),(2,.ptr 1 0),(3,.ptr 2 0),(4,AI ((i + 1):Nat)),(5,.ptr 4 0)] [.box 3 (cCrew f ⟨langs,people,laws⟩),.box 3 (ofL [AI 0,nilS,nilS]),.box 3 (ofL [AI langs,.own 3 (i + 1),cpLaws laws]),rowP (i + 1) people,.box 6 (cPers people (i + 1))] [0,1,2,3,4] (wO rfl rfl rfl (wV rfl (LnB.A) (wV rfl (LnB.A) (wV rfl (LnB.A) (wV rfl (LnB.A) (wV rfl (LnB.boxN ⟨⟨⟨⟨⟨⟨True.intro,by first|exact Ln.slZ (by assumption)|exact Ln.pubD (by omega) (goneB rfl) rfl (by omega) (by omega) (fun k hk o ho=>by simp [appc])|fail⟩,Ln.A⟩,Ln.A⟩,by first|exact Ln.slZ (by assumption)|exact Ln.pubD (by omega) (goneB rfl) rfl (by omega) (by omega) (fun k hk o ho=>by simp [appc])|fail⟩,Ln.A⟩,Ln.A⟩) wX)))))) ⟨Ln.A,Ln.A,Ln.A,Ln.A,Ln.A,True.intro⟩ ?_
        (repeat' ((try conv=>whnf);first|(with_reducible first|refine wT ?_|refine wF ?_|(refine wI (fun hq=>?_) (fun hq=>?_) <;> try simp only [zA,zE,zD,zJ,zB,zI,wK,wL] at hq)|refine wA ?_|refine wB ?_|refine wC ?_|refine wD ?_|refine wE ?_)|((with_reducible refine wN ?_ ?_);focus exact needA)|(with_reducible refine wG ?_)|(with_reducible refine wP ?_)))
        (try conv=>whnf)
        exact ⟨⟨(false,i + 1 + 1),⟨hlt,fun _=>hiq,(by intro h;cases h)⟩,by show people.length - (i + 1 + 1) < people.length - (i + 1);omega,[0,1,2,5],(wO rfl rfl rfl (wV rfl (LnB.A) (wV rfl (LnB.A) (wV rfl (LnB.A) (wV rfl (LnB.app (fun _ _ _ _=>rfl) (fun o ho=>rfl)) wX))))),allA⟩⟩
   ·have hqi:=hb1 rfl
    skip
    ·(repeat' ((try conv=>whnf);first|(with_reducible first|refine wT ?_|refine wF ?_|(refine wI (fun hq=>?_) (fun hq=>?_) <;> try simp only [zA,zE,zD,zJ,zB,zI,wK,wL] at hq)|refine wA ?_|refine wB ?_|refine wC ?_|refine wD ?_|refine wE ?_)|((with_reducible refine wN ?_ ?_);focus exact needA)|(with_reducible refine wG ?_)|(with_reducible refine wP ?_)))
     (try conv=>whnf)
     rcases hL:(people.getD i ps0).levels.length with _|L
     ·omega
     ·(repeat' ((try conv=>whnf);first|(with_reducible first|refine wT ?_|refine wF ?_|(refine wI (fun hq=>?_) (fun hq=>?_) <;> try simp only [zA,zE,zD,zJ,zB,zI,wK,wL] at hq)|refine wA ?_|refine wB ?_|refine wC ?_|refine wD ?_|refine wE ?_)|((with_reducible refine wN ?_ ?_);focus exact needA)|(with_reducible refine wG ?_)|(with_reducible refine wP ?_)))
      (try conv=>whnf)
      rcases hT:(people.getD i ps0).ties.length with _|T
      all_goals
       (repeat' ((try conv=>whnf);first|(with_reducible first|refine wT ?_|refine wF ?_|(refine wI (fun hq=>?_) (fun hq=>?_) <;> try simp only [zA,zE,zD,zJ,zB,zI,wK,wL] at hq)|refine wA ?_|refine wB ?_|refine wC ?_|refine wD ?_|refine wE ?_)|((with_reducible refine wN ?_ ?_);focus exact needA)|(with_reducible refine wG ?_)|(with_reducible refine wP ?_)))
       (try conv=>whnf)
       refine FWk.of [(1,.ptr 0 0),(2,.ptr 1 0),(3,.ptr 2 0),(4,AI (i:Nat)),(5,.ptr 6 0)] [.box 3 (cCrew f ⟨langs,people,laws⟩),.box 3 (ofL [AI 0,nilS,nilS]),.box 3 (ofL [AI langs,.own 3 i,cpLaws laws]),.rwg i 6 (gC people q (cQ1 4 5 (people.getD q ps0))),rowJ (people.getD q ps0).levels,rowJ (people.getD q ps0).ties,.box 6 (cPers people i)] [0,1,2,3,4,5,6] (wO rfl rfl rfl (wV rfl (LnB.A) (wV rfl (LnB.A) (wV rfl (LnB.A) (wV rfl (gC_ref ⟨Ln.ownE rfl rfl,Ln.A,Ln.A,by first|exact Ln.ownE rfl rfl|exact Ln.sameB _ rfl|fail,Ln.A,Ln.A⟩) (wV rfl (LnB.A) (wV rfl (LnB.A) (wV rfl (LnB.boxN ⟨⟨⟨⟨⟨⟨True.intro,by first|exact Ln.slZ (by assumption)|exact Ln.pubD (by omega) (goneB rfl) rfl (by omega) (by omega) (fun k hk o ho=>by simp [appc])|fail⟩,Ln.A⟩,Ln.A⟩,by first|exact Ln.slZ (by assumption)|exact Ln.pubD (by omega) (goneB rfl) rfl (by omega) (by omega) (fun k hk o ho=>by simp [appc])|fail⟩,Ln.A⟩,Ln.A⟩) wX)))))))) ⟨Ln.A,Ln.A,Ln.A,Ln.A,Ln.A,True.intro⟩ ?_
       (repeat' ((try conv=>whnf);first|(with_reducible first|refine wT ?_|refine wF ?_|(refine wI (fun hq=>?_) (fun hq=>?_) <;> try simp only [zA,zE,zD,zJ,zB,zI,wK,wL] at hq)|refine wA ?_|refine wB ?_|refine wC ?_|refine wD ?_|refine wE ?_)|((with_reducible refine wN ?_ ?_);focus exact needA)|(with_reducible refine wG ?_)|(with_reducible refine wP ?_)))
       (try conv=>whnf)
       exact ⟨⟨(true,i + 1),⟨hlt,(by intro h;cases h),fun _=>Nat.lt_succ_of_lt hqi⟩,by show people.length - (i + 1) < people.length - i;omega,[0,1,2,7,4,5],(wO rfl rfl rfl (wV rfl (LnB.A) (wV rfl (LnB.A) (wV rfl (LnB.A) (wV rfl (gC_more hqi ⟨Ln.ownE rfl rfl,Ln.A,Ln.A,Ln.ownE rfl rfl,Ln.A,Ln.A⟩ ⟨Ln.A,Ln.A,Ln.A,Ln.A,Ln.A,Ln.A⟩) (wV rfl (LnB.A) (wV rfl (LnB.A) wX))))))),allA⟩⟩
  ·obtain rfl:i = people.length:=by omega
   rcases b with _|_
   ·have:=hb0 rfl;omega
   (repeat' ((try conv=>whnf);first|(with_reducible first|refine wT ?_|refine wF ?_|(refine wI (fun hq=>?_) (fun hq=>?_) <;> try simp only [zA,zE,zD,zJ,zB,zI,wK,wL] at hq)|refine wA ?_|refine wB ?_|refine wC ?_|refine wD ?_|refine wE ?_)|((with_reducible refine wN ?_ ?_);focus exact needA)|(with_reducible refine wG ?_)|(with_reducible refine wP ?_)))
   (try conv=>whnf)
   exact ⟨⟨.agg 3 (ofL [AI langs,.own 0 people.length,cpLaws laws]),[.rwg people.length 6 (gC people q (cQ1 1 2 (people.getD q ps0))),rowJ (people.getD q ps0).levels,rowJ (people.getD q ps0).ties],[3,4,5],(wO rfl rfl rfl (wV rfl (gC_ref ⟨Ln.ownE rfl rfl,Ln.A,Ln.A,Ln.ownE rfl rfl,Ln.A,Ln.A⟩) (wV rfl (LnB.A) (wV rfl (LnB.A) wX)))),Ln.aggN ⟨⟨⟨True.intro,Ln.A⟩,Ln.A⟩,Ln.A⟩,rfl,rfl⟩⟩
end Go.Proofs.Ytdipcdallenmkaa

namespace Go.Proofs.Ytdipcdallenmkaa
open Go.RowKit

abbrev cEs (xf:PFl) (xm:Person) (xp xt xfi xc xl xu:Int):Nat → AV:=ofL [aInts xf.zl xf.el xm.levels,AI xm.fields,AI xm.clears,aInts xf.zt xf.et xm.ties,.bool xm.deaf,AI xm.fee,AI xp,AI xt,AI xfi,AI xc,AI xl,AI xu]
theorem copy_one (f:CFl) (c:Crew) (hs:SmallC c) (hp:0 < c.people.length):ACall Try.prog 13 [aCrew f c] [] (fun v h=>v = .agg 3 (ofL [AI c.langs,.own 0 c.people.length,cpLaws c.laws]) ∧ h = [rowP c.people.length c.people]):=by
 have:=copy_own f c hs
 revert this
 generalize c.people.length = n at hp
 rcases n with _|n
 ·omega
 ·exact id
def flP (c:Crew) (g:PFl):CFl:=⟨false,false,false,decide (c.laws.length = 0),fun k=>if k < c.people.length then pfP (c.people.getD k ps0) else g⟩
def flG (c:Crew) (q:Nat):CFl:=⟨false,false,false,decide (c.laws.length = 0),fun k=>if k = q then ⟨false,false,false,false⟩ else pfP (c.people.getD k ps0)⟩
theorem plus_new {c:Crew} {x:Person}:(c.plus x).people.getD c.people.length ps0 = x:=by
 unfold Crew.plus
 simp [List.getD]
section
variable {σ:Nat → Nat → Prop} {Bp:Nat → Prop} {H:List AB}
theorem plus_cells {c:Crew} {xf:PFl} {xm:Person} {L:Nat → Nat → AV} (hL:∀ o,o < 6 → cPerson xf xm o = L 0 o) {k:Nat} (hk:k < c.people.length + 1) {o:Nat} (ho:o < 6):cPerson ((flP c xf).pf k) ((c.plus xm).people.getD k ps0) o = appc c.people.length (cPers c.people) L k o:=by
 by_cases h:k < c.people.length
 ·rw [plus_get h,appc,if_pos h]
  show cPerson (if k < c.people.length then pfP (c.people.getD k ps0) else xf) _ o = _
  rw [if_pos h]
 ·obtain rfl:k = c.people.length:=by omega
  rw [plus_new,appc,if_neg h,Nat.sub_self,← hL o ho]
  show cPerson (if _ < c.people.length then pfP _ else xf) _ o = _
  rw [if_neg h]
theorem off6 {p:Nat → Prop} (h0:p 0) (h1:p 1) (h2:p 2) (h3:p 3) (h4:p 4) (h5:p 5):∀ o,o < 6 → p o:=fun o ho=>by
 rcases (show o = 0 ∨ o = 1 ∨ o = 2 ∨ o = 3 ∨ o = 4 ∨ o = 5 by omega) with rfl|rfl|rfl|rfl|rfl|rfl <;> assumption
theorem gC_ln {l:List Person} {q:Nat} {c c':Nat → AV} (h:Ln6 σ Bp H c c') {o:Nat} (ho:o < 6):Ln σ Bp H (gC l q c q o) (c' o):=by rw [gC_at];exact h.get ho
theorem pers_pure (g:PFl) (p:Person):∀ o,o < 6 → (cPerson g p o).pure:=off6 (pureB_ok _ rfl) (pureB_ok _ rfl) (pureB_ok _ rfl) (pureB_ok _ rfl) (pureB_ok _ rfl) (pureB_ok _ rfl)
theorem gC_ren {l:List Person} {n q b:Nat} {c c':Nat → AV} (h:Ln6 σ Bp H (fun o=>ren [] b (c o)) c'):LnB σ Bp H (.rwg n 6 (fun k o=>ren [] b (gC l q c k o))) (.rwg n 6 (gC l q c')):=by
 refine ⟨rfl,Nat.le_refl _,fun k hk o ho=>?_⟩
 show Ln σ Bp H (ren [] b (gC l q c k o)) (gC l q c' k o)
 by_cases e:k = q
 ·subst e;rw [gC_at,gC_at];exact h.get ho
 ·rw [gC_off e,gC_off e]
  rw [ren_pure _ (off6 (p:=fun o=>(cPers l k o).pureB = true) rfl rfl rfl rfl rfl rfl o ho)]
  exact pers_same l k ho
theorem LnB.box6 {c c':Nat → AV} (h:∀ o,o < 6 → Ln σ Bp H (c o) (c' o)):LnB σ Bp H (.box 6 c) (.box 6 c'):=⟨rfl,h⟩
theorem Ln.pubG {d n n' N:Nat} {C c':Nat → Nat → AV} (h:Bp d) (hd:H[d]? = some (.rwg N 6 C)) (e:n' = n) (hn:n ≤ N) (hc:∀ k,k < n → ∀ o,o < 6 → Ln σ Bp H (C k o) (c' k o)) (hp:∀ k,k < n → ∀ o,o < 6 → (c' k o).pure):Ln σ Bp H (.own d n) (.sl false false n' 6 c'):=by
 subst e;exact Ln.pubg d _ N 6 C c' h hd hn hc hp
theorem gain_cells {c:Crew} {q:Nat} {g:Gain} (hq:q < c.people.length) {c0 new:Nat → AV} (h6:Ln6 σ Bp H new (cPerson ⟨false,false,false,false⟩ ((c.people.getD q ps0).gain g))) (k:Nat) {o:Nat} (ho:o < 6):Ln σ Bp H (updRm (gC c.people q c0) q new k o) (cPerson ((flG c q).pf k) ((c.gain q g).people.getD k ps0) o):=by
 rw [gain_get hq]
 show Ln σ Bp H _ (cPerson (if k = q then ⟨false,false,false,false⟩ else pfP (c.people.getD k ps0)) _ o)
 simp only [updRm]
 by_cases e:k = q
 ·subst e;rw [if_pos rfl,if_pos rfl,if_pos rfl];exact h6.get ho
 ·rw [if_neg e,if_neg e,if_neg e,gC_off e];exact pers_same c.people k ho
end
def levG (l:List Int) (o:Option Nat) (u:Int):List Int:=match o with|none=>l|some a=>l.set a (min 5 (l.getD a 0 + u))
def tieG (l:List Int) (o:Option Nat):List Int:=match o with|none=>l|some i=>delT l i
theorem gain_eq (p:Person) (g:Gain):p.gain g = ⟨levG p.levels g.lang g.up,((p.fields.toNat ||| g.fields:Nat):Int),((p.clears.toNat ||| g.clears:Nat):Int),tieG p.ties g.tie,p.deaf,p.fee⟩:=by
 unfold Person.gain levG tieG
 cases g.lang <;> cases g.tie <;> rfl
theorem levG_len (l:List Int) (o:Option Nat) (u:Int):(levG l o u).length = l.length:=by
 unfold levG
 cases o with
 | none=>rfl
 | some a=>exact List.length_set
theorem levG_get {l:List Int} {a:Nat} {u:Int} (h:a < l.length) (k:Nat):(levG l (some a) u).getD k 0 = if k = a then min 5 (l.getD a 0 + u) else l.getD k 0:=by
 show (l.set a (min 5 (l.getD a 0 + u))).getD k 0 = _
 simp only [List.getD,List.getElem?_set,h,if_true]
 by_cases e:a = k
 ·subst e;simp
 ·rw [if_neg e,if_neg (fun h=>e h.symm)]
theorem lev_cell {lam l:List Int} {a:Nat} {v:Int} (h:∀ k,lam.getD k 0 = if k = a then v else l.getD k 0) {k o:Nat} (ho:o < 1):AI (lam.getD k 0) = updRm (fun k _=>AI (l.getD k 0)) a (fun _=>AI v) k o:=by
 rw [h]
 simp only [updRm]
 by_cases e:k = a
 ·rw [if_pos e,if_pos e]
 ·rw [if_neg e,if_neg e]
theorem delT_length {l:List Int} {t:Nat} (h:t < l.length):(delT l t).length = t + (l.length - (t + 1)):=by
 unfold delT
 rw [List.length_append,List.length_take,List.length_drop];omega
theorem delT_get {l:List Int} {t k:Nat} (h:t < l.length):(delT l t).getD k 0 = if k < t then l.getD k 0 else l.getD (t + 1 + (k - t)) 0:=by
 unfold delT
 have hl:(l.take t).length = t:=by rw [List.length_take];omega
 by_cases hk:k < t
 ·rw [if_pos hk]
  simp only [List.getD,List.getElem?_append_left (show k < (l.take t).length by omega),List.getElem?_take,hk,if_true]
 ·rw [if_neg hk]
  simp only [List.getD,List.getElem?_append_right (show (l.take t).length ≤ k by omega),List.getElem?_drop,hl]
/-- The chosen place of a list, if there is one. -/
def pick (x:Int) (n:Nat):Option Nat:=if 0 ≤ x ∧ x < n then some x.toNat else none
theorem teamE_plus {c:Crew} {j:Job} {x:Person} (h0:checkT c j = 0) (hb:(bestT c j).1 ≠ 0) (hok:(c.plus x).ok = true):∃ a:Int,∃ n:Int,teamE (c.plus x) j = (a,n,0) ∧ n ≤ (bestT c j).2:=by
 have he:=(plus_easier c x j).best hb
 have hj:Job.ok (c.plus x) j = true:=(checkT_0.1 h0).2
 refine ⟨((bestT (c.plus x) j).1:Nat),(bestT (c.plus x) j).2,?_,he.2⟩
 unfold teamE
 rw [if_pos (checkT_0.2 ⟨hok,hj⟩),if_neg he.1]
theorem teamE_gain {c:Crew} {j:Job} {q:Nat} {g:Gain} (h0:checkT c j = 0) (hq:q < c.people.length) (hb:(bestT c j).1 ≠ 0) (hu:0 ≤ g.up) (hf:g.fields < 256) (hk:g.clears < 256):∃ a:Int,∃ n:Int,teamE (c.gain q g) j = (a,n,0) ∧ n ≤ (bestT c j).2:=by
 obtain ⟨hc,hj⟩:=checkT_0.1 h0
 obtain ⟨d1,d2,d3,d4,d5⟩:=crew_d hc
 have hp:=d4 q hq
 have h5:∀ x ∈ (c.people.getD q ps0).levels,x ≤ 5:=fun x hx=>by
  unfold Person.ok at hp
  simp only [Bool.and_eq_true,decide_eq_true_eq,List.all_eq_true,inB] at hp
  exact (hp.1.1.1.1.1.2 x hx).2
 have he:=(gain_easier hq hu h5 j).best hb
 refine ⟨((bestT (c.gain q g) j).1:Nat),(bestT (c.gain q g) j).2,?_,he.2⟩
 unfold teamE
 rw [if_pos (checkT_0.2 ⟨gain_ok hc hq hu hf hk,hj⟩),if_neg he.1]
set_option maxHeartbeats 8000000
set_option maxRecDepth 100000
end Go.Proofs.Ytdipcdallenmkaa
