/- Teams: how many steps it is from one language to another / Teams: the reference's far. / Teams: the reference's broken. / Teams: the reference's checkTeam, Broken, Fits, Team, Kept, Why. / Teams: the reference's Vital (printed by gen_teg.py). / Teams: the reference's Chain. / Teams: the answers in a form that can be computed; the chapter's example / Teams: the laws' helpers: sameInts, size, Far, ready. -/
import Derived.Test.YtdipcdallenmkaaBt6
set_option linter.unusedSimpArgs false
set_option linter.unusedVariables false
namespace Go.Proofs.Ytdipcdallenmkaa

def Walk (n:Nat) (R:Nat → Nat → Bool):Nat → Nat → Nat → Prop
 | 0,a,b=>a = b
 | k + 1,a,b=>∃ c,c < n ∧ Walk n R k a c ∧ R c b = true
def IsD (n:Nat) (R:Nat → Nat → Bool) (a b:Nat) (d:Int):Prop:=(d = -1 ∧ ∀ k,¬ Walk n R k a b) ∨ (∃ k:Nat,d = k ∧ Walk n R k a b ∧ ∀ m,Walk n R m a b → k ≤ m)
theorem least {p:Nat → Prop}:∀ k,p k → ∃ m,m ≤ k ∧ p m ∧ ∀ i,p i → m ≤ i:=by
 intro k
 induction k using Nat.strongRecOn with
 | _ k ih =>
  intro hk
  by_cases h:∃ i,i < k ∧ p i
  ·obtain ⟨i,hi,hp⟩:=h
   obtain ⟨m,h1,h2,h3⟩:=ih i hi hp
   exact ⟨m,by omega,h2,h3⟩
  ·exact ⟨k,Nat.le_refl _,hk,fun i hp=>by
    rcases Nat.lt_or_ge i k with h'|h'
    ·exact (h ⟨i,h',hp⟩).elim
    ·exact h'⟩
theorem isD_ex (n:Nat) (R:Nat → Nat → Bool) (a b:Nat):∃ d,IsD n R a b d:=by
 by_cases h:∃ k,Walk n R k a b
 ·obtain ⟨k,hk⟩:=h
  obtain ⟨m,_,h2,h3⟩:=least (p:=fun k=>Walk n R k a b) k hk
  exact ⟨m,.inr ⟨m,rfl,h2,h3⟩⟩
 ·exact ⟨-1,.inl ⟨rfl,fun k hk=>h ⟨k,hk⟩⟩⟩
noncomputable def dist (n:Nat) (R:Nat → Nat → Bool) (a b:Nat):Int:=Classical.choose (isD_ex n R a b)
theorem dist_spec (n:Nat) (R:Nat → Nat → Bool) (a b:Nat):IsD n R a b (dist n R a b):=Classical.choose_spec (isD_ex n R a b)
theorem isD_one {n:Nat} {R:Nat → Nat → Bool} {a b:Nat} {d d':Int} (h:IsD n R a b d) (k:IsD n R a b d'):d = d':=by
 rcases h with ⟨rfl,h⟩|⟨x,rfl,h1,h2⟩
 ·rcases k with ⟨rfl,_⟩|⟨y,_,k1,_⟩
  ·rfl
  ·exact (h y k1).elim
 ·rcases k with ⟨_,k⟩|⟨y,rfl,k1,k2⟩
  ·exact (k x h1).elim
  ·have:=h2 y k1;have:=k2 x h1;omega
theorem dist_eq {n:Nat} {R:Nat → Nat → Bool} {a b:Nat} {d:Int} (h:IsD n R a b d):dist n R a b = d:=isD_one (dist_spec n R a b) h
noncomputable def distL (n:Nat) (R:Nat → Nat → Bool) (a:Nat):List Int:=(List.range n).map (dist n R a)
theorem dist_walk {n:Nat} {R:Nat → Nat → Bool} {a b k:Nat} (h:Walk n R k a b):0 ≤ dist n R a b ∧ dist n R a b ≤ k:=by
 rcases dist_spec n R a b with ⟨_,h1⟩|⟨m,h1,_,h3⟩
 ·exact (h1 k h).elim
 ·have:=h3 k h;omega
theorem walk_dist {n:Nat} {R:Nat → Nat → Bool} {a b:Nat} (h:0 ≤ dist n R a b):∃ k:Nat,dist n R a b = k ∧ Walk n R k a b ∧ ∀ m,Walk n R m a b → k ≤ m:=by
 rcases dist_spec n R a b with ⟨h0,_⟩|h1
 ·omega
 ·exact h1
theorem dist_ge (n:Nat) (R:Nat → Nat → Bool) (a b:Nat):-1 ≤ dist n R a b:=by
 rcases dist_spec n R a b with ⟨h0,_⟩|⟨k,h1,_⟩ <;> omega
theorem dist_self (n:Nat) (R:Nat → Nat → Bool) (a:Nat):dist n R a a = 0:=dist_eq (.inr ⟨0,rfl,rfl,fun _ _=>Nat.zero_le _⟩)
theorem dist_zero {n:Nat} {R:Nat → Nat → Bool} {a b:Nat} (h:dist n R a b = 0):a = b:=by
 obtain ⟨k,h1,h2,_⟩:=walk_dist (n:=n) (R:=R) (a:=a) (b:=b) (by omega)
 obtain rfl:k = 0:=by omega
 exact h2
theorem dist_step {n:Nat} {R:Nat → Nat → Bool} {a b c:Nat} (hb:b < n) (h:0 ≤ dist n R a b) (hR:R b c = true):0 ≤ dist n R a c ∧ dist n R a c ≤ dist n R a b + 1:=by
 obtain ⟨k,h1,h2,_⟩:=walk_dist h
 have:=dist_walk (n:=n) (R:=R) (a:=a) (b:=c) (k:=k + 1) ⟨b,hb,h2,hR⟩
 omega
theorem dist_pred {n:Nat} {R:Nat → Nat → Bool} {a b:Nat} (h:0 < dist n R a b):∃ c,c < n ∧ dist n R a c = dist n R a b - 1 ∧ R c b = true:=by
 obtain ⟨k,h1,h2,h3⟩:=walk_dist (n:=n) (R:=R) (a:=a) (b:=b) (by omega)
 obtain ⟨m,rfl⟩:∃ m,k = m + 1:=⟨k - 1,by omega⟩
 obtain ⟨c,hc,hw,hR⟩:=h2
 have d1:=dist_walk hw
 have d2:=dist_step hc d1.1 hR
 exact ⟨c,hc,by omega,hR⟩
theorem levels {n:Nat} {R:Nat → Nat → Bool} {a:Nat}:∀ (k:Nat) (b:Nat),b < n → dist n R a b = k → ∀ m,m ≤ k → ∃ y,y < n ∧ dist n R a y = (m:Nat):=by
 intro k
 induction k with
 | zero=>intro b hb h m hm;exact ⟨b,hb,by rw [h,Nat.le_zero.1 hm]⟩
 | succ k ih =>
  intro b hb h m hm
  by_cases hmk:m = k + 1
  ·exact ⟨b,hb,by rw [h,hmk]⟩
  ·obtain ⟨c,hc,h1,_⟩:=dist_pred (n:=n) (R:=R) (a:=a) (b:=b) (by omega)
   exact ih c hc (by omega) m (by omega)
theorem pigeon : ∀ (n:Nat) (D:Nat → Nat) (S:List Nat),S.Nodup → (∀ v ∈ S,∃ x,x < n ∧ D x = v) → S.length ≤ n
 | 0,D,S,_,h=>by
  cases S with
  | nil=>exact Nat.le_refl _
  | cons v S=>obtain ⟨x,hx,_⟩:=h v (by simp);omega
 | n + 1,D,S,hn,h=>by
  have h1:=pigeon n D (S.erase (D n)) (hn.erase _) (fun v hv=>by
   obtain ⟨hne,hv⟩:=(hn.mem_erase_iff).1 hv
   obtain ⟨x,hx,hD⟩:=h v hv
   rcases Nat.lt_or_ge x n with h'|h'
   ·exact ⟨x,h',hD⟩
   ·obtain rfl:x = n:=by omega
    exact (hne hD.symm).elim)
  have:S.length ≤ (S.erase (D n)).length + 1:=by rw [List.length_erase];split <;> omega
  omega
theorem dist_lt {n:Nat} {R:Nat → Nat → Bool} {a b:Nat} (hb:b < n):dist n R a b < n:=by
 have h0:=dist_ge n R a b
 by_cases h:0 ≤ dist n R a b
 ·obtain ⟨k,h1,_⟩:=walk_dist h
  have:=pigeon n (fun x=>(dist n R a x).toNat) (List.range (k + 1)) List.nodup_range (fun v hv=>by
   obtain ⟨y,hy,h2⟩:=levels k b hb h1 v (by simp at hv;omega)
   exact ⟨y,hy,by rw [h2];rfl⟩)
  simp at this
  omega
 ·omega
/-- The rounds of the reference. -/
def capD (r d:Int):Int:=if d ≤ r then d else -1
def Inv1 (n:Nat) (R:Nat → Nat → Bool) (a:Nat) (r:Nat) (g:Nat → Int):Prop:=∀ x,x < n → g x = capD r (dist n R a x)
def Inv2 (n:Nat) (R:Nat → Nat → Bool) (a:Nat) (r p q:Nat) (g:Nat → Int):Prop :=
 (∀ x,x < n → g x = capD r (dist n R a x) ∨ (dist n R a x = r + 1 ∧ g x = r + 1)) ∧ ∀ y x,y < n → x < n → (y < p ∨ (y = p ∧ x < q)) → dist n R a y = r → R y x = true → 0 ≤ g x
def updI (g:Nat → Int) (b:Nat) (v:Int):Nat → Int:=fun k=>if k = b then v else g k
section
variable {n:Nat} {R:Nat → Nat → Bool} {a r p q:Nat} {g:Nat → Int}
theorem inv1_start : Inv1 n R a 0 (updI (fun _=>-1) a 0):=fun x _=>by
 unfold updI capD
 by_cases h:x = a
 ·subst h;rw [if_pos rfl,dist_self];rfl
 ·rw [if_neg h]
  have:=dist_ge n R a x
  have h2:dist n R a x ≠ 0:=fun e=>h (dist_zero e).symm
  show (-1:Int) = _
  split <;> omega
theorem inv2_start (h:Inv1 n R a r g):Inv2 n R a r 0 0 g:=⟨fun x hx=>.inl (h x hx),fun y x _ _ hp=>by omega⟩
theorem inv2_no (h:Inv2 n R a r p q g) (hp:p < n) (hn:¬ (g p = r ∧ g q < 0 ∧ R p q = true)):Inv2 n R a r p (q + 1) g :=
 ⟨h.1,fun y x hy hx hq hd hR=>by
  by_cases hc:y = p ∧ x = q
  ·obtain ⟨rfl,rfl⟩:=hc
   have h1:=h.1 y hy
   have:g y = r:=by
    rw [hd] at h1
    unfold capD at h1
    rw [if_pos (Int.le_refl _)] at h1
    omega
   by_cases h':g x < 0
   ·exact (hn ⟨this,h',hR⟩).elim
   ·omega
  ·exact h.2 y x hy hx (by omega) hd hR⟩
theorem inv2_yes (h:Inv2 n R a r p q g) (hp:p < n) (hq:q < n) (h1:g p = r) (h2:g q < 0) (h3:R p q = true):Inv2 n R a r p (q + 1) (updI g q (r + 1)):=by
 have hdp:dist n R a p = r:=by
  rcases h.1 p hp with e|⟨_,e⟩
  ·have:=dist_ge n R a p
   rw [h1] at e;unfold capD at e;split at e <;> omega
  ·omega
 have hst:=dist_step (n:=n) (R:=R) (a:=a) hp (by omega) h3
 have hdq:dist n R a q = r + 1:=by
  rcases h.1 q hq with e|⟨e,_⟩
  ·unfold capD at e;split at e <;> omega
  ·exact e
 refine ⟨fun x hx=>?_,fun y x hy hx hc hd hR=>?_⟩
 ·unfold updI
  by_cases e:x = q
  ·subst e;rw [if_pos rfl];exact .inr ⟨hdq,rfl⟩
  ·rw [if_neg e];exact h.1 x hx
 ·unfold updI
  by_cases e:x = q
  ·rw [if_pos e];omega
  ·rw [if_neg e];exact h.2 y x hy hx (by omega) hd hR
theorem inv2_row (h:Inv2 n R a r p n g):Inv2 n R a r (p + 1) 0 g:=⟨h.1,fun y x hy hx hc hd hR=>h.2 y x hy hx (by omega) hd hR⟩
theorem inv2_end (h:Inv2 n R a r n 0 g):Inv1 n R a (r + 1) g:=fun x hx=>by
 have h0:=dist_ge n R a x
 rcases h.1 x hx with e|⟨e1,e2⟩
 ·by_cases hc:dist n R a x = r + 1
  ·obtain ⟨y,hy,hd,hR⟩:=dist_pred (n:=n) (R:=R) (a:=a) (b:=x) (by omega)
   have:=h.2 y x hy hx (.inl hy) (by omega) hR
   rw [e] at this
   unfold capD at this
   rw [if_neg (by omega)] at this
   omega
  ·rw [e];unfold capD
   split <;> split <;> omega
 ·rw [e2];unfold capD;rw [if_pos (by omega)];omega
theorem inv1_end (h:Inv1 n R a n g) {x:Nat} (hx:x < n):g x = dist n R a x:=by
 rw [h x hx];unfold capD;rw [if_pos];have:=dist_lt (R:=R) (a:=a) hx;omega
end
/-- The way back is as long. -/
theorem walk_app {n:Nat} {R:Nat → Nat → Bool} {a b c:Nat}:∀ {k:Nat},a < n → b < n → R a b = true → Walk n R k b c → Walk n R (k + 1) a c
 | 0,ha,hb,h,e=>by
  have e:b = c:=e
  subst e;exact ⟨a,ha,rfl,h⟩
 | k + 1,ha,hb,h,⟨d,hd,hw,hR⟩=>⟨d,hd,walk_app ha hb h hw,hR⟩
theorem walk_back {n:Nat} {R:Nat → Nat → Bool} (hs:∀ a b,R a b = R b a) {a:Nat} (ha:a < n):∀ {k b:Nat},b < n → Walk n R k a b → Walk n R k b a
 | 0,_,_,e=>e.symm
 | k + 1,b,hb,⟨c,hc,hw,hR⟩=>walk_app hb hc (by rw [hs];exact hR) (walk_back hs ha hc hw)
theorem dist_back {n:Nat} {R:Nat → Nat → Bool} (hs:∀ a b,R a b = R b a) {a b:Nat} (ha:a < n) (hb:b < n):dist n R a b = dist n R b a:=by
 refine dist_eq ?_
 rcases dist_spec n R b a with ⟨h1,h2⟩|⟨k,h1,h2,h3⟩
 ·exact .inl ⟨h1,fun k hw=>h2 k (walk_back hs ha hb hw)⟩
 ·exact .inr ⟨k,h1,walk_back hs hb ha h2,fun m hm=>h3 m (walk_back hs ha hb hm)⟩
theorem walk_mono {n:Nat} {R R':Nat → Nat → Bool} (h:∀ a b,R a b = true → R' a b = true) {a:Nat}:∀ {k b:Nat},Walk n R k a b → Walk n R' k a b
 | 0,_,e=>e
 | _ + 1,_,⟨c,hc,hw,hR⟩=>⟨c,hc,walk_mono h hw,h _ _ hR⟩
theorem dist_mono {n:Nat} {R R':Nat → Nat → Bool} (h:∀ a b,R a b = true → R' a b = true) {a b:Nat} (hd:0 ≤ dist n R a b):0 ≤ dist n R' a b ∧ dist n R' a b ≤ dist n R a b:=by
 obtain ⟨k,h1,h2,_⟩:=walk_dist hd
 have:=dist_walk (walk_mono h h2)
 omega
end Go.Proofs.Ytdipcdallenmkaa

namespace Go.Proofs.Ytdipcdallenmkaa
open Go.RowKit

abbrev rowG (n:Nat) (g:Nat → Int):AB:=.row n 1 (fun k _=>AI (g k))
theorem LnB.setG {σ:Nat → Nat → Prop} {Bp:Nat → Prop} {H:List AB} {n b:Nat} {g:Nat → Int} {v:Int}:LnB σ Bp H (.row n 1 (updRm (fun k _=>AI (g k)) b (elemC (AI v)))) (rowG n (updI g b v)):=by
 refine LnB.rowE (Nat.le_refl _) (fun k hk o ho=>?_)
 simp only [updRm,elemC,updI]
 split <;> rfl
theorem getD_range {β:Type} {f:Nat → β} {n k:Nat} {d':β} (h:k < n):((List.range n).map f).getD k d' = f k:=by
 simp [List.getD,h]
def relT (c:Crew) (s:Nat) (level:Int):Nat → Nat → Bool:=joinsT c s level
set_option maxHeartbeats 4000000
set_option maxRecDepth 100000
theorem refFar_ok (f:CFl) (c:Crew) (s:Nat) (level:Int) (a n:Nat) (hc:c.ok = true) (hn:c.langs = n) (ha:a < n):ACall Try.prog 61 [aCrew f c,AI s,AI level,AI a] [] (fun r h=>r = aInts false false (distL n (relT c s level) a) ∧ h = []):=by
 obtain ⟨d1,d2,d3,d4,d5⟩:=crew_d hc
 (refine fcall_of mixed Try.func61 rfl (by decide) (hs:={}) ?k (ac:=?ac) ?c (rs:=?rs) ?r ?l ?H;(case k=>kernel_rfl);(case c=>(conv=>(lhs;cbv)));(case r=>(conv=>(lhs;cbv)));(case l=>exact Nat.le_of_ble_eq_true rfl))
 (repeat' ((try conv=>whnf);first|(with_reducible first|refine wT ?_|refine wF ?_|(refine wI (fun hq=>?_) (fun hq=>?_) <;> try simp only [zA,zE,zD,zJ,zB,zI,wK,wL] at hq)|refine wA ?_|refine wB ?_|refine wC ?_|refine wD ?_|refine wE ?_)|((with_reducible refine wN ?_ ?_);focus exact needA)|(with_reducible refine wG ?_)|(with_reducible refine wP ?_)))
 refine FLoop.of (ACalls.mono _) (X:=Nat) (fun k=>[(1,AI s),(2,AI level),(3,AI a),(4,.ptr 0 0),(9,match k with|0=>nilS|m + 1=>.own 1 (m + 1)),(10,AI k)]) (fun k=>match k with
   | 0=>[.box 3 (cCrew f c)]
   | m + 1=>[.box 3 (cCrew f c),rowG (m + 1) (fun _=>-1)]) (fun k=>k ≤ n) (fun k=>n - k) 0 ⟨Nat.zero_le _,[0],Cut.A,allA⟩ ?_
 intro k hk
 by_cases hlt:k < n
 ·rcases k with _|k
  ·(repeat' ((try conv=>whnf);first|(with_reducible first|refine wT ?_|refine wF ?_|(refine wI (fun hq=>?_) (fun hq=>?_) <;> try simp only [zA,zE,zD,zJ,zB,zI,wK,wL] at hq)|refine wA ?_|refine wB ?_|refine wC ?_|refine wD ?_|refine wE ?_)|((with_reducible refine wN ?_ ?_);focus exact needA)|(with_reducible refine wG ?_)|(with_reducible refine wP ?_)))
   all_goals (try conv=>whnf)
   (exact ⟨⟨1,hlt,by show n - 1 < n - 0;omega,[0,1],Cut.A,allA⟩⟩)
  ·(repeat' ((try conv=>whnf);first|(with_reducible first|refine wT ?_|refine wF ?_|(refine wI (fun hq=>?_) (fun hq=>?_) <;> try simp only [zA,zE,zD,zJ,zB,zI,wK,wL] at hq)|refine wA ?_|refine wB ?_|refine wC ?_|refine wD ?_|refine wE ?_)|((with_reducible refine wN ?_ ?_);focus exact needA)|(with_reducible refine wG ?_)|(with_reducible refine wP ?_)))
   all_goals (try conv=>whnf)
   (exact ⟨⟨(k + 2),hlt,by show n - (k + 2) < n - (k + 1);omega,[0,2],Cut.A,allA⟩⟩)
 ·rcases k with _|k
  ·omega
  ·obtain rfl:n = k + 1:=by omega
   (repeat' ((try conv=>whnf);first|(with_reducible first|refine wT ?_|refine wF ?_|(refine wI (fun hq=>?_) (fun hq=>?_) <;> try simp only [zA,zE,zD,zJ,zB,zI,wK,wL] at hq)|refine wA ?_|refine wB ?_|refine wC ?_|refine wD ?_|refine wE ?_)|((with_reducible refine wN ?_ ?_);focus exact needA)|(with_reducible refine wG ?_)|(with_reducible refine wP ?_)))
   all_goals (try conv=>whnf)
   refine FLoop.of2 (ACalls.mono _) (fun (r:Nat) (g:Nat → Int)=>[(1,AI s),(2,AI level),(4,.ptr 0 0),(9,.own 1 (k + 1)),(11,AI r)]) (fun r g=>[.box 3 (cCrew f c),rowG (k + 1) g]) (fun r g=>r ≤ k + 1 ∧ Inv1 (k + 1) (relT c s level) a r g) (fun r _=>k + 1 - r) 0 (updI (fun _=>-1) a 0) ⟨⟨Nat.zero_le _,inv1_start⟩,[0,1],?cut,allA⟩ ?_
   case cut=>exact wO rfl rfl rfl (wV rfl LnB.A (wV rfl LnB.setG wX))
   rintro r g ⟨hr,hI⟩
   by_cases hrl:r < k + 1
   ·(repeat' ((try conv=>whnf);first|(with_reducible first|refine wT ?_|refine wF ?_|(refine wI (fun hq=>?_) (fun hq=>?_) <;> try simp only [zA,zE,zD,zJ,zB,zI,wK,wL] at hq)|refine wA ?_|refine wB ?_|refine wC ?_|refine wD ?_|refine wE ?_)|((with_reducible refine wN ?_ ?_);focus exact needA)|(with_reducible refine wG ?_)|(with_reducible refine wP ?_)))
    all_goals (try conv=>whnf)
    refine FLoop.of2 (ACalls.mono _) (fun (p:Nat) (g:Nat → Int)=>[(1,AI s),(2,AI level),(4,.ptr 0 0),(9,.own 1 (k + 1)),(11,AI r),(12,AI p)]) (fun p g=>[.box 3 (cCrew f c),rowG (k + 1) g]) (fun p g=>p ≤ k + 1 ∧ Inv2 (k + 1) (relT c s level) a r p 0 g) (fun p _=>k + 1 - p) 0 g ⟨⟨Nat.zero_le _,inv2_start hI⟩,[0,1],Cut.A,allA⟩ ?_
    clear hI
    rintro p g ⟨hp,hI⟩
    by_cases hpl:p < k + 1
    ·(repeat' ((try conv=>whnf);first|(with_reducible first|refine wT ?_|refine wF ?_|(refine wI (fun hq=>?_) (fun hq=>?_) <;> try simp only [zA,zE,zD,zJ,zB,zI,wK,wL] at hq)|refine wA ?_|refine wB ?_|refine wC ?_|refine wD ?_|refine wE ?_)|((with_reducible refine wN ?_ ?_);focus exact needA)|(with_reducible refine wG ?_)|(with_reducible refine wP ?_)))
     all_goals (try conv=>whnf)
     refine FLoop.of2 (ACalls.mono _) (fun (q:Nat) (g:Nat → Int)=>[(1,AI s),(2,AI level),(4,.ptr 0 0),(9,.own 1 (k + 1)),(11,AI r),(12,AI p),(13,AI q)]) (fun q g=>[.box 3 (cCrew f c),rowG (k + 1) g]) (fun q g=>q ≤ k + 1 ∧ Inv2 (k + 1) (relT c s level) a r p q g) (fun q _=>k + 1 - q) 0 g ⟨⟨Nat.zero_le _,hI⟩,[0,1],Cut.A,allA⟩ ?_
     clear hI
     rintro q g ⟨hq,hI⟩
     by_cases hql:q < k + 1
     ·(repeat' ((try conv=>whnf);first|(with_reducible first|refine wT ?_|refine wF ?_|(refine wI (fun hq=>?_) (fun hq=>?_) <;> try simp only [zA,zE,zD,zJ,zB,zI,wK,wL] at hq)|refine wA ?_|refine wB ?_|refine wC ?_|refine wD ?_|refine wE ?_)|((with_reducible refine wN ?_ ?_);focus exact needA)|(with_reducible refine wG ?_)|(refine FCall.pure ((joins_ok f c s level p q hc (by omega) (by omega))) ⟨Ln.sameB _ rfl,Ln.sameB _ rfl,Ln.sameB _ rfl,Ln.sameB _ rfl,Ln.sameB _ rfl,True.intro⟩ rfl ?_)|(with_reducible refine wP ?_)))
      all_goals (try conv=>whnf)
      ·have hst:=inv2_yes hI hpl hql (by assumption) (by assumption) hq
       (exact ⟨⟨(q + 1),(updI g q (r + 1)),⟨hql,hst⟩,by show _ < _;omega,[0,1],(by (refine wO rfl rfl rfl ?_;repeat (first|exact wX|(refine wV rfl (by first|exact LnB.rowS|exact LnB.setG|exact LnB.A) ?_)|(refine CutL.gone (Nat.lt_of_lt_of_le (Nat.lt_succ_self _) (Nat.le_of_ble_eq_true rfl)) ?_)))),allA⟩⟩)
      all_goals (exact ⟨⟨(q + 1),g,⟨hql,inv2_no hI hpl (fun e=>by first|(have:=e.1;omega)|(have:=e.2.1;omega)|(have:=e.2.2;unfold relT at this;rw [hq] at this;cases this))⟩,by show _ < _;omega,[0,1],Cut.A,allA⟩⟩)
     ·(repeat' ((try conv=>whnf);first|(with_reducible first|refine wT ?_|refine wF ?_|(refine wI (fun hq=>?_) (fun hq=>?_) <;> try simp only [zA,zE,zD,zJ,zB,zI,wK,wL] at hq)|refine wA ?_|refine wB ?_|refine wC ?_|refine wD ?_|refine wE ?_)|((with_reducible refine wN ?_ ?_);focus exact needA)|(with_reducible refine wG ?_)|(with_reducible refine wP ?_)))
      all_goals (try conv=>whnf)
      obtain rfl:q = k + 1:=by omega
      (exact ⟨⟨(p + 1),g,⟨hpl,inv2_row hI⟩,by show _ < _;omega,[0,1],Cut.A,allA⟩⟩)
    ·(repeat' ((try conv=>whnf);first|(with_reducible first|refine wT ?_|refine wF ?_|(refine wI (fun hq=>?_) (fun hq=>?_) <;> try simp only [zA,zE,zD,zJ,zB,zI,wK,wL] at hq)|refine wA ?_|refine wB ?_|refine wC ?_|refine wD ?_|refine wE ?_)|((with_reducible refine wN ?_ ?_);focus exact needA)|(with_reducible refine wG ?_)|(with_reducible refine wP ?_)))
     all_goals (try conv=>whnf)
     obtain rfl:p = k + 1:=by omega
     (exact ⟨⟨(r + 1),g,⟨hrl,inv2_end hI⟩,by show _ < _;omega,[0,1],Cut.A,allA⟩⟩)
   ·obtain rfl:r = k + 1:=by omega
    (repeat' ((try conv=>whnf);first|(with_reducible first|refine wT ?_|refine wF ?_|(refine wI (fun hq=>?_) (fun hq=>?_) <;> try simp only [zA,zE,zD,zJ,zB,zI,wK,wL] at hq)|refine wA ?_|refine wB ?_|refine wC ?_|refine wD ?_|refine wE ?_)|((with_reducible refine wN ?_ ?_);focus exact needA)|(with_reducible refine wG ?_)|(with_reducible refine wP ?_)))
    all_goals (try conv=>whnf)
    refine ⟨⟨aInts false false (distL (k + 1) (relT c s level) a),[],[],Cut.nil _,Ln.pubE (goneB rfl) rfl (Nat.le_refl _) (by simp [distL]) (fun x hx _ _=>int_eq ?_),rfl,rfl⟩⟩
    rw [distL,getD_range hx,inv1_end hI hx]
end Go.Proofs.Ytdipcdallenmkaa

namespace Go.Proofs.Ytdipcdallenmkaa
open Go.RowKit

def alone3 (p:Person) (j:Job):Nat:=(if tiedT p j.client then 1 else 0) ||| (if p.fields.toNat.testBit j.field.toNat then 0 else 2) ||| (if p.clears.toNat.testBit j.kind.toNat then 0 else 4)
theorem alone3_eq {p:Person} {j:Job} {t f k:Bool} (h1:tiedT p j.client = t) (h2:p.fields.toNat.testBit j.field.toNat = f) (h3:p.clears.toNat.testBit j.kind.toNat = k):alone3 p j = (if t then 1 else 0) ||| (if f then 0 else 2) ||| (if k then 0 else 4):=by
 subst h1;subst h2;subst h3;rfl
def orL : List Nat → Nat
 | []=>0
 | x :: l=>x ||| orL l
def lawOf (c:Crew) (j:Job):LawT:=c.laws.getD j.kind.toNat lw0
def soloT (c:Crew) (j:Job) (s:Nat):Nat:=orL ((memb c s).map fun i=>alone3 (c.people.getD i ps0) j)
def deafT (c:Crew) (s:Nat):Bool:=(memb c s).any fun i=>(c.people.getD i ps0).deaf
noncomputable def brokenT (c:Crew) (j:Job) (s:Nat):Nat :=
 soloT c j s ||| (if (pop s:Int) ≠ max j.size (lawOf c j).size then 8 else 0) ||| (if (lawOf c j).deaf && !deafT c s then 16 else 0) |||
  (if dist c.langs.toNat (relT c s (lawOf c j).level) j.fr.toNat j.to.toNat < 0 then 32 else 0)
theorem or8 {a b:Nat} (h:a < 8) (k:b < 8):a ||| b < 8:=Nat.or_lt_two_pow (n:=3) h k
theorem or64 {a b:Nat} (h:a < 64) (k:b < 64):a ||| b < 64:=Nat.or_lt_two_pow (n:=6) h k
theorem alone3_lt (p:Person) (j:Job):alone3 p j < 8:=by
 unfold alone3;refine or8 (or8 ?_ ?_) ?_ <;> split <;> decide
theorem orL_lt : ∀ {l:List Nat},(∀ x ∈ l,x < 8) → orL l < 8
 | [],_=>by decide
 | x :: l,h=>or8 (h x (by simp)) (orL_lt fun y hy=>h y (by simp [hy]))
theorem solo_lt (c:Crew) (j:Job) (s:Nat):soloT c j s < 8:=orL_lt fun x hx=>by
 obtain ⟨i,_,rfl⟩:=List.mem_map.1 hx
 exact alone3_lt _ _
theorem broken_lt (c:Crew) (j:Job) (s:Nat):brokenT c j s < 64:=by
 unfold brokenT
 have:=solo_lt c j s
 refine or64 (or64 (or64 (by omega) ?_) ?_) ?_ <;> split <;> decide
theorem bAnd_tt {a d:Bool} (h:a = true) (k:d = false):(a && !d) = true:=by subst h;subst k;rfl
theorem bAnd_tf {a d:Bool} (h:a = true) (k:d = true):(a && !d) = false:=by subst h;subst k;rfl
theorem bAnd_f {a d:Bool} (h:a = false):(a && !d) = false:=by subst h;rfl
theorem brokenT_eq {c:Crew} {j:Job} {s v n:Nat} {e a b d:Bool} (hn:c.langs.toNat = n) (hv:soloT c j s = v) (he:deafT c s = e) (ha:decide ((pop s:Int) ≠ max j.size (lawOf c j).size) = a) (hb:((lawOf c j).deaf && !e) = b) (hd:decide (dist n (relT c s (lawOf c j).level) j.fr.toNat j.to.toNat < 0) = d):brokenT c j s = v ||| (if a then 8 else 0) ||| (if b then 16 else 0) ||| (if d then 32 else 0):=by
 subst hn;subst hv;subst he;subst ha;subst hb;subst hd
 unfold brokenT
 simp only [decide_eq_true_eq]
theorem or_e {a b c:Nat} (h:a = b):a ||| c = b ||| c:=by rw [h]
set_option maxHeartbeats 4000000
set_option maxRecDepth 100000
theorem refFar_i (f:CFl) (c:Crew) (s:Nat) (level a:Int) (n:Nat) (hc:c.ok = true) (hn:c.langs = n) (ha:0 ≤ a ∧ a < n):ACall Try.prog 61 [aCrew f c,AI s,AI level,AI a] [] (fun r h=>r = aInts false false (distL n (relT c s level) a.toNat) ∧ h = []):=by
 have:=refFar_ok f c s level a.toNat n hc hn (by omega)
 rwa [Int.toNat_of_nonneg ha.1] at this
theorem refBroken_ok (f:CFl) (c:Crew) (j:Job) (s:Nat) (hc:c.ok = true) (hj:Job.ok c j = true) (hs:s < 256):ACall Try.prog 45 [aCrew f c,aJob j,AI s] [] (fun r h=>r = AI (brokenT c j s) ∧ h = []):=by
 obtain ⟨d1,d2,d3,d4,d5⟩:=crew_d hc
 obtain ⟨j1,j2,j3,j4,j5,j6,j7⟩:=job_d hj
 obtain ⟨n,hn⟩:∃ n:Nat,c.langs = n:=⟨c.langs.toNat,by omega⟩
 obtain ⟨l1,l2⟩:=law_d (d5 j.kind.toNat (by omega))
 (refine fcall_of mixed Try.func45 rfl (by decide) (hs:={ ord:=[(16,[(0,[]),(2,[]),(3,[]),(4,[]),(5,[]),(6,[]),(1,[3,5]),(7,[])]),(20,[(0,[]),(1,[]),(2,[]),(3,[]),(4,[]),(5,[]),(7,[]),(8,[]),(6,[8]),(9,[]),(10,[]),(11,[])])] }) ?k (ac:=?ac) ?c (rs:=?rs) ?r ?l ?H;(case k=>kernel_rfl);(case c=>(conv=>(lhs;cbv)));(case r=>(conv=>(lhs;cbv)));(case l=>exact Nat.le_of_ble_eq_true rfl))
 (repeat' ((try conv=>whnf);first|(with_reducible first|refine wT ?_|refine wF ?_|(refine wI (fun hq=>?_) (fun hq=>?_) <;> try simp only [zA,zE,zD,zJ,zB,zI,wK,wL] at hq)|refine wA ?_|refine wB ?_|refine wC ?_|refine wD ?_|refine wE ?_)|((with_reducible refine wN ?_ ?_);focus exact needA)|(with_reducible refine wG ?_)|(with_reducible refine wP ?_)))
 (try conv=>whnf)
 refine FLoop.of3 (ACalls.mono _) (fun (i v:Nat) (d:Bool)=>[(2,AI s),(3,.ptr 0 0),(4,.ptr 1 0),(7,.ptr 2 0),(8,AI v),(9,.bool d),(10,AI i)]) (fun _ _ _=>[.box 3 (cCrew f c),.box 6 (cJob j),.box 3 (cLaw (lawOf c j))]) (fun i v d=>i ≤ c.people.length ∧ soloT c j s = v ||| orL ((memF c s i).map fun i=>alone3 (c.people.getD i ps0) j) ∧ v < 8 ∧ deafT c s = (d || (memF c s i).any fun i=>(c.people.getD i ps0).deaf)) (fun i _ _=>c.people.length - i) 0 0 false ⟨⟨Nat.zero_le _,by rw [memF_0,Nat.zero_or];rfl,by omega,rfl⟩,[0,1,2],Cut.A,allA⟩ ?_
 rintro i v d ⟨hi,hV,hv,hd⟩
 by_cases hlt:i < c.people.length
 ·obtain ⟨p1,p2,p3,p4,p5,p6,p7⟩:=ps_d (d4 i hlt)
  have o1:=or8 hv (show 1 < 8 by decide)
  have o2:=or8 hv (show 2 < 8 by decide)
  have o4:=or8 hv (show 4 < 8 by decide)
  have o12:=or8 o1 (show 2 < 8 by decide)
  have o14:=or8 o1 (show 4 < 8 by decide)
  have o24:=or8 o2 (show 4 < 8 by decide)
  have o124:=or8 o12 (show 4 < 8 by decide)
  (repeat' ((try conv=>whnf);first|(with_reducible first|refine wT ?_|refine wF ?_|(refine wI (fun hq=>?_) (fun hq=>?_) <;> try simp only [zA,zE,zD,zJ,zB,zI,wK,wL] at hq)|refine wA ?_|refine wB ?_|refine wC ?_|refine wD ?_|refine wE ?_)|((with_reducible refine wN ?_ ?_);focus exact needA)|(with_reducible first|refine FBit.hasT rfl (by assumption) ?_|refine FBit.hasF rfl (by assumption) ?_|refine FBit.shrN rfl (by omega) ?_|refine FBit.half rfl ?_|refine FBit.shl1 rfl (by omega) ?_|refine Fits.inU (by omega) ?_|refine FBit.shrNI rfl (by omega) ?_|refine FBit.shrIN rfl (by omega) (by omega) ?_|refine FBit.shrI rfl (by omega) (by omega) ?_|refine FBit.shl1I rfl (by omega) ?_)|(with_reducible refine FBit.has rfl (fun hq=>?_) (fun hq=>?_))|(with_reducible first|refine FBit.and1 rfl ?_|refine FBit.andN rfl (by omega) (by omega) ?_|refine FBit.orN rfl (by omega) (by omega) ?_|refine FBit.andNotN rfl (by omega) (by omega) ?_)|(with_reducible refine wG ?_)|(refine FCall.pure ((has_ok _ _ (by omega))) ⟨Ln.sameB _ rfl,Ln.sameB _ rfl,True.intro⟩ rfl ?_)|(refine FCall.pure ((has_i _ _ (by omega) (by omega))) ⟨Ln.sameB _ rfl,Ln.sameB _ rfl,True.intro⟩ rfl ?_)|(refine FCall.pure ((tied_ok _ _ _ (by omega))) ⟨Ln.sameB _ rfl,Ln.sameB _ rfl,True.intro⟩ rfl ?_)|(first|refine FBit.orI rfl rfl (b:=1) rfl (by omega) (by omega) ?_|refine FBit.orI rfl rfl (b:=2) rfl (by omega) (by omega) ?_|refine FBit.orI rfl rfl (b:=4) rfl (by omega) (by omega) ?_)|(with_reducible refine wP ?_)))
  all_goals (try conv=>whnf)
  ·(exact ⟨⟨(i + 1),v,d,⟨hlt,by rw [hV,memF_no hlt hq],hv,by rw [hd,memF_no hlt hq]⟩,by show _ < _;omega,[0,1,2],Cut.A,allA⟩⟩)
  all_goals
   refine ⟨⟨i + 1,_,_,?_,?_,[0,1,2],Cut.A,allA⟩⟩
   ·refine ⟨hlt,?_,by assumption,?_⟩
    ·rw [hV,memF_yes hlt (by assumption),List.map_cons,orL,← Nat.or_assoc]
     refine or_e ?_
     have hA:=alone3_eq (p:=c.people.getD i ps0) (j:=j) (by assumption) (by assumption) (by assumption)
     rw [hA]
     simp [Nat.or_assoc]
    ·rw [hd,memF_yes hlt (by assumption),List.any_cons]
     first|(rw [show d = true by assumption];rfl)|(rw [show d = false by assumption];rfl)
   ·show _ < _;omega
 ·rw [memF_end (by omega)] at hV hd
  simp only [List.map_nil,orL,Nat.or_zero] at hV
  simp only [List.any_nil,Bool.or_false] at hd
  have q8:=or64 (show v < 64 by omega) (show 8 < 64 by decide)
  have q16:=or64 (show v < 64 by omega) (show 16 < 64 by decide)
  have q32:=or64 (show v < 64 by omega) (show 32 < 64 by decide)
  have q816:=or64 q8 (show 16 < 64 by decide)
  have hlv:(lawOf c j).level = (c.laws.getD j.kind.toNat lw0).level:=rfl
  have hdl:(distL n (relT c s (lawOf c j).level) j.fr.toNat).length = n:=by simp [distL]
  have hdg:(distL n (relT c s (lawOf c j).level) j.fr.toNat).getD j.to.toNat 0 = dist n (relT c s (lawOf c j).level) j.fr.toNat j.to.toNat:=getD_range (by omega)
  (repeat' ((try conv=>whnf);first|(with_reducible first|refine wT ?_|refine wF ?_|(refine wI (fun hq=>?_) (fun hq=>?_) <;> try simp only [zA,zE,zD,zJ,zB,zI,wK,wL] at hq)|refine wA ?_|refine wB ?_|refine wC ?_|refine wD ?_|refine wE ?_)|((with_reducible refine wN ?_ ?_);focus exact needA)|(with_reducible first|refine FBit.hasT rfl (by assumption) ?_|refine FBit.hasF rfl (by assumption) ?_|refine FBit.shrN rfl (by omega) ?_|refine FBit.half rfl ?_|refine FBit.shl1 rfl (by omega) ?_|refine Fits.inU (by omega) ?_|refine FBit.shrNI rfl (by omega) ?_|refine FBit.shrIN rfl (by omega) (by omega) ?_|refine FBit.shrI rfl (by omega) (by omega) ?_|refine FBit.shl1I rfl (by omega) ?_)|(with_reducible refine FBit.has rfl (fun hq=>?_) (fun hq=>?_))|(with_reducible first|refine FBit.and1 rfl ?_|refine FBit.andN rfl (by omega) (by omega) ?_|refine FBit.orN rfl (by omega) (by omega) ?_|refine FBit.andNotN rfl (by omega) (by omega) ?_)|(with_reducible refine wG ?_)|(refine FCall.pure ((size_ok _ hs)) ⟨Ln.sameB _ rfl,True.intro⟩ rfl ?_)|(refine FCall.pure ((refFar_i f c s _ j.fr n hc hn (by omega))) ⟨Ln.sameB _ rfl,Ln.sameB _ rfl,Ln.sameB _ rfl,Ln.sameB _ rfl,True.intro⟩ rfl ?_)|(first|refine FBit.orI rfl rfl (b:=8) rfl (by omega) (by omega) ?_|refine FBit.orI rfl rfl (b:=16) rfl (by omega) (by omega) ?_|refine FBit.orI rfl rfl (b:=32) rfl (by omega) (by omega) ?_)|(with_reducible refine wP ?_)))
  all_goals (try conv=>whnf)
  all_goals
   (refine ⟨⟨_,[],[],Cut.nil _,Ln.sameB _ rfl,?_,rfl⟩⟩)
   refine int_eq (congrArg (fun n:Nat=>(n:Int)) ?_)
   first
    | (refine Eq.trans ?_ (brokenT_eq (n:=n) (a:=true) (b:=true) (d:=true) (by omega) hV hd (by first|exact decide_eq_true (by assumption)|exact decide_eq_false (fun h=>h (by assumption))|fail) (by first|exact bAnd_tt (by assumption) (by assumption)|exact bAnd_tf (by assumption) (by assumption)|exact bAnd_f (by assumption)|fail) (by first|exact decide_eq_true (by omega)|exact decide_eq_false (by omega)|fail)).symm;simp;done)
    | (refine Eq.trans ?_ (brokenT_eq (n:=n) (a:=true) (b:=true) (d:=false) (by omega) hV hd (by first|exact decide_eq_true (by assumption)|exact decide_eq_false (fun h=>h (by assumption))|fail) (by first|exact bAnd_tt (by assumption) (by assumption)|exact bAnd_tf (by assumption) (by assumption)|exact bAnd_f (by assumption)|fail) (by first|exact decide_eq_true (by omega)|exact decide_eq_false (by omega)|fail)).symm;simp;done)
    | (refine Eq.trans ?_ (brokenT_eq (n:=n) (a:=true) (b:=false) (d:=true) (by omega) hV hd (by first|exact decide_eq_true (by assumption)|exact decide_eq_false (fun h=>h (by assumption))|fail) (by first|exact bAnd_tt (by assumption) (by assumption)|exact bAnd_tf (by assumption) (by assumption)|exact bAnd_f (by assumption)|fail) (by first|exact decide_eq_true (by omega)|exact decide_eq_false (by omega)|fail)).symm;simp;done)
    | (refine Eq.trans ?_ (brokenT_eq (n:=n) (a:=true) (b:=false) (d:=false) (by omega) hV hd (by first|exact decide_eq_true (by assumption)|exact decide_eq_false (fun h=>h (by assumption))|fail) (by first|exact bAnd_tt (by assumption) (by assumption)|exact bAnd_tf (by assumption) (by assumption)|exact bAnd_f (by assumption)|fail) (by first|exact decide_eq_true (by omega)|exact decide_eq_false (by omega)|fail)).symm;simp;done)
    | (refine Eq.trans ?_ (brokenT_eq (n:=n) (a:=false) (b:=true) (d:=true) (by omega) hV hd (by first|exact decide_eq_true (by assumption)|exact decide_eq_false (fun h=>h (by assumption))|fail) (by first|exact bAnd_tt (by assumption) (by assumption)|exact bAnd_tf (by assumption) (by assumption)|exact bAnd_f (by assumption)|fail) (by first|exact decide_eq_true (by omega)|exact decide_eq_false (by omega)|fail)).symm;simp;done)
    | (refine Eq.trans ?_ (brokenT_eq (n:=n) (a:=false) (b:=true) (d:=false) (by omega) hV hd (by first|exact decide_eq_true (by assumption)|exact decide_eq_false (fun h=>h (by assumption))|fail) (by first|exact bAnd_tt (by assumption) (by assumption)|exact bAnd_tf (by assumption) (by assumption)|exact bAnd_f (by assumption)|fail) (by first|exact decide_eq_true (by omega)|exact decide_eq_false (by omega)|fail)).symm;simp;done)
    | (refine Eq.trans ?_ (brokenT_eq (n:=n) (a:=false) (b:=false) (d:=true) (by omega) hV hd (by first|exact decide_eq_true (by assumption)|exact decide_eq_false (fun h=>h (by assumption))|fail) (by first|exact bAnd_tt (by assumption) (by assumption)|exact bAnd_tf (by assumption) (by assumption)|exact bAnd_f (by assumption)|fail) (by first|exact decide_eq_true (by omega)|exact decide_eq_false (by omega)|fail)).symm;simp;done)
    | (refine Eq.trans ?_ (brokenT_eq (n:=n) (a:=false) (b:=false) (d:=false) (by omega) hV hd (by first|exact decide_eq_true (by assumption)|exact decide_eq_false (fun h=>h (by assumption))|fail) (by first|exact bAnd_tt (by assumption) (by assumption)|exact bAnd_tf (by assumption) (by assumption)|exact bAnd_f (by assumption)|fail) (by first|exact decide_eq_true (by omega)|exact decide_eq_false (by omega)|fail)).symm;simp;done)
end Go.Proofs.Ytdipcdallenmkaa

namespace Go.Proofs.Ytdipcdallenmkaa
open Go.RowKit

theorem checkTm_c {c:Crew} {j:Job} {m:Int} (h:checkT c j ≠ 0):checkTm c j m = checkT c j:=if_neg h
theorem checkTm_t {c:Crew} {j:Job} {m:Int} (h:checkT c j = 0) (k:isTeamT c m = true):checkTm c j m = 0:=by unfold checkTm;rw [if_pos h,if_pos k]
theorem checkTm_f {c:Crew} {j:Job} {m:Int} (h:checkT c j = 0) (k:isTeamT c m = false):checkTm c j m = 1:=by unfold checkTm;rw [if_pos h,if_neg (by rw [k];decide)]
theorem checkTm_0 {c:Crew} {j:Job} {m:Int} (h:checkTm c j m = 0):c.ok = true ∧ Job.ok c j = true ∧ 0 ≤ m ∧ m < ((2 ^ c.people.length:Nat):Int):=by
 unfold checkTm at h
 split at h
 ·rename_i h0
  split at h
  ·rename_i h1
   obtain ⟨a,b⟩:=checkT_0.1 h0
   simp only [isTeamT,inB,decide_eq_true_eq] at h1
   exact ⟨a,b,h1.1,by omega⟩
  ·cases h
 ·contradiction
theorem isT_iff {c:Crew} {t:Nat}:isTeamT c (t:Int) = true ↔ t < 2 ^ c.people.length:=by
 simp only [isTeamT,inB,decide_eq_true_eq];omega
noncomputable def fitsT (c:Crew) (j:Job) (t:Nat):Bool:=decide (0 < t) && decide (brokenT c j t = 0)
noncomputable def stepTm (c:Crew) (j:Job) (t:Nat) (x:Nat × Int):Nat × Int:=if fitsT c j t && (decide (x.1 = 0) || decide (feeT c t < x.2)) then (t,feeT c t) else x
theorem stepTm_yes {c:Crew} {j:Job} {t m:Nat} {n:Int} (h:fitsT c j t = true) (k:m = 0 ∨ feeT c t < n):stepTm c j t (m,n) = (t,feeT c t):=by
 unfold stepTm
 rw [if_pos]
 simp only [h,Bool.true_and,Bool.or_eq_true,decide_eq_true_eq];exact k
theorem stepTm_no {c:Crew} {j:Job} {t m:Nat} {n:Int} (h:fitsT c j t = false):stepTm c j t (m,n) = (m,n):=by
 unfold stepTm
 rw [if_neg]
 rw [h];simp
theorem stepTm_no2 {c:Crew} {j:Job} {t m:Nat} {n:Int} (h:m ≠ 0) (k:n ≤ feeT c t):stepTm c j t (m,n) = (m,n):=by
 unfold stepTm
 rw [if_neg]
 simp only [Bool.and_eq_true,Bool.or_eq_true,decide_eq_true_eq];omega
noncomputable def teamS (c:Crew) (j:Job):Nat → Nat × Int
 | 0=>(0,0)
 | t + 1=>stepTm c j (t + 1) (teamS c j t)
noncomputable def bestT (c:Crew) (j:Job):Nat × Int:=teamS c j (2 ^ c.people.length - 1)
noncomputable def teamE (c:Crew) (j:Job):Int × Int × Int:=if checkT c j = 0 then (if (bestT c j).1 = 0 then (0,0,3) else ((bestT c j).1,(bestT c j).2,0)) else (0,0,checkT c j)
noncomputable def brokenE (c:Crew) (j:Job) (m:Int):Int × Int:=if checkTm c j m = 0 then ((brokenT c j m.toNat:Int),0) else (0,checkTm c j m)
open Classical in
noncomputable def keptT (c:Crew) (j:Job) (r:Nat):Bool:=decide (∃ t,1 ≤ t ∧ t < 2 ^ c.people.length ∧ brokenT c j t &&& r = 0)
theorem kept_iff {c:Crew} {j:Job} {r:Nat}:keptT c j r = true ↔ ∃ t,1 ≤ t ∧ t < 2 ^ c.people.length ∧ brokenT c j t &&& r = 0:=by unfold keptT;simp only [decide_eq_true_eq]
noncomputable def whyS (c:Crew) (j:Job):Nat → Option Nat
 | 0=>none
 | r + 1=>if !keptT c j r && (match whyS c j r with|none=>true|some b=>decide (pop r < pop b)) then some r else whyS c j r
noncomputable def whyE (c:Crew) (j:Job):Int × Int:=if checkT c j = 0 then (match whyS c j 64 with|none=>(0,3)|some b=>((b:Int),0)) else (0,checkT c j)
set_option maxHeartbeats 4000000
set_option maxRecDepth 100000
theorem checkTeam_ok (f:CFl) (c:Crew) (j:Job) (m:Int):ACall Try.prog 60 [aCrew f c,aJob j,AI m] [] (fun r h=>r = AI (checkTm c j m) ∧ h = []):=by
 (refine fcall_of mixed Try.func60 rfl (by decide) (hs:={}) ?k (ac:=?ac) ?c (rs:=?rs) ?r ?l ?H;(case k=>kernel_rfl);(case c=>(conv=>(lhs;cbv)));(case r=>(conv=>(lhs;cbv)));(case l=>exact Nat.le_of_ble_eq_true rfl))
 (repeat' ((try conv=>whnf);first|(with_reducible first|refine wT ?_|refine wF ?_|(refine wI (fun hq=>?_) (fun hq=>?_) <;> try simp only [zA,zE,zD,zJ,zB,zI,wK,wL] at hq)|refine wA ?_|refine wB ?_|refine wC ?_|refine wD ?_|refine wE ?_)|((with_reducible refine wN ?_ ?_);focus exact needA)|(with_reducible refine wG ?_)|(refine FCall.pure ((refCheck_ok _ _ _)) ⟨Ln.sameB _ rfl,Ln.sameB _ rfl,True.intro⟩ rfl ?_)|(with_reducible refine wP ?_)))
 all_goals (try conv=>whnf)
 ·(refine ⟨⟨_,[],[],Cut.nil _,Ln.sameB _ rfl,?_,rfl⟩⟩)
  rw [checkTm_c hq]
 ·have hd:=(crew_d (checkT_0.1 hq).1).2.1
  have hq0:=hq
  (repeat' ((try conv=>whnf);first|(with_reducible first|refine wT ?_|refine wF ?_|(refine wI (fun hq=>?_) (fun hq=>?_) <;> try simp only [zA,zE,zD,zJ,zB,zI,wK,wL] at hq)|refine wA ?_|refine wB ?_|refine wC ?_|refine wD ?_|refine wE ?_)|((with_reducible refine wN ?_ ?_);focus exact needA)|(with_reducible refine wG ?_)|(refine FCall.pure ((isTeam_ok _ _ _ hd)) ⟨Ln.sameB _ rfl,Ln.sameB _ rfl,True.intro⟩ rfl ?_)|(with_reducible refine wP ?_)))
  all_goals (try conv=>whnf)
  ·(refine ⟨⟨_,[],[],Cut.nil _,Ln.sameB _ rfl,?_,rfl⟩⟩)
   rw [checkTm_f hq0 hq]
  ·(refine ⟨⟨_,[],[],Cut.nil _,Ln.sameB _ rfl,?_,rfl⟩⟩)
   rw [checkTm_t hq0 hq]
theorem fits_ok (f:CFl) (c:Crew) (j:Job) (s:Nat) (hc:c.ok = true) (hj:Job.ok c j = true) (hs:s < 256):ACall Try.prog 32 [aCrew f c,aJob j,AI s] [] (fun r h=>r = .bool (fitsT c j s) ∧ h = []):=by
 (refine fcall_of mixed Try.func32 rfl (by decide) (hs:={}) ?k (ac:=?ac) ?c (rs:=?rs) ?r ?l ?H;(case k=>kernel_rfl);(case c=>(conv=>(lhs;cbv)));(case r=>(conv=>(lhs;cbv)));(case l=>exact Nat.le_of_ble_eq_true rfl))
 (repeat' ((try conv=>whnf);first|(with_reducible first|refine wT ?_|refine wF ?_|(refine wI (fun hq=>?_) (fun hq=>?_) <;> try simp only [zA,zE,zD,zJ,zB,zI,wK,wL] at hq)|refine wA ?_|refine wB ?_|refine wC ?_|refine wD ?_|refine wE ?_)|((with_reducible refine wN ?_ ?_);focus exact needA)|(with_reducible refine wG ?_)|(refine FCall.pure ((refBroken_ok _ _ _ _ hc hj hs)) ⟨Ln.sameB _ rfl,Ln.sameB _ rfl,Ln.sameB _ rfl,True.intro⟩ rfl ?_)|(with_reducible refine wP ?_)))
 all_goals (try conv=>whnf)
 all_goals
  (refine ⟨⟨_,[],[],Cut.nil _,Ln.sameB _ rfl,?_,rfl⟩⟩)
  unfold fitsT
  (exact avB)
theorem refBrokenE_ok (f:CFl) (c:Crew) (j:Job) (m:Int):ACall Try.prog 28 [aCrew f c,aJob j,AI m] [] (fun r h=>r = .tup 2 (ofL [AI (brokenE c j m).1,AI (brokenE c j m).2]) ∧ h = []):=by
 (refine fcall_of mixed Try.func28 rfl (by decide) (hs:={}) ?k (ac:=?ac) ?c (rs:=?rs) ?r ?l ?H;(case k=>kernel_rfl);(case c=>(conv=>(lhs;cbv)));(case r=>(conv=>(lhs;cbv)));(case l=>exact Nat.le_of_ble_eq_true rfl))
 (repeat' ((try conv=>whnf);first|(with_reducible first|refine wT ?_|refine wF ?_|(refine wI (fun hq=>?_) (fun hq=>?_) <;> try simp only [zA,zE,zD,zJ,zB,zI,wK,wL] at hq)|refine wA ?_|refine wB ?_|refine wC ?_|refine wD ?_|refine wE ?_)|((with_reducible refine wN ?_ ?_);focus exact needA)|(with_reducible refine wG ?_)|(refine FCall.pure ((checkTeam_ok _ _ _ _)) ⟨Ln.sameB _ rfl,Ln.sameB _ rfl,Ln.sameB _ rfl,True.intro⟩ rfl ?_)|(with_reducible refine wP ?_)))
 all_goals (try conv=>whnf)
 ·(refine ⟨⟨_,[],[],Cut.nil _,Ln.sameB _ rfl,?_,rfl⟩⟩)
  unfold brokenE;rw [if_neg hq];rfl
 ·obtain ⟨hc,hj,h0,h1⟩:=checkTm_0 hq
  have hp:=pow_le (crew_d hc).2.1
  have hb:=refBroken_ok f c j m.toNat hc hj (by omega)
  rw [Int.toNat_of_nonneg h0] at hb
  (repeat' ((try conv=>whnf);first|(with_reducible first|refine wT ?_|refine wF ?_|(refine wI (fun hq=>?_) (fun hq=>?_) <;> try simp only [zA,zE,zD,zJ,zB,zI,wK,wL] at hq)|refine wA ?_|refine wB ?_|refine wC ?_|refine wD ?_|refine wE ?_)|((with_reducible refine wN ?_ ?_);focus exact needA)|(with_reducible refine wG ?_)|(refine FCall.pure (hb) ⟨Ln.sameB _ rfl,Ln.sameB _ rfl,Ln.sameB _ rfl,True.intro⟩ rfl ?_)|(with_reducible refine wP ?_)))
  all_goals (try conv=>whnf)
  (refine ⟨⟨_,[],[],Cut.nil _,Ln.sameB _ rfl,?_,rfl⟩⟩)
  unfold brokenE;rw [if_pos hq];rfl
theorem refTeam_ok (f:CFl) (c:Crew) (j:Job):ACall Try.prog 33 [aCrew f c,aJob j] [] (fun r h=>r = .tup 3 (ofL [AI (teamE c j).1,AI (teamE c j).2.1,AI (teamE c j).2.2]) ∧ h = []):=by
 (refine fcall_of mixed Try.func33 rfl (by decide) (hs:={}) ?k (ac:=?ac) ?c (rs:=?rs) ?r ?l ?H;(case k=>kernel_rfl);(case c=>(conv=>(lhs;cbv)));(case r=>(conv=>(lhs;cbv)));(case l=>exact Nat.le_of_ble_eq_true rfl))
 (repeat' ((try conv=>whnf);first|(with_reducible first|refine wT ?_|refine wF ?_|(refine wI (fun hq=>?_) (fun hq=>?_) <;> try simp only [zA,zE,zD,zJ,zB,zI,wK,wL] at hq)|refine wA ?_|refine wB ?_|refine wC ?_|refine wD ?_|refine wE ?_)|((with_reducible refine wN ?_ ?_);focus exact needA)|(with_reducible refine wG ?_)|(refine FCall.pure ((refCheck_ok _ _ _)) ⟨Ln.sameB _ rfl,Ln.sameB _ rfl,True.intro⟩ rfl ?_)|(with_reducible refine wP ?_)))
 all_goals (try conv=>whnf)
 ·(refine ⟨⟨_,[],[],Cut.nil _,Ln.sameB _ rfl,?_,rfl⟩⟩)
  unfold teamE;rw [if_neg hq];rfl
 ·obtain ⟨hc,hj⟩:=checkT_0.1 hq
  have hq0:=hq
  have hd:=(crew_d hc).2.1
  have hp:=pow_le hd
  refine FLoop.of3 (ACalls.mono _) (fun (t m:Nat) (n:Int)=>[(2,.ptr 0 0),(3,.ptr 1 0),(4,AI m),(5,AI n),(8,AI ((t + 1:Nat):Int))]) (fun _ _ _=>[.box 3 (cCrew f c),.box 6 (cJob j)]) (fun t m n=>t + 1 ≤ 2 ^ c.people.length ∧ teamS c j t = (m,n)) (fun t _ _=>2 ^ c.people.length - t) 0 0 0 ⟨⟨by omega,rfl⟩,[0,1],Cut.A,allA⟩ ?_
  rintro t m n ⟨ht,hx⟩
  by_cases hlt:t + 1 < 2 ^ c.people.length
  ·have hti:=(isT_iff (c:=c) (t:=t + 1)).2 hlt
   have hst:teamS c j (t + 1) = stepTm c j (t + 1) (m,n):=by rw [← hx];rfl
   (repeat' ((try conv=>whnf);first|(with_reducible first|refine wT ?_|refine wF ?_|(refine wI (fun hq=>?_) (fun hq=>?_) <;> try simp only [zA,zE,zD,zJ,zB,zI,wK,wL] at hq)|refine wA ?_|refine wB ?_|refine wC ?_|refine wD ?_|refine wE ?_)|((with_reducible refine wN ?_ ?_);focus exact needA)|(with_reducible refine wG ?_)|(refine FCall.pure ((isTeam_ok _ _ _ hd)) ⟨Ln.sameB _ rfl,Ln.sameB _ rfl,True.intro⟩ rfl ?_)|(refine FCall.pure ((fits_ok _ _ _ _ hc hj (by omega))) ⟨Ln.sameB _ rfl,Ln.sameB _ rfl,Ln.sameB _ rfl,True.intro⟩ rfl ?_)|(refine FCall.pure ((fee_ok _ _ _ hc)) ⟨Ln.sameB _ rfl,Ln.sameB _ rfl,True.intro⟩ rfl ?_)|(with_reducible refine wP ?_)))
   all_goals (try conv=>whnf)
   ·(exact ⟨⟨(t + 1),(t + 1),(feeT c (t + 1)),⟨hlt,by rw [hst];exact stepTm_yes (by assumption) (.inl (by omega))⟩,by show _ < _;omega,[0,1],Cut.A,allA⟩⟩)
   ·(exact ⟨⟨(t + 1),(t + 1),(feeT c (t + 1)),⟨hlt,by rw [hst];exact stepTm_yes (by assumption) (.inr (by omega))⟩,by show _ < _;omega,[0,1],Cut.A,allA⟩⟩)
   ·(exact ⟨⟨(t + 1),m,n,⟨hlt,by rw [hst];exact stepTm_no2 (by omega) (by omega)⟩,by show _ < _;omega,[0,1],Cut.A,allA⟩⟩)
   ·(exact ⟨⟨(t + 1),m,n,⟨hlt,by rw [hst];exact stepTm_no (by assumption)⟩,by show _ < _;omega,[0,1],Cut.A,allA⟩⟩)
  ·have hti:isTeamT c ((t + 1:Nat):Int) = false:=Bool.eq_false_iff.2 (fun h=>hlt (isT_iff.1 h))
   have hbt:bestT c j = (m,n):=by unfold bestT;rw [show 2 ^ c.people.length - 1 = t by omega];exact hx
   (repeat' ((try conv=>whnf);first|(with_reducible first|refine wT ?_|refine wF ?_|(refine wI (fun hq=>?_) (fun hq=>?_) <;> try simp only [zA,zE,zD,zJ,zB,zI,wK,wL] at hq)|refine wA ?_|refine wB ?_|refine wC ?_|refine wD ?_|refine wE ?_)|((with_reducible refine wN ?_ ?_);focus exact needA)|(with_reducible refine wG ?_)|(refine FCall.pure ((isTeam_ok _ _ _ hd)) ⟨Ln.sameB _ rfl,Ln.sameB _ rfl,True.intro⟩ rfl ?_)|(with_reducible refine wP ?_)))
   all_goals (try conv=>whnf)
   ·(refine ⟨⟨_,[],[],Cut.nil _,Ln.sameB _ rfl,?_,rfl⟩⟩)
    unfold teamE;rw [if_pos hq0,hbt,if_pos (by show m = 0;omega)];rfl
   ·(refine ⟨⟨_,[],[],Cut.nil _,Ln.sameB _ rfl,?_,rfl⟩⟩)
    unfold teamE;rw [if_pos hq0,hbt,if_neg (by show m ≠ 0;omega)];rfl
theorem kept_ok (f:CFl) (c:Crew) (j:Job) (r:Nat) (hc:c.ok = true) (hj:Job.ok c j = true) (hr:r < 64):ACall Try.prog 19 [aCrew f c,aJob j,AI r] [] (fun x h=>x = .bool (keptT c j r) ∧ h = []):=by
 have hd:=(crew_d hc).2.1
 have hp:=pow_le hd
 (refine fcall_of mixed Try.func19 rfl (by decide) (hs:={}) ?k (ac:=?ac) ?c (rs:=?rs) ?r ?l ?H;(case k=>kernel_rfl);(case c=>(conv=>(lhs;cbv)));(case r=>(conv=>(lhs;cbv)));(case l=>exact Nat.le_of_ble_eq_true rfl))
 (repeat' ((try conv=>whnf);first|(with_reducible first|refine wT ?_|refine wF ?_|(refine wI (fun hq=>?_) (fun hq=>?_) <;> try simp only [zA,zE,zD,zJ,zB,zI,wK,wL] at hq)|refine wA ?_|refine wB ?_|refine wC ?_|refine wD ?_|refine wE ?_)|((with_reducible refine wN ?_ ?_);focus exact needA)|(with_reducible refine wG ?_)|(with_reducible refine wP ?_)))
 refine FLoop.of (ACalls.mono _) (X:=Nat) (fun t=>[(2,AI r),(3,.ptr 0 0),(4,.ptr 1 0),(7,AI ((t + 1:Nat):Int))]) (fun _=>[.box 3 (cCrew f c),.box 6 (cJob j)]) (fun t=>t + 1 ≤ 2 ^ c.people.length ∧ ∀ u,1 ≤ u → u ≤ t → brokenT c j u &&& r ≠ 0) (fun t=>2 ^ c.people.length - t) 0 ⟨⟨by omega,fun u h1 h2=>by omega⟩,[0,1],Cut.A,allA⟩ ?_
 rintro t ⟨ht,hx⟩
 by_cases hlt:t + 1 < 2 ^ c.people.length
 ·have hti:=(isT_iff (c:=c) (t:=t + 1)).2 hlt
  have hbl:=broken_lt c j (t + 1)
  (repeat' ((try conv=>whnf);first|(with_reducible first|refine wT ?_|refine wF ?_|(refine wI (fun hq=>?_) (fun hq=>?_) <;> try simp only [zA,zE,zD,zJ,zB,zI,wK,wL] at hq)|refine wA ?_|refine wB ?_|refine wC ?_|refine wD ?_|refine wE ?_)|((with_reducible refine wN ?_ ?_);focus exact needA)|(with_reducible first|refine FBit.hasT rfl (by assumption) ?_|refine FBit.hasF rfl (by assumption) ?_|refine FBit.shrN rfl (by omega) ?_|refine FBit.half rfl ?_|refine FBit.shl1 rfl (by omega) ?_|refine Fits.inU (by omega) ?_|refine FBit.shrNI rfl (by omega) ?_|refine FBit.shrIN rfl (by omega) (by omega) ?_|refine FBit.shrI rfl (by omega) (by omega) ?_|refine FBit.shl1I rfl (by omega) ?_)|(with_reducible refine FBit.has rfl (fun hq=>?_) (fun hq=>?_))|(with_reducible first|refine FBit.and1 rfl ?_|refine FBit.andN rfl (by omega) (by omega) ?_|refine FBit.orN rfl (by omega) (by omega) ?_|refine FBit.andNotN rfl (by omega) (by omega) ?_)|(with_reducible refine wG ?_)|(refine FCall.pure ((isTeam_ok _ _ _ hd)) ⟨Ln.sameB _ rfl,Ln.sameB _ rfl,True.intro⟩ rfl ?_)|(refine FCall.pure ((refBroken_ok _ _ _ _ hc hj (by omega))) ⟨Ln.sameB _ rfl,Ln.sameB _ rfl,Ln.sameB _ rfl,True.intro⟩ rfl ?_)|(with_reducible refine wP ?_)))
  all_goals (try conv=>whnf)
  ·(refine ⟨⟨_,[],[],Cut.nil _,Ln.sameB _ rfl,?_,rfl⟩⟩)
   rw [kept_iff.2 ⟨t + 1,by omega,hlt,by omega⟩]
  ·(exact ⟨⟨(t + 1),⟨hlt,fun u h1 h2=>by by_cases e:u = t + 1;(· subst e;omega);exact hx u h1 (by omega)⟩,by show _ < _;omega,[0,1],Cut.A,allA⟩⟩)
 ·have hti:isTeamT c ((t + 1:Nat):Int) = false:=Bool.eq_false_iff.2 (fun h=>hlt (isT_iff.1 h))
  (repeat' ((try conv=>whnf);first|(with_reducible first|refine wT ?_|refine wF ?_|(refine wI (fun hq=>?_) (fun hq=>?_) <;> try simp only [zA,zE,zD,zJ,zB,zI,wK,wL] at hq)|refine wA ?_|refine wB ?_|refine wC ?_|refine wD ?_|refine wE ?_)|((with_reducible refine wN ?_ ?_);focus exact needA)|(with_reducible refine wG ?_)|(refine FCall.pure ((isTeam_ok _ _ _ hd)) ⟨Ln.sameB _ rfl,Ln.sameB _ rfl,True.intro⟩ rfl ?_)|(with_reducible refine wP ?_)))
  all_goals (try conv=>whnf)
  (refine ⟨⟨_,[],[],Cut.nil _,Ln.sameB _ rfl,?_,rfl⟩⟩)
  refine bool_eq (not_of fun h=>?_).symm
  obtain ⟨u,h1,h2,h3⟩:=kept_iff.1 h
  exact hx u h1 (by omega) h3
theorem refWhy_ok (f:CFl) (c:Crew) (j:Job):ACall Try.prog 34 [aCrew f c,aJob j] [] (fun r h=>r = .tup 2 (ofL [AI (whyE c j).1,AI (whyE c j).2]) ∧ h = []):=by
 (refine fcall_of mixed Try.func34 rfl (by decide) (hs:={}) ?k (ac:=?ac) ?c (rs:=?rs) ?r ?l ?H;(case k=>kernel_rfl);(case c=>(conv=>(lhs;cbv)));(case r=>(conv=>(lhs;cbv)));(case l=>exact Nat.le_of_ble_eq_true rfl))
 (repeat' ((try conv=>whnf);first|(with_reducible first|refine wT ?_|refine wF ?_|(refine wI (fun hq=>?_) (fun hq=>?_) <;> try simp only [zA,zE,zD,zJ,zB,zI,wK,wL] at hq)|refine wA ?_|refine wB ?_|refine wC ?_|refine wD ?_|refine wE ?_)|((with_reducible refine wN ?_ ?_);focus exact needA)|(with_reducible refine wG ?_)|(refine FCall.pure ((refCheck_ok _ _ _)) ⟨Ln.sameB _ rfl,Ln.sameB _ rfl,True.intro⟩ rfl ?_)|(with_reducible refine wP ?_)))
 all_goals (try conv=>whnf)
 ·(refine ⟨⟨_,[],[],Cut.nil _,Ln.sameB _ rfl,?_,rfl⟩⟩)
  unfold whyE;rw [if_neg hq];rfl
 ·obtain ⟨hc,hj⟩:=checkT_0.1 hq
  have hq0:=hq
  refine FLoop.of2 (ACalls.mono _) (fun (r:Nat) (b:Int)=>[(2,.ptr 0 0),(3,.ptr 1 0),(7,AI b),(8,AI r)]) (fun _ _=>[.box 3 (cCrew f c),.box 6 (cJob j)]) (fun r b=>r ≤ 64 ∧ ((b = -1 ∧ whyS c j r = none) ∨ ∃ x:Nat,b = x ∧ x < 64 ∧ whyS c j r = some x)) (fun r _=>64 - r) 0 (-1) ⟨⟨by omega,.inl ⟨rfl,rfl⟩⟩,[0,1],Cut.A,allA⟩ ?_
  rintro r b ⟨hr,hx⟩
  by_cases hlt:r < 64
  ·rcases hx with ⟨rfl,hx⟩|⟨x,rfl,hx6,hx⟩
   ·(repeat' ((try conv=>whnf);first|(with_reducible first|refine wT ?_|refine wF ?_|(refine wI (fun hq=>?_) (fun hq=>?_) <;> try simp only [zA,zE,zD,zJ,zB,zI,wK,wL] at hq)|refine wA ?_|refine wB ?_|refine wC ?_|refine wD ?_|refine wE ?_)|((with_reducible refine wN ?_ ?_);focus exact needA)|(with_reducible refine wG ?_)|(refine FCall.pure ((kept_ok _ _ _ _ hc hj hlt)) ⟨Ln.sameB _ rfl,Ln.sameB _ rfl,Ln.sameB _ rfl,True.intro⟩ rfl ?_)|(with_reducible refine wP ?_)))
    all_goals (try conv=>whnf)
    ·(exact ⟨⟨(r + 1),r,⟨hlt,.inr ⟨r,rfl,hlt,by rw [whyS,hq,hx];rfl⟩⟩,by show _ < _;omega,[0,1],Cut.A,allA⟩⟩)
    ·(exact ⟨⟨(r + 1),(-1),⟨hlt,.inl ⟨rfl,by rw [whyS,hq,hx];rfl⟩⟩,by show _ < _;omega,[0,1],Cut.A,allA⟩⟩)
   ·(repeat' ((try conv=>whnf);first|(with_reducible first|refine wT ?_|refine wF ?_|(refine wI (fun hq=>?_) (fun hq=>?_) <;> try simp only [zA,zE,zD,zJ,zB,zI,wK,wL] at hq)|refine wA ?_|refine wB ?_|refine wC ?_|refine wD ?_|refine wE ?_)|((with_reducible refine wN ?_ ?_);focus exact needA)|(with_reducible refine wG ?_)|(refine FCall.pure ((kept_ok _ _ _ _ hc hj hlt)) ⟨Ln.sameB _ rfl,Ln.sameB _ rfl,Ln.sameB _ rfl,True.intro⟩ rfl ?_)|(refine FCall.pure ((size_ok r (by omega))) ⟨Ln.sameB _ rfl,True.intro⟩ rfl ?_)|(refine FCall.pure ((size_ok x (by omega))) ⟨Ln.sameB _ rfl,True.intro⟩ rfl ?_)|(with_reducible refine wP ?_)))
    all_goals (try conv=>whnf)
    ·(exact ⟨⟨(r + 1),r,⟨hlt,.inr ⟨r,rfl,hlt,by rw [whyS,hx,show keptT c j r = false by assumption,if_pos (by simp only [Bool.not_false,Bool.true_and,decide_eq_true_eq];omega)]⟩⟩,by show _ < _;omega,[0,1],Cut.A,allA⟩⟩)
    ·(exact ⟨⟨(r + 1),x,⟨hlt,.inr ⟨x,rfl,hx6,by rw [whyS,hx,if_neg (by simp only [Bool.and_eq_true,decide_eq_true_eq];omega)]⟩⟩,by show _ < _;omega,[0,1],Cut.A,allA⟩⟩)
    ·(exact ⟨⟨(r + 1),x,⟨hlt,.inr ⟨x,rfl,hx6,by rw [whyS,hx,show keptT c j r = true by assumption,if_neg (by simp)]⟩⟩,by show _ < _;omega,[0,1],Cut.A,allA⟩⟩)
  ·obtain rfl:r = 64:=by omega
   rcases hx with ⟨rfl,hx⟩|⟨x,rfl,hx6,hx⟩
   ·(repeat' ((try conv=>whnf);first|(with_reducible first|refine wT ?_|refine wF ?_|(refine wI (fun hq=>?_) (fun hq=>?_) <;> try simp only [zA,zE,zD,zJ,zB,zI,wK,wL] at hq)|refine wA ?_|refine wB ?_|refine wC ?_|refine wD ?_|refine wE ?_)|((with_reducible refine wN ?_ ?_);focus exact needA)|(with_reducible refine wG ?_)|(with_reducible refine wP ?_)))
    all_goals (try conv=>whnf)
    (refine ⟨⟨_,[],[],Cut.nil _,Ln.sameB _ rfl,?_,rfl⟩⟩)
    unfold whyE;rw [if_pos hq0,hx];rfl
   ·(repeat' ((try conv=>whnf);first|(with_reducible first|refine wT ?_|refine wF ?_|(refine wI (fun hq=>?_) (fun hq=>?_) <;> try simp only [zA,zE,zD,zJ,zB,zI,wK,wL] at hq)|refine wA ?_|refine wB ?_|refine wC ?_|refine wD ?_|refine wE ?_)|((with_reducible refine wN ?_ ?_);focus exact needA)|(with_reducible refine wG ?_)|(with_reducible refine wP ?_)))
    all_goals (try conv=>whnf)
    (refine ⟨⟨_,[],[],Cut.nil _,Ln.sameB _ rfl,?_,rfl⟩⟩)
    unfold whyE;rw [if_pos hq0,hx];rfl
end Go.Proofs.Ytdipcdallenmkaa

namespace Go.Proofs.Ytdipcdallenmkaa
open Go.RowKit

noncomputable def vitS (c:Crew) (j:Job):Nat → Nat × Bool
 | 0=>(2 ^ c.people.length - 1,false)
 | t + 1=>if fitsT c j (t + 1) then ((vitS c j t).1 &&& (t + 1),true) else vitS c j t
noncomputable def vitT (c:Crew) (j:Job):Nat:=(vitS c j (2 ^ c.people.length - 1)).1
def membI (c:Crew) (s:Nat):List Int:=(memb c s).map fun (i:Nat)=>(i:Int)
def memI (c:Crew) (s i:Nat):List Int:=(memF c s i).map fun (i:Nat)=>(i:Int)
theorem memI_yes {c:Crew} {s i:Nat} (h:i < c.people.length) (hb:s.testBit i = true):memI c s i = (i:Int) :: memI c s (i + 1):=by
 unfold memI;rw [memF_yes h hb];rfl
theorem memI_no {c:Crew} {s i:Nat} (h:i < c.people.length) (hb:s.testBit i = false):memI c s i = memI c s (i + 1):=by
 unfold memI;rw [memF_no h hb]
theorem memI_end {c:Crew} {s i:Nat} (h:c.people.length ≤ i):memI c s i = []:=by
 unfold memI;rw [memF_end h];rfl
noncomputable def vitalE (c:Crew) (j:Job):List Int × Int:=if checkT c j = 0 then (if (bestT c j).1 = 0 then ([],3) else (membI c (vitT c j),0)) else ([],checkT c j)
theorem teamE_0 {c:Crew} {j:Job} (h:(teamE c j).2.2 = 0):checkT c j = 0 ∧ (bestT c j).1 ≠ 0:=by
 unfold teamE at h
 split at h
 ·rename_i h0
  split at h
  ·cases h
  ·rename_i h1;exact ⟨h0,h1⟩
 ·contradiction
theorem vitalE_no {c:Crew} {j:Job} (h:(teamE c j).2.2 ≠ 0):vitalE c j = ([],(teamE c j).2.2):=by
 unfold teamE at *
 unfold vitalE
 by_cases h0:checkT c j = 0
 ·by_cases h1:(bestT c j).1 = 0
  ·simp only [if_pos h0,if_pos h1]
  ·rw [if_pos h0,if_neg h1] at h;exact (h rfl).elim
 ·simp only [if_neg h0]
theorem vitS_le (c:Crew) (j:Job):∀ t,(vitS c j t).1 ≤ 2 ^ c.people.length - 1
 | 0=>Nat.le_refl _
 | t + 1=>by
  unfold vitS
  split
  ·exact Nat.le_trans Nat.and_le_left (vitS_le c j t)
  ·exact vitS_le c j t
set_option maxHeartbeats 4000000
set_option maxRecDepth 100000
theorem refVital_ok (f:CFl) (c:Crew) (j:Job):ACall Try.prog 36 [aCrew f c,aJob j] [] (fun r h=>r = .tup 2 (ofL [outI (vitalE c j).1,AI (vitalE c j).2]) ∧ h = []):=by
 (refine fcall_of mixed Try.func36 rfl (by decide) (hs:={}) ?k (ac:=?ac) ?c (rs:=?rs) ?r ?l ?H;(case k=>kernel_rfl);(case c=>(conv=>(lhs;cbv)));(case r=>(conv=>(lhs;cbv)));(case l=>exact Nat.le_of_ble_eq_true rfl))
 (repeat' ((try conv=>whnf);first|(with_reducible first|refine wT ?_|refine wF ?_|(refine wI (fun hq=>?_) (fun hq=>?_) <;> try simp only [zA,zE,zD,zJ,zB,zI,wK,wL] at hq)|refine wA ?_|refine wB ?_|refine wC ?_|refine wD ?_|refine wE ?_)|((with_reducible refine wN ?_ ?_);focus exact needA)|(with_reducible refine wG ?_)|(refine FCall.pure ((refTeam_ok _ _ _)) ⟨Ln.sameB _ rfl,Ln.sameB _ rfl,True.intro⟩ rfl ?_)|(with_reducible refine wP ?_)))
 all_goals (try conv=>whnf)
 ·rw [vitalE_no hq]
  exact ⟨⟨.tup 2 (ofL [outI [],AI (teamE c j).2.2]),[],[],Cut.nil _,Ln.A,rfl,rfl⟩⟩
 ·obtain ⟨h0,h1⟩:=teamE_0 hq
  obtain ⟨hc,hj⟩:=checkT_0.1 h0
  have hd:=(crew_d hc).2.1
  have hp:=pow_le hd
  have hvE:vitalE c j = (membI c (vitT c j),0):=by unfold vitalE;rw [if_pos h0,if_neg h1]
  rw [hvE]
  clear hq
  (repeat' ((try conv=>whnf);first|(with_reducible first|refine wT ?_|refine wF ?_|(refine wI (fun hq=>?_) (fun hq=>?_) <;> try simp only [zA,zE,zD,zJ,zB,zI,wK,wL] at hq)|refine wA ?_|refine wB ?_|refine wC ?_|refine wD ?_|refine wE ?_)|((with_reducible refine wN ?_ ?_);focus exact needA)|(with_reducible first|refine FBit.hasT rfl (by assumption) ?_|refine FBit.hasF rfl (by assumption) ?_|refine FBit.shrN rfl (by omega) ?_|refine FBit.half rfl ?_|refine FBit.shl1 rfl (by omega) ?_|refine Fits.inU (by omega) ?_|refine FBit.shrNI rfl (by omega) ?_|refine FBit.shrIN rfl (by omega) (by omega) ?_|refine FBit.shrI rfl (by omega) (by omega) ?_|refine FBit.shl1I rfl (by omega) ?_)|(with_reducible refine FBit.has rfl (fun hq=>?_) (fun hq=>?_))|(with_reducible first|refine FBit.and1 rfl ?_|refine FBit.andN rfl (by omega) (by omega) ?_|refine FBit.orN rfl (by omega) (by omega) ?_|refine FBit.andNotN rfl (by omega) (by omega) ?_)|(with_reducible refine wG ?_)|(with_reducible refine wP ?_)))
  all_goals (try conv=>whnf)
  refine FLoop.of2 (ACalls.mono _) (fun (t a:Nat)=>[(2,.ptr 0 0),(3,.ptr 1 0),(9,AI a),(10,AI ((t + 1:Nat):Int))]) (fun _ _=>[.box 3 (cCrew f c),.box 6 (cJob j)]) (fun t a=>t + 1 ≤ 2 ^ c.people.length ∧ (vitS c j t).1 = a) (fun t _=>2 ^ c.people.length - t) 0 (2 ^ c.people.length - 1) ⟨⟨by omega,rfl⟩,[0,1],Cut.A,allA⟩ ?_
  rintro t a ⟨ht,hx⟩
  have ha:=vitS_le c j t
  rw [hx] at ha
  by_cases hlt:t + 1 < 2 ^ c.people.length
  ·have hti:=(isT_iff (c:=c) (t:=t + 1)).2 hlt
   (repeat' ((try conv=>whnf);first|(with_reducible first|refine wT ?_|refine wF ?_|(refine wI (fun hq=>?_) (fun hq=>?_) <;> try simp only [zA,zE,zD,zJ,zB,zI,wK,wL] at hq)|refine wA ?_|refine wB ?_|refine wC ?_|refine wD ?_|refine wE ?_)|((with_reducible refine wN ?_ ?_);focus exact needA)|(with_reducible first|refine FBit.hasT rfl (by assumption) ?_|refine FBit.hasF rfl (by assumption) ?_|refine FBit.shrN rfl (by omega) ?_|refine FBit.half rfl ?_|refine FBit.shl1 rfl (by omega) ?_|refine Fits.inU (by omega) ?_|refine FBit.shrNI rfl (by omega) ?_|refine FBit.shrIN rfl (by omega) (by omega) ?_|refine FBit.shrI rfl (by omega) (by omega) ?_|refine FBit.shl1I rfl (by omega) ?_)|(with_reducible refine FBit.has rfl (fun hq=>?_) (fun hq=>?_))|(with_reducible first|refine FBit.and1 rfl ?_|refine FBit.andN rfl (by omega) (by omega) ?_|refine FBit.orN rfl (by omega) (by omega) ?_|refine FBit.andNotN rfl (by omega) (by omega) ?_)|(with_reducible refine wG ?_)|(refine FCall.pure ((isTeam_ok _ _ _ hd)) ⟨Ln.sameB _ rfl,Ln.sameB _ rfl,True.intro⟩ rfl ?_)|(refine FCall.pure ((fits_ok _ _ _ _ hc hj (by omega))) ⟨Ln.sameB _ rfl,Ln.sameB _ rfl,Ln.sameB _ rfl,True.intro⟩ rfl ?_)|(with_reducible refine wP ?_)))
   all_goals (try conv=>whnf)
   ·(exact ⟨⟨(t + 1),(a &&& (t + 1)),⟨hlt,by rw [vitS,if_pos (by assumption),hx]⟩,by show _ < _;omega,[0,1],Cut.A,allA⟩⟩)
   ·(exact ⟨⟨(t + 1),a,⟨hlt,by rw [vitS,if_neg (by rw [show fitsT c j (t + 1) = false by assumption];decide),hx]⟩,by show _ < _;omega,[0,1],Cut.A,allA⟩⟩)
  ·have hti:isTeamT c ((t + 1:Nat):Int) = false:=Bool.eq_false_iff.2 (fun h=>hlt (isT_iff.1 h))
   have hvt:vitT c j = a:=by unfold vitT;rw [show 2 ^ c.people.length - 1 = t by omega];exact hx
   rw [hvt]
   (repeat' ((try conv=>whnf);first|(with_reducible first|refine wT ?_|refine wF ?_|(refine wI (fun hq=>?_) (fun hq=>?_) <;> try simp only [zA,zE,zD,zJ,zB,zI,wK,wL] at hq)|refine wA ?_|refine wB ?_|refine wC ?_|refine wD ?_|refine wE ?_)|((with_reducible refine wN ?_ ?_);focus exact needA)|(with_reducible refine wG ?_)|(refine FCall.pure ((isTeam_ok _ _ _ hd)) ⟨Ln.sameB _ rfl,Ln.sameB _ rfl,True.intro⟩ rfl ?_)|(with_reducible refine wP ?_)))
   all_goals (try conv=>whnf)
   refine FLoop.of (ACalls.mono _) (X:=Nat × Nat × List Int) (fun x=>[(2,.ptr 0 0),(9,AI a),(11,match x.2.1 with|0=>nilS|m + 1=>.own 1 (m + 1)),(12,AI x.1)]) (fun x=>match x.2.1 with
    | 0=>[.box 3 (cCrew f c)]
    | m + 1=>[.box 3 (cCrew f c),rowI (m + 1) x.2.2]) (fun x=>x.1 ≤ c.people.length ∧ x.2.1 = x.2.2.length ∧ x.2.2 ++ memI c a x.1 = membI c a ∧ x.2.1 ≤ x.1) (fun x=>c.people.length - x.1) (0,0,[]) ⟨⟨Nat.zero_le _,rfl,rfl,Nat.le_refl _⟩,[0],Cut.A,allA⟩ ?_
   rintro ⟨i,m,l⟩ ⟨hi,hm,hl,hmi⟩
   change i ≤ c.people.length at hi
   change m = l.length at hm
   change l ++ memI c a i = membI c a at hl
   change m ≤ i at hmi
   dsimp only
   have hml:m + 1 = (l ++ [(i:Int)]).length:=by rw [List.length_append,hm];rfl
   by_cases hlt:i < c.people.length
   ·by_cases hk:a.testBit i = true
    ·have hs2:(l ++ [(i:Int)]) ++ memI c a (i + 1) = membI c a:=by rw [List.append_assoc,List.singleton_append,← memI_yes hlt hk];exact hl
     rcases m with _|m
     ·obtain rfl:l = []:=List.length_eq_zero_iff.1 hm.symm
      (repeat' ((try conv=>whnf);first|(with_reducible first|refine wT ?_|refine wF ?_|(refine wI (fun hq=>?_) (fun hq=>?_) <;> try simp only [zA,zE,zD,zJ,zB,zI,wK,wL] at hq)|refine wA ?_|refine wB ?_|refine wC ?_|refine wD ?_|refine wE ?_)|((with_reducible refine wN ?_ ?_);focus exact needA)|(with_reducible refine wG ?_)|(refine FCall.pure ((has_ok _ _ (by omega))) ⟨Ln.sameB _ rfl,Ln.sameB _ rfl,True.intro⟩ rfl ?_)|(with_reducible refine wP ?_)))
      all_goals (try conv=>whnf)
      (exact ⟨⟨(i + 1,1,[] ++ [(i:Int)]),⟨hlt,hml,hs2,Nat.succ_le_succ hmi⟩,by show _ - (i + 1) < _ - i;omega,[0,1],(by (refine wO rfl rfl rfl ?_;repeat (first|exact wX|(refine wV rfl (by first|exact LnB.rowS|exact LnB.app (fun k hk=>absurd hk (Nat.not_lt_zero k)) (fun _ _=>rfl)|exact LnB.A) ?_)|(refine CutL.gone (Nat.lt_of_lt_of_le (Nat.lt_succ_self _) (Nat.le_of_ble_eq_true rfl)) ?_)))),allA⟩⟩)
     ·(repeat' ((try conv=>whnf);first|(with_reducible first|refine wT ?_|refine wF ?_|(refine wI (fun hq=>?_) (fun hq=>?_) <;> try simp only [zA,zE,zD,zJ,zB,zI,wK,wL] at hq)|refine wA ?_|refine wB ?_|refine wC ?_|refine wD ?_|refine wE ?_)|((with_reducible refine wN ?_ ?_);focus exact needA)|(with_reducible refine wG ?_)|(refine FCall.pure ((has_ok _ _ (by omega))) ⟨Ln.sameB _ rfl,Ln.sameB _ rfl,True.intro⟩ rfl ?_)|(with_reducible refine wP ?_)))
      all_goals (try conv=>whnf)
      (exact ⟨⟨(i + 1,m + 1 + 1,l ++ [(i:Int)]),⟨hlt,hml,hs2,Nat.succ_le_succ hmi⟩,by show _ - (i + 1) < _ - i;omega,[0,2],(by (refine wO rfl rfl rfl ?_;repeat (first|exact wX|(refine wV rfl (by first|exact LnB.rowS|exact LnB.app (fun k hk o ho=>int_eq (by rw [getD_snoc,if_pos (by omega)])) (fun o ho=>by show AI _ = AI _;exact int_eq (by rw [getD_snoc,if_neg (by omega),if_pos (by omega)]))|exact LnB.A) ?_)|(refine CutL.gone (Nat.lt_of_lt_of_le (Nat.lt_succ_self _) (Nat.le_of_ble_eq_true rfl)) ?_)))),allA⟩⟩)
    ·have hk:=Bool.eq_false_iff.2 hk
     have hs2:l ++ memI c a (i + 1) = membI c a:=by rw [← memI_no hlt hk];exact hl
     rcases m with _|m
     ·(repeat' ((try conv=>whnf);first|(with_reducible first|refine wT ?_|refine wF ?_|(refine wI (fun hq=>?_) (fun hq=>?_) <;> try simp only [zA,zE,zD,zJ,zB,zI,wK,wL] at hq)|refine wA ?_|refine wB ?_|refine wC ?_|refine wD ?_|refine wE ?_)|((with_reducible refine wN ?_ ?_);focus exact needA)|(with_reducible refine wG ?_)|(refine FCall.pure ((has_ok _ _ (by omega))) ⟨Ln.sameB _ rfl,Ln.sameB _ rfl,True.intro⟩ rfl ?_)|(with_reducible refine wP ?_)))
      all_goals (try conv=>whnf)
      (exact ⟨⟨(i + 1,0,l),⟨hlt,hm,hs2,Nat.le_succ_of_le hmi⟩,by show _ - (i + 1) < _ - i;omega,[0],Cut.A,allA⟩⟩)
     ·(repeat' ((try conv=>whnf);first|(with_reducible first|refine wT ?_|refine wF ?_|(refine wI (fun hq=>?_) (fun hq=>?_) <;> try simp only [zA,zE,zD,zJ,zB,zI,wK,wL] at hq)|refine wA ?_|refine wB ?_|refine wC ?_|refine wD ?_|refine wE ?_)|((with_reducible refine wN ?_ ?_);focus exact needA)|(with_reducible refine wG ?_)|(refine FCall.pure ((has_ok _ _ (by omega))) ⟨Ln.sameB _ rfl,Ln.sameB _ rfl,True.intro⟩ rfl ?_)|(with_reducible refine wP ?_)))
      all_goals (try conv=>whnf)
      (exact ⟨⟨(i + 1,m + 1,l),⟨hlt,hm,hs2,Nat.le_succ_of_le hmi⟩,by show _ - (i + 1) < _ - i;omega,[0,1],Cut.A,allA⟩⟩)
   ·have hE:membI c a = l:=by rw [← hl,memI_end (by omega),List.append_nil]
    rcases m with _|m
    ·obtain rfl:l = []:=List.length_eq_zero_iff.1 hm.symm
     (repeat' ((try conv=>whnf);first|(with_reducible first|refine wT ?_|refine wF ?_|(refine wI (fun hq=>?_) (fun hq=>?_) <;> try simp only [zA,zE,zD,zJ,zB,zI,wK,wL] at hq)|refine wA ?_|refine wB ?_|refine wC ?_|refine wD ?_|refine wE ?_)|((with_reducible refine wN ?_ ?_);focus exact needA)|(with_reducible refine wG ?_)|(refine FCall.pure ((has_ok _ _ (by omega))) ⟨Ln.sameB _ rfl,Ln.sameB _ rfl,True.intro⟩ rfl ?_)|(with_reducible refine wP ?_)))
     all_goals (try conv=>whnf)
     rw [hE]
     exact ⟨⟨.tup 2 (ofL [outI [],AI 0]),[],[],Cut.nil _,Ln.A,rfl,rfl⟩⟩
    ·(repeat' ((try conv=>whnf);first|(with_reducible first|refine wT ?_|refine wF ?_|(refine wI (fun hq=>?_) (fun hq=>?_) <;> try simp only [zA,zE,zD,zJ,zB,zI,wK,wL] at hq)|refine wA ?_|refine wB ?_|refine wC ?_|refine wD ?_|refine wE ?_)|((with_reducible refine wN ?_ ?_);focus exact needA)|(with_reducible refine wG ?_)|(refine FCall.pure ((has_ok _ _ (by omega))) ⟨Ln.sameB _ rfl,Ln.sameB _ rfl,True.intro⟩ rfl ?_)|(with_reducible refine wP ?_)))
     all_goals (try conv=>whnf)
     rw [hE]
     exact ⟨⟨.tup 2 (ofL [outI l,AI 0]),[],[],Cut.nil _,Ln.tupN ⟨⟨True.intro,Ln.out (goneB rfl) rfl (Nat.le_refl _) hm (fun _ _ _ _=>rfl)⟩,Ln.A⟩,rfl,rfl⟩⟩
end Go.Proofs.Ytdipcdallenmkaa

namespace Go.Proofs.Ytdipcdallenmkaa
open Go.RowKit

def nextT (n:Nat) (R:Nat → Nat → Bool) (D:Nat → Int) (a:Nat):Nat:=((List.range n).find? fun x=>decide (D x = D a - 1) && R a x).getD 0
def chainL (n:Nat) (R:Nat → Nat → Bool) (D:Nat → Int):Nat → Nat → List Int
 | 0,_=>[]
 | k + 1,a=>(nextT n R D a:Int) :: chainL n R D k (nextT n R D a)
theorem nextT_eq {n:Nat} {R:Nat → Nat → Bool} {D:Nat → Int} {a q:Nat} (hq:q < n) (h:∀ x,x < q → ¬ (D x = D a - 1 ∧ R a x = true)) (h1:D q = D a - 1) (h2:R a q = true):nextT n R D a = q:=by
 unfold nextT
 have:(List.range n).find? (fun x=>decide (D x = D a - 1) && R a x) = some q:=by
  rw [List.find?_range_eq_some]
  refine ⟨by simp [h1,h2],by simpa using hq,fun j hj=>?_⟩
  have:=h j hj
  cases hr:R a j
  ·simp
  ·simp only [Bool.and_true,Bool.not_eq_true',decide_eq_false_iff_not]
   exact fun e=>this ⟨e,hr⟩
 rw [this];rfl
noncomputable def relOf (c:Crew) (j:Job) (s:Nat):Nat → Nat → Bool:=relT c s (lawOf c j).level
noncomputable def backT (c:Crew) (j:Job) (s:Nat):Nat → Int:=dist c.langs.toNat (relOf c j s) j.to.toNat
noncomputable def chainT (c:Crew) (j:Job) (s:Nat):List Int:=j.fr :: chainL c.langs.toNat (relOf c j s) (backT c j s) (backT c j s j.fr.toNat).toNat j.fr.toNat
noncomputable def chainE (c:Crew) (j:Job) (m:Int):List Int × Int:=if checkTm c j m = 0 then (if backT c j m.toNat j.fr.toNat < 0 then ([],3) else (chainT c j m.toNat,0)) else ([],checkTm c j m)
theorem rel_sym (c:Crew) (s:Nat) (l:Int) (a b:Nat):relT c s l a b = relT c s l b a:=by
 unfold relT joinsT
 congr 1;funext i;exact Bool.and_comm _ _
theorem next_ex {n:Nat} {R:Nat → Nat → Bool} (hs:∀ a b,R a b = R b a) {t a:Nat} (h:0 < dist n R t a):∃ x,x < n ∧ dist n R t x = dist n R t a - 1 ∧ R a x = true:=by
 obtain ⟨x,h1,h2,h3⟩:=dist_pred h
 exact ⟨x,h1,h2,by rw [hs];exact h3⟩
set_option maxHeartbeats 4000000
set_option maxRecDepth 100000
theorem refChain_ok (f:CFl) (c:Crew) (j:Job) (m:Int):ACall Try.prog 29 [aCrew f c,aJob j,AI m] [] (fun r h=>r = .tup 2 (ofL [outI (chainE c j m).1,AI (chainE c j m).2]) ∧ h = []):=by
 (refine fcall_of mixed Try.func29 rfl (by decide) (hs:={}) ?k (ac:=?ac) ?c (rs:=?rs) ?r ?l ?H;(case k=>kernel_rfl);(case c=>(conv=>(lhs;cbv)));(case r=>(conv=>(lhs;cbv)));(case l=>exact Nat.le_of_ble_eq_true rfl))
 (repeat' ((try conv=>whnf);first|(with_reducible first|refine wT ?_|refine wF ?_|(refine wI (fun hq=>?_) (fun hq=>?_) <;> try simp only [zA,zE,zD,zJ,zB,zI,wK,wL] at hq)|refine wA ?_|refine wB ?_|refine wC ?_|refine wD ?_|refine wE ?_)|((with_reducible refine wN ?_ ?_);focus exact needA)|(with_reducible refine wG ?_)|(refine FCall.pure ((checkTeam_ok _ _ _ _)) ⟨Ln.sameB _ rfl,Ln.sameB _ rfl,Ln.sameB _ rfl,True.intro⟩ rfl ?_)|(with_reducible refine wP ?_)))
 all_goals (try conv=>whnf)
 ·have hcE:chainE c j m = ([],checkTm c j m):=by unfold chainE;rw [if_neg hq]
  rw [hcE]
  exact ⟨⟨.tup 2 (ofL [outI [],AI (checkTm c j m)]),[],[],Cut.nil _,Ln.A,rfl,rfl⟩⟩
 ·obtain ⟨hc,hj,h0,h1⟩:=checkTm_0 hq
  obtain ⟨s,rfl⟩:∃ s:Nat,m = s:=⟨m.toNat,by omega⟩
  have hq0:=hq
  clear hq h0 h1
  obtain ⟨d1,d2,d3,d4,d5⟩:=crew_d hc
  obtain ⟨j1,j2,j3,j4,j5,j6,j7⟩:=job_d hj
  obtain ⟨n,hn⟩:∃ n:Nat,c.langs = n:=⟨c.langs.toNat,by omega⟩
  have hnn:c.langs.toNat = n:=by omega
  obtain ⟨a,ha⟩:∃ a:Nat,j.fr = a:=⟨j.fr.toNat,by omega⟩
  obtain ⟨b,hb⟩:∃ b:Nat,j.to = b:=⟨j.to.toNat,by omega⟩
  have haa:j.fr.toNat = a:=by omega
  have hbb:j.to.toNat = b:=by omega
  have hdl:∀ {x:Nat},(distL n (relT c s (lawOf c j).level) x).length = n:=by simp [distL]
  have hdg:∀ {x:Nat},x < n → (distL n (relT c s (lawOf c j).level) b).getD x 0 = dist n (relT c s (lawOf c j).level) b x:=fun h=>getD_range h
  have hB:backT c j s = dist n (relT c s (lawOf c j).level) b:=by unfold backT relOf;rw [hnn,hbb]
  have hga:=hdg (x:=a) (by omega)
  have hbl:=hdl (x:=b)
  have hfar:=refFar_i f c s (lawOf c j).level j.to n hc hn (by omega)
  rw [hbb] at hfar
  (repeat' ((try conv=>whnf);first|(with_reducible first|refine wT ?_|refine wF ?_|(refine wI (fun hq=>?_) (fun hq=>?_) <;> try simp only [zA,zE,zD,zJ,zB,zI,wK,wL] at hq)|refine wA ?_|refine wB ?_|refine wC ?_|refine wD ?_|refine wE ?_)|((with_reducible refine wN ?_ ?_);focus exact needA)|(with_reducible refine wG ?_)|(refine FCall.pure (hfar) ⟨Ln.sameB _ rfl,Ln.sameB _ rfl,Ln.sameB _ rfl,Ln.sameB _ rfl,True.intro⟩ rfl ?_)|(with_reducible refine wP ?_)))
  all_goals (try conv=>whnf)
  ·have hneg:dist n (relT c s (lawOf c j).level) b a < 0:=by rw [← hga,← haa];exact hq
   have hcE:chainE c j s = ([],3):=by unfold chainE;rw [if_pos hq0,if_pos (by rw [Int.toNat_natCast,hB,haa];exact hneg)]
   rw [hcE]
   exact ⟨⟨.tup 2 (ofL [outI [],AI 3]),[],[],Cut.nil _,Ln.A,rfl,rfl⟩⟩
  ·rw [haa,hga] at hq
   obtain ⟨k,hk⟩:∃ k:Nat,dist n (relT c s (lawOf c j).level) b a = k:=⟨(dist n (relT c s (lawOf c j).level) b a).toNat,by omega⟩
   generalize hR:relT c s (lawOf c j).level = R at *
   have hRs:∀ a b,R a b = R b a:=fun a b=>by rw [← hR];exact rel_sym _ _ _ _ _
   have hRj:∀ a b,joinsT c s (lawOf c j).level a b = R a b:=fun a b=>by rw [← hR];rfl
   have hcE:chainE c j s = ((a:Int) :: chainL n R (dist n R b) k a,0):=by
    unfold chainE
    rw [if_pos hq0,if_neg (by rw [Int.toNat_natCast,hB,haa];omega)]
    unfold chainT
    rw [Int.toNat_natCast,hB,haa,hk,hnn,ha]
    unfold relOf
    rw [hR];rfl
   rw [hcE]
   generalize hW:(a:Int) :: chainL n R (dist n R b) k a = W
   have hkn:=dist_lt (R:=R) (a:=b) (b:=a) (n:=n) (by omega)
   refine FLoop.of4 (ACalls.mono _) (fun (e k m:Nat) (l:List Int)=>[(2,AI s),(3,.ptr 0 0),(4,.ptr 1 0),(9,AI (lawOf c j).level),(10,aInts false false (distL n R b)),(11,match m with|0=>aInts false true [(a:Int)]|m + 1=>.own 2 (m + 2)),(12,AI e)]) (fun e k m l=>match m with
    | 0=>[.box 3 (cCrew f c),.box 6 (cJob j)]
    | m + 1=>[.box 3 (cCrew f c),.box 6 (cJob j),rowI (m + 2) l]) (fun e k m l=>e < n ∧ dist n R b e = k ∧ m + 1 = l.length ∧ l ++ chainL n R (dist n R b) k e = W ∧ m + k < n ∧ (m = 0 → e = a ∧ l = [(a:Int)])) (fun e k m l=>k) a k 0 [(a:Int)] ⟨⟨by omega,hk,rfl,hW,by omega,fun _=>⟨rfl,rfl⟩⟩,[0,1],Cut.A,?vals⟩ ?_
   case vals=>exact ⟨Ln.A,Ln.A,Ln.A,Ln.A,Ln.A,Ln.sl _ _ _ _ _ _ _ (fun _=>rfl) (fun k hk o ho=>by obtain rfl:k = 0:=(by omega);rw [← ha];rfl),Ln.A,True.intro⟩
   rintro e k m l ⟨he,hke,hml,hl,hmk,hm0⟩
   have hge:=hdg he
   by_cases hab:e = b
   ·subst hab
    rw [dist_self] at hke
    obtain rfl:k = 0:=by omega
    rw [chainL,List.append_nil] at hl
    rcases m with _|m
    ·have:=(hm0 rfl).1;omega
    ·(repeat' ((try conv=>whnf);first|(with_reducible first|refine wT ?_|refine wF ?_|(refine wI (fun hq=>?_) (fun hq=>?_) <;> try simp only [zA,zE,zD,zJ,zB,zI,wK,wL] at hq)|refine wA ?_|refine wB ?_|refine wC ?_|refine wD ?_|refine wE ?_)|((with_reducible refine wN ?_ ?_);focus exact needA)|(with_reducible refine wG ?_)|(with_reducible refine wP ?_)))
     all_goals (try conv=>whnf)
     rw [← hl]
     exact ⟨⟨.tup 2 (ofL [outI l,AI 0]),[],[],Cut.nil _,Ln.tupN ⟨⟨True.intro,Ln.out (goneB rfl) rfl (Nat.le_refl _) hml (fun _ _ _ _=>rfl)⟩,Ln.A⟩,rfl,rfl⟩⟩
   ·obtain ⟨k,rfl⟩:∃ k',k = k' + 1:=⟨k - 1,by
     have h0:dist n R b e ≠ 0:=fun h=>hab (dist_zero h).symm
     omega⟩
    rcases m with _|m
    ·obtain ⟨hea,hla⟩:=hm0 rfl
     subst hla
     (repeat' ((try conv=>whnf);first|(with_reducible first|refine wT ?_|refine wF ?_|(refine wI (fun hq=>?_) (fun hq=>?_) <;> try simp only [zA,zE,zD,zJ,zB,zI,wK,wL] at hq)|refine wA ?_|refine wB ?_|refine wC ?_|refine wD ?_|refine wE ?_)|((with_reducible refine wN ?_ ?_);focus exact needA)|(with_reducible refine wG ?_)|(with_reducible refine wP ?_)))
     all_goals (try conv=>whnf)
     refine FLoop.of (ACalls.mono _) (X:=Nat) (fun q=>[(2,AI s),(3,.ptr 0 0),(4,.ptr 1 0),(9,AI (lawOf c j).level),(10,aInts false false (distL n R b)),(11,aInts false true [(a:Int)]),(12,AI e),(13,AI q)]) (fun _=>[.box 3 (cCrew f c),.box 6 (cJob j)]) (fun q=>q ≤ n ∧ ∀ x,x < q → ¬ (dist n R b x = dist n R b e - 1 ∧ R e x = true)) (fun q=>n - q) 0 ⟨⟨Nat.zero_le _,fun x hx=>by omega⟩,[0,1],Cut.A,allA⟩ ?_
     rintro q ⟨hq1,hno⟩
     by_cases hql:q < n
     ·have hgq:=hdg hql
      (repeat' ((try conv=>whnf);first|(with_reducible first|refine wT ?_|refine wF ?_|(refine wI (fun hq=>?_) (fun hq=>?_) <;> try simp only [zA,zE,zD,zJ,zB,zI,wK,wL] at hq)|refine wA ?_|refine wB ?_|refine wC ?_|refine wD ?_|refine wE ?_)|((with_reducible refine wN ?_ ?_);focus exact needA)|(with_reducible refine wG ?_)|(refine FCall.pure ((joins_ok f c s (lawOf c j).level e q hc (by omega) (by omega))) ⟨Ln.sameB _ rfl,Ln.sameB _ rfl,Ln.sameB _ rfl,Ln.sameB _ rfl,Ln.sameB _ rfl,True.intro⟩ rfl ?_)|(with_reducible refine wP ?_)))
      all_goals (try conv=>whnf)
      ·have hyes:R e q = true:=by rw [← hRj];exact hq
       have hdq:dist n R b q = dist n R b e - 1:=by omega
       have hnx:=nextT_eq (D:=dist n R b) hql hno hdq hyes
       have hdk:dist n R b q = k:=by omega
       have hl2:[(a:Int)] ++ [(q:Int)] ++ chainL n R (dist n R b) k q = W:=by rw [← hl,chainL,hnx,List.append_assoc];rfl
       (exact ⟨⟨q,k,1,([(a:Int)] ++ [(q:Int)]),⟨hql,hdk,rfl,hl2,by omega,fun h=>by cases h⟩,by show k < k + 1;omega,[0,1,2],(by (refine wO rfl rfl rfl ?_;repeat (first|exact wX|(refine wV rfl (by first|exact LnB.rowS|exact LnB.app (fun k hk o ho=>by obtain rfl:k = 0:=(by omega);rfl) (fun o ho=>rfl)|exact LnB.A) ?_)|(refine CutL.gone (Nat.lt_of_lt_of_le (Nat.lt_succ_self _) (Nat.le_of_ble_eq_true rfl)) ?_)))),allA⟩⟩)
      ·(exact ⟨⟨(q + 1),⟨hql,fun x hx=>by by_cases e':x = q;(· subst e';rw [← hRj];intro h;rw [hq] at h;cases h.2);exact hno x (by omega)⟩,by show _ < _;omega,[0,1],Cut.A,allA⟩⟩)
      ·(exact ⟨⟨(q + 1),⟨hql,fun x hx=>by by_cases e':x = q;(· subst e';intro h;omega);exact hno x (by omega)⟩,by show _ < _;omega,[0,1],Cut.A,allA⟩⟩)
     ·exfalso
      obtain ⟨x,hx1,hx2,hx3⟩:=next_ex (n:=n) hRs (t:=b) (a:=e) (by omega)
      exact hno x (by omega) ⟨hx2,hx3⟩
    ·(repeat' ((try conv=>whnf);first|(with_reducible first|refine wT ?_|refine wF ?_|(refine wI (fun hq=>?_) (fun hq=>?_) <;> try simp only [zA,zE,zD,zJ,zB,zI,wK,wL] at hq)|refine wA ?_|refine wB ?_|refine wC ?_|refine wD ?_|refine wE ?_)|((with_reducible refine wN ?_ ?_);focus exact needA)|(with_reducible refine wG ?_)|(with_reducible refine wP ?_)))
     all_goals (try conv=>whnf)
     refine FLoop.of (ACalls.mono _) (X:=Nat) (fun q=>[(2,AI s),(3,.ptr 0 0),(4,.ptr 1 0),(9,AI (lawOf c j).level),(10,aInts false false (distL n R b)),(11,.own 2 (m + 2)),(12,AI e),(13,AI q)]) (fun _=>[.box 3 (cCrew f c),.box 6 (cJob j),rowI (m + 2) l]) (fun q=>q ≤ n ∧ ∀ x,x < q → ¬ (dist n R b x = dist n R b e - 1 ∧ R e x = true)) (fun q=>n - q) 0 ⟨⟨Nat.zero_le _,fun x hx=>by omega⟩,[0,1,2],Cut.A,allA⟩ ?_
     rintro q ⟨hq1,hno⟩
     by_cases hql:q < n
     ·have hgq:=hdg hql
      (repeat' ((try conv=>whnf);first|(with_reducible first|refine wT ?_|refine wF ?_|(refine wI (fun hq=>?_) (fun hq=>?_) <;> try simp only [zA,zE,zD,zJ,zB,zI,wK,wL] at hq)|refine wA ?_|refine wB ?_|refine wC ?_|refine wD ?_|refine wE ?_)|((with_reducible refine wN ?_ ?_);focus exact needA)|(with_reducible refine wG ?_)|(refine FCall.pure ((joins_ok f c s (lawOf c j).level e q hc (by omega) (by omega))) ⟨Ln.sameB _ rfl,Ln.sameB _ rfl,Ln.sameB _ rfl,Ln.sameB _ rfl,Ln.sameB _ rfl,True.intro⟩ rfl ?_)|(with_reducible refine wP ?_)))
      all_goals (try conv=>whnf)
      ·have hyes:R e q = true:=by rw [← hRj];exact hq
       have hdq:dist n R b q = dist n R b e - 1:=by omega
       have hnx:=nextT_eq (D:=dist n R b) hql hno hdq hyes
       have hdk:dist n R b q = k:=by omega
       have hl2:l ++ [(q:Int)] ++ chainL n R (dist n R b) k q = W:=by rw [← hl,chainL,hnx,List.append_assoc];rfl
       (exact ⟨⟨q,k,(m + 2),(l ++ [(q:Int)]),⟨hql,hdk,by rw [List.length_append,← hml];rfl,hl2,by omega,fun h=>by cases h⟩,by show k < k + 1;omega,[0,1,3],(by (refine wO rfl rfl rfl ?_;repeat (first|exact wX|(refine wV rfl (by first|exact LnB.rowS|exact LnB.app (fun k hk o ho=>int_eq (by rw [getD_snoc,if_pos (by omega)])) (fun o ho=>by show AI _ = AI _;exact int_eq (by rw [getD_snoc,if_neg (by omega),if_pos (by omega)]))|exact LnB.A) ?_)|(refine CutL.gone (Nat.lt_of_lt_of_le (Nat.lt_succ_self _) (Nat.le_of_ble_eq_true rfl)) ?_)))),allA⟩⟩)
      ·(exact ⟨⟨(q + 1),⟨hql,fun x hx=>by by_cases e':x = q;(· subst e';rw [← hRj];intro h;rw [hq] at h;cases h.2);exact hno x (by omega)⟩,by show _ < _;omega,[0,1,2],Cut.A,allA⟩⟩)
      ·(exact ⟨⟨(q + 1),⟨hql,fun x hx=>by by_cases e':x = q;(· subst e';intro h;omega);exact hno x (by omega)⟩,by show _ < _;omega,[0,1,2],Cut.A,allA⟩⟩)
     ·exfalso
      obtain ⟨x,hx1,hx2,hx3⟩:=next_ex (n:=n) hRs (t:=b) (a:=e) (by omega)
      exact hno x (by omega) ⟨hx2,hx3⟩
end Go.Proofs.Ytdipcdallenmkaa

namespace Go.Proofs.Ytdipcdallenmkaa
open Go.RowKit

def walkB (n:Nat) (R:Nat → Nat → Bool):Nat → Nat → Nat → Bool
 | 0,a,b=>decide (a = b)
 | k + 1,a,b=>(List.range n).any fun c=>walkB n R k a c && R c b
theorem walkB_iff {n:Nat} {R:Nat → Nat → Bool} {a:Nat}:∀ {k b:Nat},walkB n R k a b = true ↔ Walk n R k a b
 | 0,b=>by simp [walkB,Walk]
 | k + 1,b=>by
  simp only [walkB,Walk,List.any_eq_true,List.mem_range,Bool.and_eq_true]
  constructor
  ·rintro ⟨c,h1,h2,h3⟩;exact ⟨c,h1,walkB_iff.1 h2,h3⟩
  ·rintro ⟨c,h1,h2,h3⟩;exact ⟨c,h1,walkB_iff.2 h2,h3⟩
def distC (n:Nat) (R:Nat → Nat → Bool) (a b:Nat):Int:=match (List.range n).find? (fun k=>walkB n R k a b) with
 | some k=>k
 | none=>-1
theorem distC_eq {n:Nat} {R:Nat → Nat → Bool} {a b:Nat} (hb:b < n):dist n R a b = distC n R a b:=by
 have hlt:=dist_lt (R:=R) (a:=a) hb
 unfold distC
 rcases dist_spec n R a b with ⟨h1,h2⟩|⟨k,h1,h2,h3⟩
 ·rw [h1]
  have:(List.range n).find? (fun k=>walkB n R k a b) = none:=by
   rw [List.find?_eq_none]
   intro x _ h
   exact h2 x (walkB_iff.1 h)
  rw [this]
 ·have:(List.range n).find? (fun k=>walkB n R k a b) = some k:=by
   rw [List.find?_range_eq_some]
   refine ⟨walkB_iff.2 h2,by simp;omega,fun i hi=>?_⟩
   cases hw:walkB n R i a b
   ·rfl
   ·have:=h3 i (walkB_iff.1 hw);omega
  rw [this,h1]
def brokenC (c:Crew) (j:Job) (s:Nat):Nat :=
 soloT c j s ||| (if (pop s:Int) ≠ max j.size (lawOf c j).size then 8 else 0) ||| (if (lawOf c j).deaf && !deafT c s then 16 else 0) |||
  (if distC c.langs.toNat (relT c s (lawOf c j).level) j.fr.toNat j.to.toNat < 0 then 32 else 0)
theorem brokenC_eq {c:Crew} {j:Job} {s:Nat} (h:j.to.toNat < c.langs.toNat):brokenT c j s = brokenC c j s:=by
 unfold brokenT brokenC
 rw [distC_eq h]
def stepG (b:Nat → Nat) (c:Crew) (t:Nat) (x:Nat × Int):Nat × Int:=if (decide (0 < t) && decide (b t = 0)) && (decide (x.1 = 0) || decide (feeT c t < x.2)) then (t,feeT c t) else x
def teamG (b:Nat → Nat) (c:Crew):Nat → Nat × Int
 | 0=>(0,0)
 | t + 1=>stepG b c (t + 1) (teamG b c t)
theorem teamG_eq {c:Crew} {j:Job} {b:Nat → Nat} (h:∀ t,brokenT c j t = b t):∀ t,teamS c j t = teamG b c t
 | 0=>rfl
 | t + 1=>by
  rw [teamS,teamG,teamG_eq h t]
  unfold stepTm stepG fitsT
  rw [h]
def keptG (b:Nat → Nat) (N r:Nat):Bool:=(List.range N).any fun t=>decide (1 ≤ t) && decide (b t &&& r = 0)
theorem keptG_eq {c:Crew} {j:Job} {b:Nat → Nat} (h:∀ t,brokenT c j t = b t) {r:Nat}:keptT c j r = keptG b (2 ^ c.people.length) r:=by
 rw [Bool.eq_iff_iff,kept_iff]
 simp only [keptG,List.any_eq_true,List.mem_range,Bool.and_eq_true,decide_eq_true_eq,h]
 constructor
 ·rintro ⟨t,h1,h2,h3⟩;exact ⟨t,h2,h1,h3⟩
 ·rintro ⟨t,h1,h2,h3⟩;exact ⟨t,h2,h1,h3⟩
def whyG (k:Nat → Bool):Nat → Option Nat
 | 0=>none
 | r + 1=>if !k r && (match whyG k r with|none=>true|some b=>decide (pop r < pop b)) then some r else whyG k r
theorem whyG_eq {c:Crew} {j:Job} {k:Nat → Bool} (h:∀ r,keptT c j r = k r):∀ r,whyS c j r = whyG k r
 | 0=>rfl
 | r + 1=>by
  rw [whyS,whyG,whyG_eq h r,h]
  try rfl
theorem nextT_cong {n:Nat} {R:Nat → Nat → Bool} {D D':Nat → Int} {a:Nat} (h:∀ x,x < n → D x = D' x) (ha:a < n):nextT n R D a = nextT n R D' a ∧ nextT n R D' a < n:=by
 have:∀ l:List Nat,(∀ x ∈ l,x < n) → (l.find? fun x=>decide (D x = D a - 1) && R a x) = l.find? fun x=>decide (D' x = D' a - 1) && R a x:=by
  intro l
  induction l with
  | nil=>intro _;rfl
  | cons y l ih =>
   intro hl
   simp only [List.find?]
   rw [ih fun x hx=>hl x (by simp [hx]),h y (hl y (by simp)),h a ha]
 unfold nextT
 rw [this _ (fun x hx=>List.mem_range.1 hx)]
 refine ⟨rfl,?_⟩
 cases hf:(List.range n).find? fun x=>decide (D' x = D' a - 1) && R a x with
 | none=>simp;omega
 | some y=>have:=List.mem_of_find?_eq_some hf;simpa using this
theorem chainL_cong {n:Nat} {R:Nat → Nat → Bool} {D D':Nat → Int} (h:∀ x,x < n → D x = D' x):∀ {k a:Nat},a < n → chainL n R D k a = chainL n R D' k a
 | 0,_,_=>rfl
 | k + 1,a,ha=>by
  obtain ⟨e1,e2⟩:=nextT_cong (R:=R) h ha
  rw [chainL,chainL,e1,chainL_cong h e2]
/-- The example of the chapter. -/
def exC : Crew:=⟨3,[⟨[5,4,0],3,15,[],false,50⟩,⟨[0,5,3],3,15,[],true,40⟩,⟨[4,0,4],1,3,[7],false,30⟩,⟨[3,3,3],255,1,[],false,10⟩],[⟨2,1,false⟩,⟨4,2,false⟩,⟨3,2,true⟩,⟨5,1,false⟩]⟩
def exJ0 : Job:=⟨0,2,7,1,2,1⟩
def exJ2 : Job:=⟨0,2,7,1,1,1⟩
theorem ex_check0 : checkT exC exJ0 = 0:=by decide +kernel
theorem ex_check2 : checkT exC exJ2 = 0:=by decide +kernel
theorem ex_best : bestT exC exJ0 = (3,90):=by
 have h:teamG (brokenC exC exJ0) exC 15 = (3,90):=by decide +kernel
 unfold bestT
 rw [teamG_eq (b:=brokenC exC exJ0) (fun t=>brokenC_eq (by decide))];exact h
theorem ex_why : whyS exC exJ2 64 = some 33:=by
 have h:whyG (keptG (brokenC exC exJ2) 16) 64 = some 33:=by decide +kernel
 rw [whyG_eq (k:=keptG (brokenC exC exJ2) 16) (fun r=>keptG_eq (fun t=>brokenC_eq (by decide)))];exact h
theorem ex_team : teamE exC exJ0 = (3,90,0):=by unfold teamE;rw [if_pos ex_check0,ex_best];rfl
theorem ex_whyE : whyE exC exJ2 = (33,0):=by unfold whyE;rw [if_pos ex_check2,ex_why];rfl
theorem ex_chain : chainE exC exJ0 3 = ([0,1,2],0):=by
 have hm:checkTm exC exJ0 3 = 0:=by decide +kernel
 have hd:∀ x,x < 3 → backT exC exJ0 3 x = distC 3 (relOf exC exJ0 3) 2 x:=fun x hx=>distC_eq hx
 have h0:distC 3 (relOf exC exJ0 3) 2 0 = 2:=by decide +kernel
 have hl:(0:Int) :: chainL 3 (relOf exC exJ0 3) (distC 3 (relOf exC exJ0 3) 2) 2 0 = [0,1,2]:=by decide +kernel
 unfold chainE
 rw [if_pos hm]
 show (if backT exC exJ0 3 0 < 0 then _ else _) = _
 have hb:backT exC exJ0 3 0 = 2:=(hd 0 (by decide)).trans h0
 rw [if_neg (by rw [hb];decide)]
 have:chainT exC exJ0 3 = [0,1,2]:=by
  unfold chainT
  show (0:Int) :: chainL 3 (relOf exC exJ0 3) (backT exC exJ0 3) (backT exC exJ0 3 0).toNat 0 = _
  rw [hb,chainL_cong hd (by decide)];exact hl
 show (chainT exC exJ0 3,(0:Int)) = _
 rw [this]
end Go.Proofs.Ytdipcdallenmkaa

namespace Go.Proofs.Ytdipcdallenmkaa
open Go.RowKit

theorem same_step {a b:List Int} {i:Nat} (hl:a.length = b.length) (hi:i < a.length) (h:a.take i = b.take i) (e:a.getD i 0 = b.getD i 0):a.take (i + 1) = b.take (i + 1):=by
 have hb:i < b.length:=by omega
 rw [List.take_add_one,List.take_add_one,h]
 simp only [List.getD,List.getElem?_eq_getElem hi,List.getElem?_eq_getElem hb,Option.getD_some] at e
 rw [List.getElem?_eq_getElem hi,List.getElem?_eq_getElem hb,e]
set_option maxHeartbeats 4000000
set_option maxRecDepth 100000
theorem sameInts_ok (z e z2 e2:Bool) (a b:List Int) (h1:a.length ≤ 1000000):ACall Try.prog 30 [aInts z e a,aInts z2 e2 b] [] (fun r h=>r = .bool (decide (a = b)) ∧ h = []):=by
 (refine fcall_of mixed Try.func30 rfl (by decide) (hs:={}) ?k (ac:=?ac) ?c (rs:=?rs) ?r ?l ?H;(case k=>kernel_rfl);(case c=>(conv=>(lhs;cbv)));(case r=>(conv=>(lhs;cbv)));(case l=>exact Nat.le_of_ble_eq_true rfl))
 (repeat' ((try conv=>whnf);first|(with_reducible first|refine wT ?_|refine wF ?_|(refine wI (fun hq=>?_) (fun hq=>?_) <;> try simp only [zA,zE,zD,zJ,zB,zI,wK,wL] at hq)|refine wA ?_|refine wB ?_|refine wC ?_|refine wD ?_|refine wE ?_)|((with_reducible refine wN ?_ ?_);focus exact needA)|(with_reducible refine wG ?_)|(with_reducible refine wP ?_)))
 all_goals (try conv=>whnf)
 ·(refine ⟨⟨_,[],[],Cut.nil _,Ln.sameB _ rfl,?_,rfl⟩⟩)
  rw [decide_eq_false fun h=>hq (by rw [h])]
 ·have hl:a.length = b.length:=by omega
  refine FLoop.of (ACalls.mono _) (X:=Nat) (fun i=>[(0,aInts z e a),(1,aInts z2 e2 b),(5,AI i)]) (fun _=>[]) (fun i=>i ≤ a.length ∧ a.take i = b.take i) (fun i=>a.length - i) 0 ⟨⟨by omega,rfl⟩,[],Cut.A,allA⟩ ?_
  rintro i ⟨hi,hL⟩
  by_cases hlt:i < a.length
  ·(repeat' ((try conv=>whnf);first|(with_reducible first|refine wT ?_|refine wF ?_|(refine wI (fun hq=>?_) (fun hq=>?_) <;> try simp only [zA,zE,zD,zJ,zB,zI,wK,wL] at hq)|refine wA ?_|refine wB ?_|refine wC ?_|refine wD ?_|refine wE ?_)|((with_reducible refine wN ?_ ?_);focus exact needA)|(with_reducible refine wG ?_)|(with_reducible refine wP ?_)))
   all_goals (try conv=>whnf)
   ·(refine ⟨⟨_,[],[],Cut.nil _,Ln.sameB _ rfl,?_,rfl⟩⟩)
    rw [decide_eq_false fun h=>hq (by rw [h])]
   ·(exact ⟨⟨(i + 1),⟨by omega,same_step hl hlt hL hq⟩,by show _ < _;omega,[],Cut.A,allA⟩⟩)
  ·(repeat' ((try conv=>whnf);first|(with_reducible first|refine wT ?_|refine wF ?_|(refine wI (fun hq=>?_) (fun hq=>?_) <;> try simp only [zA,zE,zD,zJ,zB,zI,wK,wL] at hq)|refine wA ?_|refine wB ?_|refine wC ?_|refine wD ?_|refine wE ?_)|((with_reducible refine wN ?_ ?_);focus exact needA)|(with_reducible refine wG ?_)|(with_reducible refine wP ?_)))
   all_goals (try conv=>whnf)
   (refine ⟨⟨_,[],[],Cut.nil _,Ln.sameB _ rfl,?_,rfl⟩⟩)
   rw [List.take_of_length_le (by omega),List.take_of_length_le (by omega)] at hL
   rw [decide_eq_true hL]
theorem lsize_ok (s : Nat) (hs : s < 256) : ACall Try.prog 20 [AI s] [] (fun r h => r = AI (pop s : Nat) ∧ h = []) := by
  (refine fcall_of mixed Try.func20 rfl (by decide) (hs := {}) ?k (ac := ?ac) ?c (rs := ?rs) ?r ?l ?H; (case k => kernel_rfl); (case c => (conv => (lhs; cbv))); (case r => (conv => (lhs; cbv))); (case l => exact Nat.le_of_ble_eq_true rfl))
  (repeat' ((try conv => whnf); first | (with_reducible first | refine wT ?_ | refine wF ?_ | (refine wI (fun hq => ?_) (fun hq => ?_) <;> try simp only [zA, zE, zD, zJ, zB, zI, wK, wL] at hq) | refine wA ?_ | refine wB ?_ | refine wC ?_ | refine wD ?_ | refine wE ?_) | ((with_reducible refine wN ?_ ?_); focus exact needA) | (with_reducible first | refine FBit.hasT rfl (by assumption) ?_ | refine FBit.hasF rfl (by assumption) ?_ | refine FBit.shrN rfl (by omega) ?_ | refine FBit.half rfl ?_ | refine FBit.shl1 rfl (by omega) ?_ | refine Fits.inU (by omega) ?_ | refine FBit.shrNI rfl (by omega) ?_ | refine FBit.shrIN rfl (by omega) (by omega) ?_ | refine FBit.shrI rfl (by omega) (by omega) ?_ | refine FBit.shl1I rfl (by omega) ?_) | (with_reducible refine FBit.has rfl (fun hq => ?_) (fun hq => ?_)) | (with_reducible first | refine FBit.and1 rfl ?_ | refine FBit.andN rfl (by omega) (by omega) ?_ | refine FBit.orN rfl (by omega) (by omega) ?_ | refine FBit.andNotN rfl (by omega) (by omega) ?_) | (with_reducible refine wG ?_) | (with_reducible refine wP ?_)))
  refine FLoop.of3 (ACalls.mono _) (fun (f x n : Nat) => [(0, AI x), (3, AI n)]) (fun _ _ _ => []) (fun f x n => n + popN f x = pop s ∧ x < 2 ^ f ∧ f ≤ 8) (fun _ x _ => x) 8 s 0 ⟨⟨by rw [Nat.zero_add]; rfl, hs, Nat.le_refl _⟩, [], Cut.nil _, allA⟩ ?_
  rintro f x n ⟨h1, h2, h3⟩
  have hle := popN_le f x
  have hps := popN_le 8 s
  unfold pop at *
  by_cases h0 : 0 < x
  · obtain ⟨f, rfl⟩ : ∃ g, f = g + 1 := ⟨f - 1, by rcases f with _ | f; · omega
                                                   · rfl⟩
    rw [popN] at h1
    (repeat' ((try conv => whnf); first | (with_reducible first | refine wT ?_ | refine wF ?_ | (refine wI (fun hq => ?_) (fun hq => ?_) <;> try simp only [zA, zE, zD, zJ, zB, zI, wK, wL] at hq) | refine wA ?_ | refine wB ?_ | refine wC ?_ | refine wD ?_ | refine wE ?_) | ((with_reducible refine wN ?_ ?_); focus exact needA) | (with_reducible first | refine FBit.hasT rfl (by assumption) ?_ | refine FBit.hasF rfl (by assumption) ?_ | refine FBit.shrN rfl (by omega) ?_ | refine FBit.half rfl ?_ | refine FBit.shl1 rfl (by omega) ?_ | refine Fits.inU (by omega) ?_ | refine FBit.shrNI rfl (by omega) ?_ | refine FBit.shrIN rfl (by omega) (by omega) ?_ | refine FBit.shrI rfl (by omega) (by omega) ?_ | refine FBit.shl1I rfl (by omega) ?_) | (with_reducible refine FBit.has rfl (fun hq => ?_) (fun hq => ?_)) | (with_reducible first | refine FBit.and1 rfl ?_ | refine FBit.andN rfl (by omega) (by omega) ?_ | refine FBit.orN rfl (by omega) (by omega) ?_ | refine FBit.andNotN rfl (by omega) (by omega) ?_) | (with_reducible refine wG ?_) | (with_reducible refine wP ?_)))
    (try conv => whnf)
    refine ⟨⟨f, x / 2, n + x % 2, ⟨by omega, by rw [Nat.pow_succ] at h2; omega, by omega⟩, (by show _ < _; omega), [], Cut.nil _, allA⟩⟩
  · obtain rfl : x = 0 := by omega
    (repeat' ((try conv => whnf); first | (with_reducible first | refine wT ?_ | refine wF ?_ | (refine wI (fun hq => ?_) (fun hq => ?_) <;> try simp only [zA, zE, zD, zJ, zB, zI, wK, wL] at hq) | refine wA ?_ | refine wB ?_ | refine wC ?_ | refine wD ?_ | refine wE ?_) | ((with_reducible refine wN ?_ ?_); focus exact needA) | (with_reducible first | refine FBit.hasT rfl (by assumption) ?_ | refine FBit.hasF rfl (by assumption) ?_ | refine FBit.shrN rfl (by omega) ?_ | refine FBit.half rfl ?_ | refine FBit.shl1 rfl (by omega) ?_ | refine Fits.inU (by omega) ?_ | refine FBit.shrNI rfl (by omega) ?_ | refine FBit.shrIN rfl (by omega) (by omega) ?_ | refine FBit.shrI rfl (by omega) (by omega) ?_ | refine FBit.shl1I rfl (by omega) ?_) | (with_reducible refine FBit.has rfl (fun hq => ?_) (fun hq => ?_)) | (with_reducible first | refine FBit.and1 rfl ?_ | refine FBit.andN rfl (by omega) (by omega) ?_ | refine FBit.orN rfl (by omega) (by omega) ?_ | refine FBit.andNotN rfl (by omega) (by omega) ?_) | (with_reducible refine wG ?_) | (with_reducible refine wP ?_)))
    (try conv => whnf)
    (refine ⟨⟨_, [], [], Cut.nil _, Ln.sameB _ rfl, ?_, rfl⟩⟩)
    rw [popN_zero] at h1
    exact int_eq (by omega)
/-- Too large for the laws. -/
def bigPs (p:Person):Bool:=decide (20 < p.levels.length) || decide (30 < p.ties.length)
def farT (c:Crew):Bool:=decide (20 < c.people.length) || decide (20 < c.laws.length) || c.people.any bigPs || (c.ok && decide (5 < c.people.length))
structure NearT (c:Crew):Prop where
 pl:c.people.length ≤ 20
 wl:c.laws.length ≤ 20
 ps:∀ i,i < c.people.length → (c.people.getD i ps0).levels.length ≤ 20 ∧ (c.people.getD i ps0).ties.length ≤ 30
 five:c.ok = true → c.people.length ≤ 5
theorem near_of {c:Crew} (h:farT c = false):NearT c:=by
 simp only [farT,Bool.or_eq_false_iff,decide_eq_false_iff_not,Bool.and_eq_false_iff,Nat.not_lt] at h
 obtain ⟨⟨⟨a,b⟩,d⟩,e⟩:=h
 refine ⟨a,b,fun i hi=>?_,fun hk=>by rcases e with e|e;(· rw [hk] at e;cases e);exact e⟩
 have hb:bigPs (c.people.getD i ps0) = false:=by
  rw [List.any_eq_false] at d
  have:=d (c.people.getD i ps0) (by simp [List.getD,List.getElem?_eq_getElem hi])
  cases hq:bigPs (c.people.getD i ps0)
  ·rfl
  ·exact absurd hq this
 simp only [bigPs,Bool.or_eq_false_iff,decide_eq_false_iff_not,Nat.not_lt] at hb
 exact hb
theorem any_step {α:Type} {p:α → Bool} {l:List α} {i:Nat} (d:α) (h:i < l.length) (e:l.any p = (l.drop i).any p) (hp:p (l.getD i d) = false):l.any p = (l.drop (i + 1)).any p:=by
 rw [e,drop_eq d h,List.any_cons,hp,Bool.false_or]
theorem any_yes {α:Type} {p:α → Bool} {l:List α} {i:Nat} (d:α) (h:i < l.length) (e:l.any p = (l.drop i).any p) (hp:p (l.getD i d) = true):l.any p = true:=by
 rw [e,drop_eq d h,List.any_cons,hp,Bool.true_or]
theorem any_end {α:Type} {p:α → Bool} {l:List α} {i:Nat} (h:l.length ≤ i) (e:l.any p = (l.drop i).any p):l.any p = false:=by
 rw [e,List.drop_eq_nil_of_le h];rfl
theorem farT_ok (f:CFl) (c:Crew):ACall Try.prog 23 [aCrew f c] [] (fun r h=>r = .bool (farT c) ∧ h = []):=by
 (refine fcall_of mixed Try.func23 rfl (by decide) (hs:={}) ?k (ac:=?ac) ?c (rs:=?rs) ?r ?l ?H;(case k=>kernel_rfl);(case c=>(conv=>(lhs;cbv)));(case r=>(conv=>(lhs;cbv)));(case l=>exact Nat.le_of_ble_eq_true rfl))
 (repeat' ((try conv=>whnf);first|(with_reducible first|refine wT ?_|refine wF ?_|(refine wI (fun hq=>?_) (fun hq=>?_) <;> try simp only [zA,zE,zD,zJ,zB,zI,wK,wL] at hq)|refine wA ?_|refine wB ?_|refine wC ?_|refine wD ?_|refine wE ?_)|((with_reducible refine wN ?_ ?_);focus exact needA)|(with_reducible refine wG ?_)|(with_reducible refine wP ?_)))
 all_goals (try conv=>whnf)
 ·(refine ⟨⟨_,[],[],Cut.nil _,Ln.sameB _ rfl,?_,rfl⟩⟩)
  unfold farT
  rw [decide_eq_true (by omega)];rfl
 ·(refine ⟨⟨_,[],[],Cut.nil _,Ln.sameB _ rfl,?_,rfl⟩⟩)
  unfold farT
  rw [decide_eq_true (p:=20 < c.laws.length) (by omega)];simp
 ·refine FLoop.of (ACalls.mono _) (X:=Nat) (fun i=>[(1,.ptr 0 0),(3,AI i)]) (fun _=>[.box 3 (cCrew f c)]) (fun i=>i ≤ c.people.length ∧ c.people.any bigPs = (c.people.drop i).any bigPs) (fun i=>c.people.length - i) 0 ⟨⟨Nat.zero_le _,rfl⟩,[0],Cut.A,allA⟩ ?_
  rintro i ⟨hi,hL⟩
  by_cases hlt:i < c.people.length
  ·(repeat' ((try conv=>whnf);first|(with_reducible first|refine wT ?_|refine wF ?_|(refine wI (fun hq=>?_) (fun hq=>?_) <;> try simp only [zA,zE,zD,zJ,zB,zI,wK,wL] at hq)|refine wA ?_|refine wB ?_|refine wC ?_|refine wD ?_|refine wE ?_)|((with_reducible refine wN ?_ ?_);focus exact needA)|(with_reducible refine wG ?_)|(with_reducible refine wP ?_)))
   all_goals (try conv=>whnf)
   ·(refine ⟨⟨_,[],[],Cut.nil _,Ln.sameB _ rfl,?_,rfl⟩⟩)
    unfold farT
    rw [any_yes ps0 hlt hL (by unfold bigPs;rw [decide_eq_true (by omega)];rfl)];simp
   ·(refine ⟨⟨_,[],[],Cut.nil _,Ln.sameB _ rfl,?_,rfl⟩⟩)
    unfold farT
    rw [any_yes ps0 hlt hL (by unfold bigPs;rw [decide_eq_true (p:=30 < _) (by omega)];simp)];simp
   ·(exact ⟨⟨(i + 1),⟨hlt,any_step ps0 hlt hL (by unfold bigPs;rw [decide_eq_false (by omega),decide_eq_false (by omega)];rfl)⟩,by show _ < _;omega,[0],Cut.A,allA⟩⟩)
  ·have hE:=any_end (by omega) hL
   (repeat' ((try conv=>whnf);first|(with_reducible first|refine wT ?_|refine wF ?_|(refine wI (fun hq=>?_) (fun hq=>?_) <;> try simp only [zA,zE,zD,zJ,zB,zI,wK,wL] at hq)|refine wA ?_|refine wB ?_|refine wC ?_|refine wD ?_|refine wE ?_)|((with_reducible refine wN ?_ ?_);focus exact needA)|(with_reducible refine wG ?_)|(refine FCall.pure ((isCrew_ok _ _)) ⟨Ln.sameB _ rfl,True.intro⟩ rfl ?_)|(with_reducible refine wP ?_)))
   all_goals (try conv=>whnf)
   all_goals
    (refine ⟨⟨_,[],[],Cut.nil _,Ln.sameB _ rfl,?_,rfl⟩⟩)
    unfold farT
    rw [decide_eq_false (p:=20 < c.people.length) (by omega),decide_eq_false (p:=20 < c.laws.length) (by omega),hE,hq]
    first|(simp;done)|(simp;omega)
theorem ready_ok (f:CFl) (c:Crew) (j:Job):ACall Try.prog 10 [aCrew f c,aJob j] [] (fun r h=>r = .bool (!farT c && decide (checkT c j = 0)) ∧ h = []):=by
 (refine fcall_of mixed Try.func10 rfl (by decide) (hs:={}) ?k (ac:=?ac) ?c (rs:=?rs) ?r ?l ?H;(case k=>kernel_rfl);(case c=>(conv=>(lhs;cbv)));(case r=>(conv=>(lhs;cbv)));(case l=>exact Nat.le_of_ble_eq_true rfl))
 (repeat' ((try conv=>whnf);first|(with_reducible first|refine wT ?_|refine wF ?_|(refine wI (fun hq=>?_) (fun hq=>?_) <;> try simp only [zA,zE,zD,zJ,zB,zI,wK,wL] at hq)|refine wA ?_|refine wB ?_|refine wC ?_|refine wD ?_|refine wE ?_)|((with_reducible refine wN ?_ ?_);focus exact needA)|(with_reducible refine wG ?_)|(refine FCall.pure ((farT_ok _ _)) ⟨Ln.sameB _ rfl,True.intro⟩ rfl ?_)|(refine FCall.pure ((refCheck_ok _ _ _)) ⟨Ln.sameB _ rfl,Ln.sameB _ rfl,True.intro⟩ rfl ?_)|(with_reducible refine wP ?_)))
 all_goals (try conv=>whnf)
 all_goals
  (refine ⟨⟨_,[],[],Cut.nil _,Ln.sameB _ rfl,?_,rfl⟩⟩)
  rw [hq]
  simp
end Go.Proofs.Ytdipcdallenmkaa
