/- Teams: how many steps it is from one language to another / Teams: the reference's far. / Teams: the reference's broken. / Teams: the reference's checkTeam, Broken, Fits, Team, Kept, Why. / Teams: the reference's Vital (printed by gen_teg.py). / Teams: the reference's Chain. / Teams: what the best team, the fewest rules and the vital people are / Teams: what is easier for a crew: a team that fits fits still, for the same fee. Plain law. -/
import Derived.Test.YtkejebdfbkgaiaaBa16
set_option linter.unusedSimpArgs false
set_option linter.unusedVariables false
namespace Go.Proofs.Ytkejebdfbkgaiaa

def Walk (n:Nat) (R:Nat → Nat → Bool):Nat → Nat → Nat → Prop
 | 0,a,b=>a = b
 | k + 1,a,b=>∃ c,c < n ∧ Walk n R k a c ∧ R c b = true
def IsD (n:Nat) (R:Nat → Nat → Bool) (a b:Nat) (d:Int):Prop:=(d = -1 ∧ ∀ k,¬ Walk n R k a b) ∨ (∃ k:Nat,d = k ∧ Walk n R k a b ∧ ∀ m,Walk n R m a b → k ≤ m)
theorem least {p:Nat → Prop}:∀ k,p k → ∃ m,m ≤ k ∧ p m ∧ ∀ i,p i → m ≤ i:=by
 intro k
 induction k using Nat.strongRecOn with
 | _ k ih =>
  intro hk
  by_cases h:∃ i,i < k ∧ p i
  ·obtain ⟨i,hi,hp⟩:=h
   obtain ⟨m,h1,h2,h3⟩:=ih i hi hp
   exact ⟨m,by omega,h2,h3⟩
  ·exact ⟨k,Nat.le_refl _,hk,fun i hp=>by
    rcases Nat.lt_or_ge i k with h'|h'
    ·exact (h ⟨i,h',hp⟩).elim
    ·exact h'⟩
theorem isD_ex (n:Nat) (R:Nat → Nat → Bool) (a b:Nat):∃ d,IsD n R a b d:=by
 by_cases h:∃ k,Walk n R k a b
 ·obtain ⟨k,hk⟩:=h
  obtain ⟨m,_,h2,h3⟩:=least (p:=fun k=>Walk n R k a b) k hk
  exact ⟨m,.inr ⟨m,rfl,h2,h3⟩⟩
 ·exact ⟨-1,.inl ⟨rfl,fun k hk=>h ⟨k,hk⟩⟩⟩
noncomputable def dist (n:Nat) (R:Nat → Nat → Bool) (a b:Nat):Int:=Classical.choose (isD_ex n R a b)
theorem dist_spec (n:Nat) (R:Nat → Nat → Bool) (a b:Nat):IsD n R a b (dist n R a b):=Classical.choose_spec (isD_ex n R a b)
theorem isD_one {n:Nat} {R:Nat → Nat → Bool} {a b:Nat} {d d':Int} (h:IsD n R a b d) (k:IsD n R a b d'):d = d':=by
 rcases h with ⟨rfl,h⟩|⟨x,rfl,h1,h2⟩
 ·rcases k with ⟨rfl,_⟩|⟨y,_,k1,_⟩
  ·rfl
  ·exact (h y k1).elim
 ·rcases k with ⟨_,k⟩|⟨y,rfl,k1,k2⟩
  ·exact (k x h1).elim
  ·have:=h2 y k1;have:=k2 x h1;omega
theorem dist_eq {n:Nat} {R:Nat → Nat → Bool} {a b:Nat} {d:Int} (h:IsD n R a b d):dist n R a b = d:=isD_one (dist_spec n R a b) h
noncomputable def distL (n:Nat) (R:Nat → Nat → Bool) (a:Nat):List Int:=(List.range n).map (dist n R a)
theorem dist_walk {n:Nat} {R:Nat → Nat → Bool} {a b k:Nat} (h:Walk n R k a b):0 ≤ dist n R a b ∧ dist n R a b ≤ k:=by
 rcases dist_spec n R a b with ⟨_,h1⟩|⟨m,h1,_,h3⟩
 ·exact (h1 k h).elim
 ·have:=h3 k h;omega
theorem walk_dist {n:Nat} {R:Nat → Nat → Bool} {a b:Nat} (h:0 ≤ dist n R a b):∃ k:Nat,dist n R a b = k ∧ Walk n R k a b ∧ ∀ m,Walk n R m a b → k ≤ m:=by
 rcases dist_spec n R a b with ⟨h0,_⟩|h1
 ·omega
 ·exact h1
theorem dist_ge (n:Nat) (R:Nat → Nat → Bool) (a b:Nat):-1 ≤ dist n R a b:=by
 rcases dist_spec n R a b with ⟨h0,_⟩|⟨k,h1,_⟩ <;> omega
theorem dist_self (n:Nat) (R:Nat → Nat → Bool) (a:Nat):dist n R a a = 0:=dist_eq (.inr ⟨0,rfl,rfl,fun _ _=>Nat.zero_le _⟩)
theorem dist_zero {n:Nat} {R:Nat → Nat → Bool} {a b:Nat} (h:dist n R a b = 0):a = b:=by
 obtain ⟨k,h1,h2,_⟩:=walk_dist (n:=n) (R:=R) (a:=a) (b:=b) (by omega)
 obtain rfl:k = 0:=by omega
 exact h2
theorem dist_step {n:Nat} {R:Nat → Nat → Bool} {a b c:Nat} (hb:b < n) (h:0 ≤ dist n R a b) (hR:R b c = true):0 ≤ dist n R a c ∧ dist n R a c ≤ dist n R a b + 1:=by
 obtain ⟨k,h1,h2,_⟩:=walk_dist h
 have:=dist_walk (n:=n) (R:=R) (a:=a) (b:=c) (k:=k + 1) ⟨b,hb,h2,hR⟩
 omega
theorem dist_pred {n:Nat} {R:Nat → Nat → Bool} {a b:Nat} (h:0 < dist n R a b):∃ c,c < n ∧ dist n R a c = dist n R a b - 1 ∧ R c b = true:=by
 obtain ⟨k,h1,h2,h3⟩:=walk_dist (n:=n) (R:=R) (a:=a) (b:=b) (by omega)
 obtain ⟨m,rfl⟩:∃ m,k = m + 1:=⟨k - 1,by omega⟩
 obtain ⟨c,hc,hw,hR⟩:=h2
 have d1:=dist_walk hw
 have d2:=dist_step hc d1.1 hR
 exact ⟨c,hc,by omega,hR⟩
theorem levels {n:Nat} {R:Nat → Nat → Bool} {a:Nat}:∀ (k:Nat) (b:Nat),b < n → dist n R a b = k → ∀ m,m ≤ k → ∃ y,y < n ∧ dist n R a y = (m:Nat):=by
 intro k
 induction k with
 | zero=>intro b hb h m hm;exact ⟨b,hb,by rw [h,Nat.le_zero.1 hm]⟩
 | succ k ih =>
  intro b hb h m hm
  by_cases hmk:m = k + 1
  ·exact ⟨b,hb,by rw [h,hmk]⟩
  ·obtain ⟨c,hc,h1,_⟩:=dist_pred (n:=n) (R:=R) (a:=a) (b:=b) (by omega)
   exact ih c hc (by omega) m (by omega)
theorem pigeon : ∀ (n:Nat) (D:Nat → Nat) (S:List Nat),S.Nodup → (∀ v ∈ S,∃ x,x < n ∧ D x = v) → S.length ≤ n
 | 0,D,S,_,h=>by
  cases S with
  | nil=>exact Nat.le_refl _
  | cons v S=>obtain ⟨x,hx,_⟩:=h v (by simp);omega
 | n + 1,D,S,hn,h=>by
  have h1:=pigeon n D (S.erase (D n)) (hn.erase _) (fun v hv=>by
   obtain ⟨hne,hv⟩:=(hn.mem_erase_iff).1 hv
   obtain ⟨x,hx,hD⟩:=h v hv
   rcases Nat.lt_or_ge x n with h'|h'
   ·exact ⟨x,h',hD⟩
   ·obtain rfl:x = n:=by omega
    exact (hne hD.symm).elim)
  have:S.length ≤ (S.erase (D n)).length + 1:=by rw [List.length_erase];split <;> omega
  omega
theorem dist_lt {n:Nat} {R:Nat → Nat → Bool} {a b:Nat} (hb:b < n):dist n R a b < n:=by
 have h0:=dist_ge n R a b
 by_cases h:0 ≤ dist n R a b
 ·obtain ⟨k,h1,_⟩:=walk_dist h
  have:=pigeon n (fun x=>(dist n R a x).toNat) (List.range (k + 1)) List.nodup_range (fun v hv=>by
   obtain ⟨y,hy,h2⟩:=levels k b hb h1 v (by simp at hv;omega)
   exact ⟨y,hy,by rw [h2];rfl⟩)
  simp at this
  omega
 ·omega
/-- The rounds of the reference. -/
def capD (r d:Int):Int:=if d ≤ r then d else -1
def Inv1 (n:Nat) (R:Nat → Nat → Bool) (a:Nat) (r:Nat) (g:Nat → Int):Prop:=∀ x,x < n → g x = capD r (dist n R a x)
def Inv2 (n:Nat) (R:Nat → Nat → Bool) (a:Nat) (r p q:Nat) (g:Nat → Int):Prop :=
 (∀ x,x < n → g x = capD r (dist n R a x) ∨ (dist n R a x = r + 1 ∧ g x = r + 1)) ∧ ∀ y x,y < n → x < n → (y < p ∨ (y = p ∧ x < q)) → dist n R a y = r → R y x = true → 0 ≤ g x
def updI (g:Nat → Int) (b:Nat) (v:Int):Nat → Int:=fun k=>if k = b then v else g k
section
variable {n:Nat} {R:Nat → Nat → Bool} {a r p q:Nat} {g:Nat → Int}
theorem inv1_start : Inv1 n R a 0 (updI (fun _=>-1) a 0):=fun x _=>by
 unfold updI capD
 by_cases h:x = a
 ·subst h;rw [if_pos rfl,dist_self];rfl
 ·rw [if_neg h]
  have:=dist_ge n R a x
  have h2:dist n R a x ≠ 0:=fun e=>h (dist_zero e).symm
  show (-1:Int) = _
  split <;> omega
theorem inv2_start (h:Inv1 n R a r g):Inv2 n R a r 0 0 g:=⟨fun x hx=>.inl (h x hx),fun y x _ _ hp=>by omega⟩
theorem inv2_no (h:Inv2 n R a r p q g) (hp:p < n) (hn:¬ (g p = r ∧ g q < 0 ∧ R p q = true)):Inv2 n R a r p (q + 1) g :=
 ⟨h.1,fun y x hy hx hq hd hR=>by
  by_cases hc:y = p ∧ x = q
  ·obtain ⟨rfl,rfl⟩:=hc
   have h1:=h.1 y hy
   have:g y = r:=by
    rw [hd] at h1
    unfold capD at h1
    rw [if_pos (Int.le_refl _)] at h1
    omega
   by_cases h':g x < 0
   ·exact (hn ⟨this,h',hR⟩).elim
   ·omega
  ·exact h.2 y x hy hx (by omega) hd hR⟩
theorem inv2_yes (h:Inv2 n R a r p q g) (hp:p < n) (hq:q < n) (h1:g p = r) (h2:g q < 0) (h3:R p q = true):Inv2 n R a r p (q + 1) (updI g q (r + 1)):=by
 have hdp:dist n R a p = r:=by
  rcases h.1 p hp with e|⟨_,e⟩
  ·have:=dist_ge n R a p
   rw [h1] at e;unfold capD at e;split at e <;> omega
  ·omega
 have hst:=dist_step (n:=n) (R:=R) (a:=a) hp (by omega) h3
 have hdq:dist n R a q = r + 1:=by
  rcases h.1 q hq with e|⟨e,_⟩
  ·unfold capD at e;split at e <;> omega
  ·exact e
 refine ⟨fun x hx=>?_,fun y x hy hx hc hd hR=>?_⟩
 ·unfold updI
  by_cases e:x = q
  ·subst e;rw [if_pos rfl];exact .inr ⟨hdq,rfl⟩
  ·rw [if_neg e];exact h.1 x hx
 ·unfold updI
  by_cases e:x = q
  ·rw [if_pos e];omega
  ·rw [if_neg e];exact h.2 y x hy hx (by omega) hd hR
theorem inv2_row (h:Inv2 n R a r p n g):Inv2 n R a r (p + 1) 0 g:=⟨h.1,fun y x hy hx hc hd hR=>h.2 y x hy hx (by omega) hd hR⟩
theorem inv2_end (h:Inv2 n R a r n 0 g):Inv1 n R a (r + 1) g:=fun x hx=>by
 have h0:=dist_ge n R a x
 rcases h.1 x hx with e|⟨e1,e2⟩
 ·by_cases hc:dist n R a x = r + 1
  ·obtain ⟨y,hy,hd,hR⟩:=dist_pred (n:=n) (R:=R) (a:=a) (b:=x) (by omega)
   have:=h.2 y x hy hx (.inl hy) (by omega) hR
   rw [e] at this
   unfold capD at this
   rw [if_neg (by omega)] at this
   omega
  ·rw [e];unfold capD
   split <;> split <;> omega
 ·rw [e2];unfold capD;rw [if_pos (by omega)];omega
theorem inv1_end (h:Inv1 n R a n g) {x:Nat} (hx:x < n):g x = dist n R a x:=by
 rw [h x hx];unfold capD;rw [if_pos];have:=dist_lt (R:=R) (a:=a) hx;omega
end
/-- The way back is as long. -/
theorem walk_app {n:Nat} {R:Nat → Nat → Bool} {a b c:Nat}:∀ {k:Nat},a < n → b < n → R a b = true → Walk n R k b c → Walk n R (k + 1) a c
 | 0,ha,hb,h,e=>by
  have e:b = c:=e
  subst e;exact ⟨a,ha,rfl,h⟩
 | k + 1,ha,hb,h,⟨d,hd,hw,hR⟩=>⟨d,hd,walk_app ha hb h hw,hR⟩
theorem walk_back {n:Nat} {R:Nat → Nat → Bool} (hs:∀ a b,R a b = R b a) {a:Nat} (ha:a < n):∀ {k b:Nat},b < n → Walk n R k a b → Walk n R k b a
 | 0,_,_,e=>e.symm
 | k + 1,b,hb,⟨c,hc,hw,hR⟩=>walk_app hb hc (by rw [hs];exact hR) (walk_back hs ha hc hw)
theorem dist_back {n:Nat} {R:Nat → Nat → Bool} (hs:∀ a b,R a b = R b a) {a b:Nat} (ha:a < n) (hb:b < n):dist n R a b = dist n R b a:=by
 refine dist_eq ?_
 rcases dist_spec n R b a with ⟨h1,h2⟩|⟨k,h1,h2,h3⟩
 ·exact .inl ⟨h1,fun k hw=>h2 k (walk_back hs ha hb hw)⟩
 ·exact .inr ⟨k,h1,walk_back hs hb ha h2,fun m hm=>h3 m (walk_back hs ha hb hm)⟩
theorem walk_mono {n:Nat} {R R':Nat → Nat → Bool} (h:∀ a b,R a b = true → R' a b = true) {a:Nat}:∀ {k b:Nat},Walk n R k a b → Walk n R' k a b
 | 0,_,e=>e
 | _ + 1,_,⟨c,hc,hw,hR⟩=>⟨c,hc,walk_mono h hw,h _ _ hR⟩
theorem dist_mono {n:Nat} {R R':Nat → Nat → Bool} (h:∀ a b,R a b = true → R' a b = true) {a b:Nat} (hd:0 ≤ dist n R a b):0 ≤ dist n R' a b ∧ dist n R' a b ≤ dist n R a b:=by
 obtain ⟨k,h1,h2,_⟩:=walk_dist hd
 have:=dist_walk (walk_mono h h2)
 omega
end Go.Proofs.Ytkejebdfbkgaiaa

namespace Go.Proofs.Ytkejebdfbkgaiaa
open Go.RowKit

abbrev rowG (n:Nat) (g:Nat → Int):AB:=.row n 1 (fun k _=>AI (g k))
theorem LnB.setG {σ:Nat → Nat → Prop} {Bp:Nat → Prop} {H:List AB} {n b:Nat} {g:Nat → Int} {v:Int}:LnB σ Bp H (.row n 1 (updRm (fun k _=>AI (g k)) b (elemC (AI v)))) (rowG n (updI g b v)):=by
 refine LnB.rowE (Nat.le_refl _) (fun k hk o ho=>?_)
 simp only [updRm,elemC,updI]
 split <;> rfl
theorem getD_range {β:Type} {f:Nat → β} {n k:Nat} {d':β} (h:k < n):((List.range n).map f).getD k d' = f k:=by
 simp [List.getD,h]
def relT (c:Crew) (s:Nat) (level:Int):Nat → Nat → Bool:=joinsT c s level
set_option maxHeartbeats 4000000
set_option maxRecDepth 100000
end Go.Proofs.Ytkejebdfbkgaiaa

namespace Go.Proofs.Ytkejebdfbkgaiaa
open Go.RowKit

def alone3 (p:Person) (j:Job):Nat:=(if tiedT p j.client then 1 else 0) ||| (if p.fields.toNat.testBit j.field.toNat then 0 else 2) ||| (if p.clears.toNat.testBit j.kind.toNat then 0 else 4)
theorem alone3_eq {p:Person} {j:Job} {t f k:Bool} (h1:tiedT p j.client = t) (h2:p.fields.toNat.testBit j.field.toNat = f) (h3:p.clears.toNat.testBit j.kind.toNat = k):alone3 p j = (if t then 1 else 0) ||| (if f then 0 else 2) ||| (if k then 0 else 4):=by
 subst h1;subst h2;subst h3;rfl
def orL : List Nat → Nat
 | []=>0
 | x :: l=>x ||| orL l
def lawOf (c:Crew) (j:Job):LawT:=c.laws.getD j.kind.toNat lw0
def soloT (c:Crew) (j:Job) (s:Nat):Nat:=orL ((memb c s).map fun i=>alone3 (c.people.getD i ps0) j)
def deafT (c:Crew) (s:Nat):Bool:=(memb c s).any fun i=>(c.people.getD i ps0).deaf
noncomputable def brokenT (c:Crew) (j:Job) (s:Nat):Nat :=
 soloT c j s ||| (if (pop s:Int) ≠ max j.size (lawOf c j).size then 8 else 0) ||| (if (lawOf c j).deaf && !deafT c s then 16 else 0) |||
  (if dist c.langs.toNat (relT c s (lawOf c j).level) j.fr.toNat j.to.toNat < 0 then 32 else 0)
theorem or8 {a b:Nat} (h:a < 8) (k:b < 8):a ||| b < 8:=Nat.or_lt_two_pow (n:=3) h k
theorem or64 {a b:Nat} (h:a < 64) (k:b < 64):a ||| b < 64:=Nat.or_lt_two_pow (n:=6) h k
theorem alone3_lt (p:Person) (j:Job):alone3 p j < 8:=by
 unfold alone3;refine or8 (or8 ?_ ?_) ?_ <;> split <;> decide
theorem orL_lt : ∀ {l:List Nat},(∀ x ∈ l,x < 8) → orL l < 8
 | [],_=>by decide
 | x :: l,h=>or8 (h x (by simp)) (orL_lt fun y hy=>h y (by simp [hy]))
theorem solo_lt (c:Crew) (j:Job) (s:Nat):soloT c j s < 8:=orL_lt fun x hx=>by
 obtain ⟨i,_,rfl⟩:=List.mem_map.1 hx
 exact alone3_lt _ _
theorem broken_lt (c:Crew) (j:Job) (s:Nat):brokenT c j s < 64:=by
 unfold brokenT
 have:=solo_lt c j s
 refine or64 (or64 (or64 (by omega) ?_) ?_) ?_ <;> split <;> decide
theorem bAnd_tt {a d:Bool} (h:a = true) (k:d = false):(a && !d) = true:=by subst h;subst k;rfl
theorem bAnd_tf {a d:Bool} (h:a = true) (k:d = true):(a && !d) = false:=by subst h;subst k;rfl
theorem bAnd_f {a d:Bool} (h:a = false):(a && !d) = false:=by subst h;rfl
theorem brokenT_eq {c:Crew} {j:Job} {s v n:Nat} {e a b d:Bool} (hn:c.langs.toNat = n) (hv:soloT c j s = v) (he:deafT c s = e) (ha:decide ((pop s:Int) ≠ max j.size (lawOf c j).size) = a) (hb:((lawOf c j).deaf && !e) = b) (hd:decide (dist n (relT c s (lawOf c j).level) j.fr.toNat j.to.toNat < 0) = d):brokenT c j s = v ||| (if a then 8 else 0) ||| (if b then 16 else 0) ||| (if d then 32 else 0):=by
 subst hn;subst hv;subst he;subst ha;subst hb;subst hd
 unfold brokenT
 simp only [decide_eq_true_eq]
theorem or_e {a b c:Nat} (h:a = b):a ||| c = b ||| c:=by rw [h]
set_option maxHeartbeats 4000000
set_option maxRecDepth 100000
end Go.Proofs.Ytkejebdfbkgaiaa

namespace Go.Proofs.Ytkejebdfbkgaiaa
open Go.RowKit

theorem checkTm_c {c:Crew} {j:Job} {m:Int} (h:checkT c j ≠ 0):checkTm c j m = checkT c j:=if_neg h
theorem checkTm_t {c:Crew} {j:Job} {m:Int} (h:checkT c j = 0) (k:isTeamT c m = true):checkTm c j m = 0:=by unfold checkTm;rw [if_pos h,if_pos k]
theorem checkTm_f {c:Crew} {j:Job} {m:Int} (h:checkT c j = 0) (k:isTeamT c m = false):checkTm c j m = 1:=by unfold checkTm;rw [if_pos h,if_neg (by rw [k];decide)]
theorem checkTm_0 {c:Crew} {j:Job} {m:Int} (h:checkTm c j m = 0):c.ok = true ∧ Job.ok c j = true ∧ 0 ≤ m ∧ m < ((2 ^ c.people.length:Nat):Int):=by
 unfold checkTm at h
 split at h
 ·rename_i h0
  split at h
  ·rename_i h1
   obtain ⟨a,b⟩:=checkT_0.1 h0
   simp only [isTeamT,inB,decide_eq_true_eq] at h1
   exact ⟨a,b,h1.1,by omega⟩
  ·cases h
 ·contradiction
theorem isT_iff {c:Crew} {t:Nat}:isTeamT c (t:Int) = true ↔ t < 2 ^ c.people.length:=by
 simp only [isTeamT,inB,decide_eq_true_eq];omega
noncomputable def fitsT (c:Crew) (j:Job) (t:Nat):Bool:=decide (0 < t) && decide (brokenT c j t = 0)
noncomputable def stepTm (c:Crew) (j:Job) (t:Nat) (x:Nat × Int):Nat × Int:=if fitsT c j t && (decide (x.1 = 0) || decide (feeT c t < x.2)) then (t,feeT c t) else x
theorem stepTm_yes {c:Crew} {j:Job} {t m:Nat} {n:Int} (h:fitsT c j t = true) (k:m = 0 ∨ feeT c t < n):stepTm c j t (m,n) = (t,feeT c t):=by
 unfold stepTm
 rw [if_pos]
 simp only [h,Bool.true_and,Bool.or_eq_true,decide_eq_true_eq];exact k
theorem stepTm_no {c:Crew} {j:Job} {t m:Nat} {n:Int} (h:fitsT c j t = false):stepTm c j t (m,n) = (m,n):=by
 unfold stepTm
 rw [if_neg]
 rw [h];simp
theorem stepTm_no2 {c:Crew} {j:Job} {t m:Nat} {n:Int} (h:m ≠ 0) (k:n ≤ feeT c t):stepTm c j t (m,n) = (m,n):=by
 unfold stepTm
 rw [if_neg]
 simp only [Bool.and_eq_true,Bool.or_eq_true,decide_eq_true_eq];omega
noncomputable def teamS (c:Crew) (j:Job):Nat → Nat × Int
 | 0=>(0,0)
 | t + 1=>stepTm c j (t + 1) (teamS c j t)
noncomputable def bestT (c:Crew) (j:Job):Nat × Int:=teamS c j (2 ^ c.people.length - 1)
noncomputable def teamE (c:Crew) (j:Job):Int × Int × Int:=if checkT c j = 0 then (if (bestT c j).1 = 0 then (0,0,3) else ((bestT c j).1,(bestT c j).2,0)) else (0,0,checkT c j)
noncomputable def brokenE (c:Crew) (j:Job) (m:Int):Int × Int:=if checkTm c j m = 0 then ((brokenT c j m.toNat:Int),0) else (0,checkTm c j m)
open Classical in
noncomputable def keptT (c:Crew) (j:Job) (r:Nat):Bool:=decide (∃ t,1 ≤ t ∧ t < 2 ^ c.people.length ∧ brokenT c j t &&& r = 0)
theorem kept_iff {c:Crew} {j:Job} {r:Nat}:keptT c j r = true ↔ ∃ t,1 ≤ t ∧ t < 2 ^ c.people.length ∧ brokenT c j t &&& r = 0:=by unfold keptT;simp only [decide_eq_true_eq]
noncomputable def whyS (c:Crew) (j:Job):Nat → Option Nat
 | 0=>none
 | r + 1=>if !keptT c j r && (match whyS c j r with|none=>true|some b=>decide (pop r < pop b)) then some r else whyS c j r
noncomputable def whyE (c:Crew) (j:Job):Int × Int:=if checkT c j = 0 then (match whyS c j 64 with|none=>(0,3)|some b=>((b:Int),0)) else (0,checkT c j)
set_option maxHeartbeats 4000000
set_option maxRecDepth 100000
end Go.Proofs.Ytkejebdfbkgaiaa

namespace Go.Proofs.Ytkejebdfbkgaiaa
open Go.RowKit

noncomputable def vitS (c:Crew) (j:Job):Nat → Nat × Bool
 | 0=>(2 ^ c.people.length - 1,false)
 | t + 1=>if fitsT c j (t + 1) then ((vitS c j t).1 &&& (t + 1),true) else vitS c j t
noncomputable def vitT (c:Crew) (j:Job):Nat:=(vitS c j (2 ^ c.people.length - 1)).1
def membI (c:Crew) (s:Nat):List Int:=(memb c s).map fun (i:Nat)=>(i:Int)
def memI (c:Crew) (s i:Nat):List Int:=(memF c s i).map fun (i:Nat)=>(i:Int)
theorem memI_yes {c:Crew} {s i:Nat} (h:i < c.people.length) (hb:s.testBit i = true):memI c s i = (i:Int) :: memI c s (i + 1):=by
 unfold memI;rw [memF_yes h hb];rfl
theorem memI_no {c:Crew} {s i:Nat} (h:i < c.people.length) (hb:s.testBit i = false):memI c s i = memI c s (i + 1):=by
 unfold memI;rw [memF_no h hb]
theorem memI_end {c:Crew} {s i:Nat} (h:c.people.length ≤ i):memI c s i = []:=by
 unfold memI;rw [memF_end h];rfl
noncomputable def vitalE (c:Crew) (j:Job):List Int × Int:=if checkT c j = 0 then (if (bestT c j).1 = 0 then ([],3) else (membI c (vitT c j),0)) else ([],checkT c j)
theorem teamE_0 {c:Crew} {j:Job} (h:(teamE c j).2.2 = 0):checkT c j = 0 ∧ (bestT c j).1 ≠ 0:=by
 unfold teamE at h
 split at h
 ·rename_i h0
  split at h
  ·cases h
  ·rename_i h1;exact ⟨h0,h1⟩
 ·contradiction
theorem vitalE_no {c:Crew} {j:Job} (h:(teamE c j).2.2 ≠ 0):vitalE c j = ([],(teamE c j).2.2):=by
 unfold teamE at *
 unfold vitalE
 by_cases h0:checkT c j = 0
 ·by_cases h1:(bestT c j).1 = 0
  ·simp only [if_pos h0,if_pos h1]
  ·rw [if_pos h0,if_neg h1] at h;exact (h rfl).elim
 ·simp only [if_neg h0]
theorem vitS_le (c:Crew) (j:Job):∀ t,(vitS c j t).1 ≤ 2 ^ c.people.length - 1
 | 0=>Nat.le_refl _
 | t + 1=>by
  unfold vitS
  split
  ·exact Nat.le_trans Nat.and_le_left (vitS_le c j t)
  ·exact vitS_le c j t
set_option maxHeartbeats 4000000
set_option maxRecDepth 100000
end Go.Proofs.Ytkejebdfbkgaiaa

namespace Go.Proofs.Ytkejebdfbkgaiaa
open Go.RowKit

def nextT (n:Nat) (R:Nat → Nat → Bool) (D:Nat → Int) (a:Nat):Nat:=((List.range n).find? fun x=>decide (D x = D a - 1) && R a x).getD 0
def chainL (n:Nat) (R:Nat → Nat → Bool) (D:Nat → Int):Nat → Nat → List Int
 | 0,_=>[]
 | k + 1,a=>(nextT n R D a:Int) :: chainL n R D k (nextT n R D a)
theorem nextT_eq {n:Nat} {R:Nat → Nat → Bool} {D:Nat → Int} {a q:Nat} (hq:q < n) (h:∀ x,x < q → ¬ (D x = D a - 1 ∧ R a x = true)) (h1:D q = D a - 1) (h2:R a q = true):nextT n R D a = q:=by
 unfold nextT
 have:(List.range n).find? (fun x=>decide (D x = D a - 1) && R a x) = some q:=by
  rw [List.find?_range_eq_some]
  refine ⟨by simp [h1,h2],by simpa using hq,fun j hj=>?_⟩
  have:=h j hj
  cases hr:R a j
  ·simp
  ·simp only [Bool.and_true,Bool.not_eq_true',decide_eq_false_iff_not]
   exact fun e=>this ⟨e,hr⟩
 rw [this];rfl
noncomputable def relOf (c:Crew) (j:Job) (s:Nat):Nat → Nat → Bool:=relT c s (lawOf c j).level
noncomputable def backT (c:Crew) (j:Job) (s:Nat):Nat → Int:=dist c.langs.toNat (relOf c j s) j.to.toNat
noncomputable def chainT (c:Crew) (j:Job) (s:Nat):List Int:=j.fr :: chainL c.langs.toNat (relOf c j s) (backT c j s) (backT c j s j.fr.toNat).toNat j.fr.toNat
noncomputable def chainE (c:Crew) (j:Job) (m:Int):List Int × Int:=if checkTm c j m = 0 then (if backT c j m.toNat j.fr.toNat < 0 then ([],3) else (chainT c j m.toNat,0)) else ([],checkTm c j m)
theorem rel_sym (c:Crew) (s:Nat) (l:Int) (a b:Nat):relT c s l a b = relT c s l b a:=by
 unfold relT joinsT
 congr 1;funext i;exact Bool.and_comm _ _
theorem next_ex {n:Nat} {R:Nat → Nat → Bool} (hs:∀ a b,R a b = R b a) {t a:Nat} (h:0 < dist n R t a):∃ x,x < n ∧ dist n R t x = dist n R t a - 1 ∧ R a x = true:=by
 obtain ⟨x,h1,h2,h3⟩:=dist_pred h
 exact ⟨x,h1,h2,by rw [hs];exact h3⟩
set_option maxHeartbeats 4000000
set_option maxRecDepth 100000
end Go.Proofs.Ytkejebdfbkgaiaa

namespace Go.Proofs.Ytkejebdfbkgaiaa
open Go.RowKit

theorem best_spec (c:Crew) (j:Job):∀ t,((teamS c j t).1 = 0 ∧ ∀ u,1 ≤ u → u ≤ t → fitsT c j u = false) ∨ (1 ≤ (teamS c j t).1 ∧ (teamS c j t).1 ≤ t ∧ fitsT c j (teamS c j t).1 = true ∧ (teamS c j t).2 = feeT c (teamS c j t).1 ∧ ∀ u,1 ≤ u → u ≤ t → fitsT c j u = true → feeT c (teamS c j t).1 < feeT c u ∨ (feeT c (teamS c j t).1 = feeT c u ∧ (teamS c j t).1 ≤ u))
 | 0=>.inl ⟨rfl,fun u h1 h2=>by omega⟩
 | t + 1=>by
  have ih:=best_spec c j t
  rw [teamS]
  generalize teamS c j t = x at ih
  obtain ⟨m,n⟩:=x
  cases hf:fitsT c j (t + 1)
  ·rw [stepTm_no hf]
   rcases ih with ⟨h1,h2⟩|⟨h1,h2,h3,h4,h5⟩
   ·refine .inl ⟨h1,fun u k1 k2=>?_⟩
    rcases Nat.eq_or_lt_of_le k2 with e|e
    ·subst e;exact hf
    ·exact h2 u k1 (by omega)
   ·refine .inr ⟨h1,Nat.le_succ_of_le h2,h3,h4,fun u k1 k2 k3=>?_⟩
    rcases Nat.eq_or_lt_of_le k2 with e|e
    ·subst e;rw [hf] at k3;cases k3
    ·exact h5 u k1 (by omega) k3
  ·rcases ih with ⟨h1,h2⟩|⟨h1,h2,h3,h4,h5⟩
   ·rw [stepTm_yes hf (.inl h1)]
    refine .inr ⟨Nat.succ_le_succ (Nat.zero_le _),Nat.le_refl _,hf,rfl,fun u k1 k2 k3=>?_⟩
    rcases Nat.eq_or_lt_of_le k2 with e|e
    ·subst e;exact .inr ⟨rfl,Nat.le_refl _⟩
    ·rw [h2 u k1 (by omega)] at k3;cases k3
   ·change 1 ≤ m at h1
    change m ≤ t at h2
    change fitsT c j m = true at h3
    change n = feeT c m at h4
    change ∀ u,1 ≤ u → u ≤ t → fitsT c j u = true → feeT c m < feeT c u ∨ (feeT c m = feeT c u ∧ m ≤ u) at h5
    by_cases hlt:feeT c (t + 1) < n
    ·rw [stepTm_yes hf (.inr hlt)]
     refine .inr ⟨Nat.succ_le_succ (Nat.zero_le _),Nat.le_refl _,hf,rfl,fun u k1 k2 k3=>?_⟩
     show feeT c (t + 1) < feeT c u ∨ (feeT c (t + 1) = feeT c u ∧ t + 1 ≤ u)
     rcases Nat.eq_or_lt_of_le k2 with e|e
     ·subst e;exact .inr ⟨rfl,Nat.le_refl _⟩
     ·have:=h5 u k1 (by omega) k3;omega
    ·rw [stepTm_no2 (by omega) (by omega)]
     refine .inr ⟨h1,Nat.le_succ_of_le h2,h3,h4,fun u k1 k2 k3=>?_⟩
     show feeT c m < feeT c u ∨ (feeT c m = feeT c u ∧ m ≤ u)
     rcases Nat.eq_or_lt_of_le k2 with e|e
     ·subst e;omega
     ·exact h5 u k1 (by omega) k3
theorem best_two (c:Crew) (j:Job):((bestT c j).1 = 0 ∧ ∀ u,1 ≤ u → u < 2 ^ c.people.length → fitsT c j u = false) ∨ (1 ≤ (bestT c j).1 ∧ (bestT c j).1 < 2 ^ c.people.length ∧ fitsT c j (bestT c j).1 = true ∧ (bestT c j).2 = feeT c (bestT c j).1 ∧ ∀ u,1 ≤ u → u < 2 ^ c.people.length → fitsT c j u = true → feeT c (bestT c j).1 < feeT c u ∨ (feeT c (bestT c j).1 = feeT c u ∧ (bestT c j).1 ≤ u)):=by
 have hp:0 < 2 ^ c.people.length:=Nat.two_pow_pos _
 unfold bestT
 rcases best_spec c j (2 ^ c.people.length - 1) with ⟨h1,h2⟩|⟨h1,h2,h3,h4,h5⟩
 ·exact .inl ⟨h1,fun u k1 k2=>h2 u k1 (by omega)⟩
 ·exact .inr ⟨h1,by omega,h3,h4,fun u k1 k2=>h5 u k1 (by omega)⟩
theorem fits_b {c:Crew} {j:Job} {t:Nat}:fitsT c j t = true ↔ 0 < t ∧ brokenT c j t = 0:=by simp [fitsT]
theorem or_zero {a b:Nat} (h:a ||| b = 0):a = 0 ∧ b = 0:=by
 constructor
 ·have:=@Nat.left_le_or a b;omega
 ·have:=@Nat.right_le_or a b;omega
theorem orL_zero : ∀ {l:List Nat},orL l = 0 → ∀ x ∈ l,x = 0
 | [],_,x,hx=>by cases hx
 | y :: l,h,x,hx=>by
  rw [orL] at h
  obtain ⟨a,b⟩:=or_zero h
  rcases List.mem_cons.1 hx with rfl|hx
  ·exact a
  ·exact orL_zero b x hx
theorem mem_memb {c:Crew} {s k:Nat}:k ∈ memb c s ↔ k < c.people.length ∧ s.testBit k = true:=by simp [memb]
theorem alone_zero {p:Person} {j:Job}:alone3 p j = 0 ↔ p.may j = true:=by
 unfold alone3 Person.may
 cases tiedT p j.client <;> cases p.fields.toNat.testBit j.field.toNat <;> cases p.clears.toNat.testBit j.kind.toNat <;> decide
theorem solo_zero {c:Crew} {j:Job} {s:Nat}:soloT c j s = 0 ↔ ∀ k,k < c.people.length → s.testBit k = true → (c.people.getD k ps0).may j = true:=by
 constructor
 ·intro h k hk hb
  exact alone_zero.1 (orL_zero h _ (List.mem_map.2 ⟨k,mem_memb.2 ⟨hk,hb⟩,rfl⟩))
 ·intro h
  have:∀ l:List Nat,(∀ x ∈ l,x = 0) → orL l = 0:=by
   intro l
   induction l with
   | nil=>intro _;rfl
   | cons x l ih =>
    intro hl
    rw [orL,hl x (by simp),ih fun y hy=>hl y (by simp [hy])];rfl
  refine this _ fun x hx=>?_
  obtain ⟨k,hk,rfl⟩:=List.mem_map.1 hx
  obtain ⟨h1,h2⟩:=mem_memb.1 hk
  exact alone_zero.2 (h k h1 h2)
theorem broken_zero {c:Crew} {j:Job} {s:Nat}:brokenT c j s = 0 ↔ soloT c j s = 0 ∧ (pop s:Int) = max j.size (lawOf c j).size ∧ ((lawOf c j).deaf = true → deafT c s = true) ∧ 0 ≤ dist c.langs.toNat (relT c s (lawOf c j).level) j.fr.toNat j.to.toNat:=by
 unfold brokenT
 constructor
 ·intro h
  obtain ⟨h,h4⟩:=or_zero h
  obtain ⟨h,h3⟩:=or_zero h
  obtain ⟨h1,h2⟩:=or_zero h
  refine ⟨h1,?_,?_,?_⟩
  ·split at h2
   ·cases h2
   ·rename_i h;exact Decidable.not_not.1 h
  ·intro hd
   split at h3
   ·cases h3
   ·rename_i h
    rw [hd] at h
    simpa using h
  ·split at h4
   ·cases h4
   ·omega
 ·rintro ⟨h1,h2,h3,h4⟩
  rw [h1,if_neg (by omega),if_neg (by
   cases hd:(lawOf c j).deaf
   ·simp
   ·rw [h3 hd];simp),if_neg (by omega)];rfl
/-- A set of numbers from a list. -/
def setL (l:List Int):Nat:=orL (l.map fun x=>2 ^ x.toNat)
theorem setL_bit {l:List Int} {k:Nat}:(setL l).testBit k = true ↔ ∃ x ∈ l,x.toNat = k:=by
 unfold setL
 induction l with
 | nil=>simp [orL]
 | cons x l ih =>
  simp only [List.map_cons,orL,Nat.testBit_or,Bool.or_eq_true,ih,List.mem_cons]
  constructor
  ·rintro (h|⟨y,h1,h2⟩)
   ·rw [Nat.testBit_two_pow] at h
    exact ⟨x,.inl rfl,by simpa using h⟩
   ·exact ⟨y,.inr h1,h2⟩
  ·rintro ⟨y,rfl|h1,h2⟩
   ·left;rw [h2,Nat.testBit_two_pow];simp
   ·exact .inr ⟨y,h1,h2⟩
theorem setL_snoc {l:List Int} {x:Int}:setL (l ++ [x]) = setL l ||| 2 ^ x.toNat:=by
 unfold setL
 induction l with
 | nil=>simp [orL]
 | cons y l ih=>simp only [List.cons_append,List.map_cons,orL,ih,Nat.or_assoc]
theorem setL_lt {l:List Int} {n:Nat} (h:∀ x ∈ l,x.toNat < n):setL l < 2 ^ n:=by
 unfold setL
 induction l with
 | nil=>exact Nat.two_pow_pos _
 | cons y l ih =>
  simp only [List.map_cons,orL]
  exact Nat.or_lt_two_pow (Nat.pow_lt_pow_right (by decide) (h y (by simp))) (ih fun x hx=>h x (by simp [hx]))
theorem sdiff_zero {a b:Nat} (h:∀ k,a.testBit k = true → b.testBit k = true):sdiff a b = 0:=by
 apply Nat.eq_of_testBit_eq
 intro k
 rw [testBit_sdiff,Nat.zero_testBit]
 cases ha:a.testBit k
 ·rfl
 ·rw [h k ha];rfl
theorem may_mem {c:Crew} {j:Job} {x:Int}:x ∈ mayL c j ↔ ∃ k:Nat,x = k ∧ k < c.people.length ∧ (c.people.getD k ps0).may j = true:=by
 unfold mayL
 simp only [List.mem_map,List.mem_filter,List.mem_range]
 constructor
 ·rintro ⟨k,⟨h1,h2⟩,rfl⟩;exact ⟨k,rfl,h1,h2⟩
 ·rintro ⟨k,rfl,h1,h2⟩;exact ⟨k,⟨h1,h2⟩,rfl⟩
theorem may_len {c:Crew} {j:Job}:(mayL c j).length ≤ c.people.length:=by
 have:=List.length_filter_le (fun i=>(c.people.getD i ps0).may j) (List.range c.people.length)
 simpa [mayL] using this
theorem team_in_may {c:Crew} {j:Job} {s:Nat} (h:brokenT c j s = 0) (hs:s < 2 ^ c.people.length):sdiff s (setL (mayL c j)) = 0:=by
 refine sdiff_zero fun k hk=>setL_bit.2 ⟨(k:Int),may_mem.2 ⟨k,rfl,?_⟩,rfl⟩
 have hkn:k < c.people.length:=by
  rcases Nat.lt_or_ge k c.people.length with h|h
  ·exact h
  ·have:=Nat.testBit_lt_two_pow (Nat.lt_of_lt_of_le hs (Nat.pow_le_pow_right (by decide) h))
   rw [this] at hk;cases hk
 exact ⟨hkn,solo_zero.1 (broken_zero.1 h).1 k hkn hk⟩
/-- The fewest rules. -/
theorem why_spec (c:Crew) (j:Job):∀ r,(whyS c j r = none ∧ ∀ u,u < r → keptT c j u = true) ∨ ∃ b,whyS c j r = some b ∧ b < r ∧ keptT c j b = false ∧ ∀ u,u < r → keptT c j u = false → pop b < pop u ∨ (pop b = pop u ∧ b ≤ u)
 | 0=>.inl ⟨rfl,fun u hu=>by omega⟩
 | r + 1=>by
  rw [whyS]
  rcases why_spec c j r with ⟨h1,h2⟩|⟨b,h1,h2,h3,h4⟩
  ·rw [h1]
   cases hk:keptT c j r
   ·refine .inr ⟨r,rfl,by omega,hk,fun u hu hku=>?_⟩
    rcases Nat.eq_or_lt_of_le (Nat.le_of_lt_succ hu) with e|e
    ·subst e;exact .inr ⟨rfl,Nat.le_refl _⟩
    ·rw [h2 u e] at hku;cases hku
   ·refine .inl ⟨rfl,fun u hu=>?_⟩
    rcases Nat.eq_or_lt_of_le (Nat.le_of_lt_succ hu) with e|e
    ·subst e;exact hk
    ·exact h2 u e
  ·rw [h1]
   cases hk:keptT c j r
   ·by_cases hp:pop r < pop b
    ·refine .inr ⟨r,by simp [hp],by omega,hk,fun u hu hku=>?_⟩
     rcases Nat.eq_or_lt_of_le (Nat.le_of_lt_succ hu) with e|e
     ·subst e;exact .inr ⟨rfl,Nat.le_refl _⟩
     ·have:=h4 u e hku;omega
    ·refine .inr ⟨b,by simp [hp],by omega,h3,fun u hu hku=>?_⟩
     rcases Nat.eq_or_lt_of_le (Nat.le_of_lt_succ hu) with e|e
     ·subst e;omega
     ·exact h4 u e hku
   ·refine .inr ⟨b,by simp,by omega,h3,fun u hu hku=>?_⟩
    rcases Nat.eq_or_lt_of_le (Nat.le_of_lt_succ hu) with e|e
    ·subst e;rw [hk] at hku;cases hku
    ·exact h4 u e hku
theorem pop_less : ∀ r:Nat,r < 64 → ∀ i:Nat,i < 6 → r.testBit i = true → pop (sdiff r (2 ^ i)) < pop r:=by
 have:∀ r:_root_.Fin 64,∀ i:_root_.Fin 6,r.val.testBit i.val = true → pop (sdiff r.val (2 ^ i.val)) < pop r.val:=by decide +kernel
 exact fun r hr i hi=>this ⟨r,hr⟩ ⟨i,hi⟩
theorem and63 {n:Nat} (h:n < 64):n &&& 63 = n:=by
 rw [show (63:Nat) = 2 ^ 6 - 1 by decide,Nat.and_two_pow_sub_one_eq_mod];exact Nat.mod_eq_of_lt h
theorem why_two (c:Crew) (j:Job):((bestT c j).1 ≠ 0 ∧ whyS c j 64 = none) ∨ ((bestT c j).1 = 0 ∧ ∃ b,whyS c j 64 = some b ∧ b < 64 ∧ (∀ u,1 ≤ u → u < 2 ^ c.people.length → brokenT c j u &&& b ≠ 0) ∧ (∀ i,i < 6 → b.testBit i = true → keptT c j (sdiff b (2 ^ i)) = true) ∧ ∀ u,u < 64 → keptT c j u = false → pop b < pop u ∨ (pop b = pop u ∧ b ≤ u)):=by
 rcases best_two c j with ⟨h1,h2⟩|⟨h1,h2,h3,h4,h5⟩
 ·right
  refine ⟨h1,?_⟩
  rcases why_spec c j 64 with ⟨k1,k2⟩|⟨b,k1,k2,k3,k4⟩
  ·exfalso
   obtain ⟨t,t1,t2,t3⟩:=kept_iff.1 (k2 63 (by decide))
   rw [and63 (broken_lt c j t)] at t3
   have:=h2 t t1 t2
   rw [fits_b.2 ⟨by omega,t3⟩] at this;cases this
  ·refine ⟨b,k1,k2,fun u u1 u2 h=>?_,fun i hi hb=>?_,k4⟩
   ·rw [kept_iff.2 ⟨u,u1,u2,h⟩] at k3;cases k3
   ·cases hk:keptT c j (sdiff b (2 ^ i))
    ·have hl:=pop_less b k2 i hi hb
     have:=k4 (sdiff b (2 ^ i)) (sdiff_lt (n:=6) k2) hk
     omega
    ·rfl
 ·left
  refine ⟨by omega,?_⟩
  have hb:=(fits_b.1 h3).2
  have hk:∀ r,keptT c j r = true:=fun r=>kept_iff.2 ⟨_,h1,h2,by rw [hb,Nat.zero_and]⟩
  rcases why_spec c j 64 with ⟨k1,_⟩|⟨b,_,_,k3,_⟩
  ·exact k1
  ·rw [hk] at k3;cases k3
/-- Who is in each team that fits. -/
theorem vit_spec (c:Crew) (j:Job) (k:Nat):∀ t,(vitS c j t).1.testBit k = true ↔ k < c.people.length ∧ ∀ u,1 ≤ u → u ≤ t → fitsT c j u = true → u.testBit k = true
 | 0=>by
  rw [vitS,Nat.testBit_two_pow_sub_one]
  simp only [decide_eq_true_eq]
  exact ⟨fun h=>⟨h,fun u h1 h2=>by omega⟩,fun h=>h.1⟩
 | t + 1=>by
  rw [vitS]
  have ih:=vit_spec c j k t
  split
  ·rename_i hf
   rw [Nat.testBit_and,Bool.and_eq_true,ih]
   constructor
   ·rintro ⟨⟨h1,h2⟩,h3⟩
    refine ⟨h1,fun u u1 u2 u3=>?_⟩
    rcases Nat.eq_or_lt_of_le u2 with e|e
    ·subst e;exact h3
    ·exact h2 u u1 (by omega) u3
   ·rintro ⟨h1,h2⟩
    exact ⟨⟨h1,fun u u1 u2=>h2 u u1 (by omega)⟩,h2 (t + 1) (by omega) (Nat.le_refl _) hf⟩
  ·rename_i hf
   rw [ih]
   constructor
   ·rintro ⟨h1,h2⟩
    refine ⟨h1,fun u u1 u2 u3=>?_⟩
    rcases Nat.eq_or_lt_of_le u2 with e|e
    ·subst e;exact absurd u3 hf
    ·exact h2 u u1 (by omega) u3
   ·rintro ⟨h1,h2⟩
    exact ⟨h1,fun u u1 u2=>h2 u u1 (by omega)⟩
theorem vit_bit {c:Crew} {j:Job} {k:Nat}:(vitT c j).testBit k = true ↔ k < c.people.length ∧ ∀ u,1 ≤ u → u < 2 ^ c.people.length → fitsT c j u = true → u.testBit k = true:=by
 have hp:0 < 2 ^ c.people.length:=Nat.two_pow_pos _
 unfold vitT
 rw [vit_spec]
 constructor
 ·rintro ⟨h1,h2⟩;exact ⟨h1,fun u u1 u2=>h2 u u1 (by omega)⟩
 ·rintro ⟨h1,h2⟩;exact ⟨h1,fun u u1 u2=>h2 u u1 (by omega)⟩
end Go.Proofs.Ytkejebdfbkgaiaa

namespace Go.Proofs.Ytkejebdfbkgaiaa

/-- A crew in which nothing is harder. -/
structure Easier (c c':Crew) (j:Job):Prop where
 la:c'.langs = c.langs
 lw:c'.laws = c.laws
 len:c.people.length ≤ c'.people.length
 may:∀ k,k < c.people.length → (c.people.getD k ps0).may j = true → (c'.people.getD k ps0).may j = true
 lev:∀ k a,k < c.people.length → (c.people.getD k ps0).levels.getD a 0 ≤ (c'.people.getD k ps0).levels.getD a 0
 deaf:∀ k,k < c.people.length → (c'.people.getD k ps0).deaf = (c.people.getD k ps0).deaf
 fee:∀ k,k < c.people.length → (c'.people.getD k ps0).fee = (c.people.getD k ps0).fee
theorem filter_more {u n:Nat} (h:u < 2 ^ n):∀ d,(List.range (n + d)).filter (fun i=>u.testBit i) = (List.range n).filter (fun i=>u.testBit i)
 | 0=>rfl
 | d + 1=>by
  have hb:u.testBit (n + d) = false:=Nat.testBit_lt_two_pow (Nat.lt_of_lt_of_le h (Nat.pow_le_pow_right (by decide) (Nat.le_add_right n d)))
  rw [← Nat.add_assoc,List.range_succ,List.filter_append,filter_more h d]
  simp [hb]
theorem Easier.memb {c c':Crew} {j:Job} (h:Easier c c' j) {u:Nat} (hu:u < 2 ^ c.people.length):memb c' u = memb c u:=by
 obtain ⟨d,hd⟩:∃ d,c'.people.length = c.people.length + d:=⟨c'.people.length - c.people.length,by have:=h.len;omega⟩
 show (List.range c'.people.length).filter (fun i=>u.testBit i) = _
 rw [hd,filter_more hu d];rfl
theorem Easier.feeT {c c':Crew} {j:Job} (h:Easier c c' j) {u:Nat} (hu:u < 2 ^ c.people.length):feeT c' u = feeT c u:=by
 show ((Go.Proofs.Ytkejebdfbkgaiaa.memb c' u).map fun i=>(c'.people.getD i ps0).fee).sum = _
 rw [h.memb hu]
 show _ = ((Go.Proofs.Ytkejebdfbkgaiaa.memb c u).map fun i=>(c.people.getD i ps0).fee).sum
 congr 1
 exact List.map_congr_left fun k hk=>h.fee k (mem_memb.1 hk).1
theorem any_mono {α:Type} {l:List α} {p q:α → Bool} (h:∀ x ∈ l,p x = true → q x = true) (hp:l.any p = true):l.any q = true:=by
 rw [List.any_eq_true] at hp ⊢
 obtain ⟨x,hx,hp⟩:=hp
 exact ⟨x,hx,h x hx hp⟩
theorem Easier.fits {c c':Crew} {j:Job} (h:Easier c c' j) {u:Nat} (hu:u < 2 ^ c.people.length) (hf:fitsT c j u = true):fitsT c' j u = true:=by
 rw [fits_b,broken_zero,solo_zero] at hf ⊢
 obtain ⟨h0,h1,h2,h3,h4⟩:=hf
 have hl:lawOf c' j = lawOf c j:=by unfold lawOf;rw [h.lw]
 have hm:=h.memb hu
 rw [hl,h.la]
 refine ⟨h0,fun k hk hb=>?_,h2,fun hd=>?_,?_⟩
 ·have hk:k < c.people.length:=by
   rcases Nat.lt_or_ge k c.people.length with h'|h'
   ·exact h'
   ·have:=Nat.testBit_lt_two_pow (Nat.lt_of_lt_of_le hu (Nat.pow_le_pow_right (by decide) h'))
    rw [this] at hb;cases hb
  exact h.may k hk (h1 k hk hb)
 ·have:=h3 hd
  unfold deafT at this ⊢
  rw [hm]
  exact any_mono (fun k hk hp=>by rw [h.deaf k (mem_memb.1 hk).1];exact hp) this
 ·refine (dist_mono (fun a b hab=>?_) h4).1
  unfold relT joinsT at hab ⊢
  rw [hm]
  refine any_mono (fun k hk hp=>?_) hab
  simp only [Bool.and_eq_true,decide_eq_true_eq] at hp ⊢
  have a1:=h.lev k a (mem_memb.1 hk).1
  have a2:=h.lev k b (mem_memb.1 hk).1
  omega
/-- There is a team if there was one, and it costs no more. -/
theorem Easier.best {c c':Crew} {j:Job} (h:Easier c c' j) (hb:(bestT c j).1 ≠ 0):(bestT c' j).1 ≠ 0 ∧ (bestT c' j).2 ≤ (bestT c j).2:=by
 rcases best_two c j with ⟨b1,_⟩|⟨b1,b2,b3,b4,_⟩
 ·exact absurd b1 hb
 have hf:=h.fits b2 b3
 have hlt:(bestT c j).1 < 2 ^ c'.people.length:=Nat.lt_of_lt_of_le b2 (Nat.pow_le_pow_right (by decide) h.len)
 rcases best_two c' j with ⟨_,d2⟩|⟨d1,_,_,d4,d5⟩
 ·rw [d2 _ b1 hlt] at hf;cases hf
 ·refine ⟨by omega,?_⟩
  have hfee:=h.feeT b2
  have:=d5 _ b1 hlt hf
  rw [hfee] at this
  rw [d4,b4]
  omega
theorem getD_in1 {l:List Int} {a:Nat} (h:a < l.length):l.getD a 0 = l[a]:=by simp [List.getD,List.getElem?_eq_getElem h]
theorem getD_out1 {l:List Int} {a:Nat} (h:l.length ≤ a):l.getD a 0 = 0:=by simp [List.getD,List.getElem?_eq_none h]
def Crew.plus (c:Crew) (x:Person):Crew:=⟨c.langs,c.people ++ [x],c.laws⟩
theorem plus_get {c:Crew} {x:Person} {k:Nat} (hk:k < c.people.length):(c.plus x).people.getD k ps0 = c.people.getD k ps0:=by
 unfold Crew.plus
 simp only [List.getD,List.getElem?_append_left hk]
theorem plus_easier (c:Crew) (x:Person) (j:Job):Easier c (c.plus x) j :=
 ⟨rfl,rfl,by unfold Crew.plus;simp,fun k hk h=>by rw [plus_get hk];exact h,fun k a hk=>by rw [plus_get hk];exact Int.le_refl _,fun k hk=>by rw [plus_get hk],fun k hk=>by rw [plus_get hk]⟩
/-- One person with one tie less, more fields and clearances, and a higher level. -/
def delT (l:List Int) (i:Nat):List Int:=l.take i ++ l.drop (i + 1)
structure Gain where
 lang:Option Nat
 up:Int
 tie:Option Nat
 fields:Nat
 clears:Nat
def Person.gain (p:Person) (g:Gain):Person :=
 ⟨match g.lang with|none=>p.levels|some a=>p.levels.set a (min 5 (p.levels.getD a 0 + g.up)),((p.fields.toNat ||| g.fields:Nat):Int),((p.clears.toNat ||| g.clears:Nat):Int),match g.tie with|none=>p.ties|some i=>delT p.ties i,p.deaf,p.fee⟩
def Crew.gain (c:Crew) (q:Nat) (g:Gain):Crew:=⟨c.langs,c.people.set q ((c.people.getD q ps0).gain g),c.laws⟩
theorem getD_set1 {l:List Person} {q k:Nat} {p:Person} (hq:q < l.length):(l.set q p).getD k ps0 = if k = q then p else l.getD k ps0:=by
 simp only [List.getD,List.getElem?_set,hq,if_true]
 by_cases h:q = k
 ·subst h;simp
 ·rw [if_neg h,if_neg (fun e=>h e.symm)]
theorem gain_get {c:Crew} {q k:Nat} {g:Gain} (hq:q < c.people.length):(c.gain q g).people.getD k ps0 = if k = q then (c.people.getD q ps0).gain g else c.people.getD k ps0:=getD_set1 hq
theorem delT_mem {l:List Int} {i:Nat} {x:Int} (h:x ∈ delT l i):x ∈ l:=by
 unfold delT at h
 rcases List.mem_append.1 h with h|h
 ·exact List.mem_of_mem_take h
 ·exact List.mem_of_mem_drop h
theorem delT_len {l:List Int} {i:Nat}:(delT l i).length ≤ l.length:=by
 unfold delT
 rw [List.length_append,List.length_take,List.length_drop];omega
theorem gain_ties {p:Person} {g:Gain} {x:Int} (h:x ∈ (p.gain g).ties):x ∈ p.ties:=by
 unfold Person.gain at h
 cases ht:g.tie with
 | none=>rw [ht] at h;exact h
 | some i=>rw [ht] at h;exact delT_mem h
theorem gain_lev {p:Person} {g:Gain} (hu:0 ≤ g.up) (h5:∀ x ∈ p.levels,x ≤ 5) (a:Nat):p.levels.getD a 0 ≤ (p.gain g).levels.getD a 0:=by
 unfold Person.gain
 cases hl:g.lang with
 | none=>exact Int.le_refl _
 | some b =>
  show _ ≤ (p.levels.set b (min 5 (p.levels.getD b 0 + g.up))).getD a 0
  by_cases h:b < p.levels.length
  ·simp only [List.getD,List.getElem?_set,h,if_true]
   by_cases e:b = a
   ·subst e
    have:=h5 p.levels[b] (List.getElem_mem h)
    simp only [List.getElem?_eq_getElem h,Option.getD_some,if_true]
    omega
   ·rw [if_neg e];exact Int.le_refl _
  ·rw [List.set_eq_of_length_le (by omega)];exact Int.le_refl _
theorem gain_may {p:Person} {j:Job} {g:Gain} (h:p.may j = true):(p.gain g).may j = true:=by
 unfold Person.may tiedT at h ⊢
 simp only [Bool.and_eq_true,Bool.not_eq_true',List.any_eq_false,decide_eq_true_eq] at h ⊢
 obtain ⟨⟨h1,h2⟩,h3⟩:=h
 refine ⟨⟨fun x hx=>h1 x (gain_ties hx),?_⟩,?_⟩
 ·show (((p.fields.toNat ||| g.fields:Nat):Int).toNat).testBit j.field.toNat = true
  rw [Int.toNat_natCast,Nat.testBit_or,h2];rfl
 ·show (((p.clears.toNat ||| g.clears:Nat):Int).toNat).testBit j.kind.toNat = true
  rw [Int.toNat_natCast,Nat.testBit_or,h3];rfl
theorem gain_easier {c:Crew} {q:Nat} {g:Gain} (hq:q < c.people.length) (hu:0 ≤ g.up) (hp:∀ x ∈ (c.people.getD q ps0).levels,x ≤ 5) (j:Job):Easier c (c.gain q g) j:=by
 have key:∀ k,(c.gain q g).people.getD k ps0 = if k = q then (c.people.getD q ps0).gain g else c.people.getD k ps0:=fun k=>gain_get hq
 refine ⟨rfl,rfl,by unfold Crew.gain;simp,fun k hk h=>?_,fun k a hk=>?_,fun k hk=>?_,fun k hk=>?_⟩
 all_goals
  rw [key]
  by_cases e:k = q
 ·subst e;rw [if_pos rfl];exact gain_may h
 ·rw [if_neg e];exact h
 ·subst e;rw [if_pos rfl];exact gain_lev hu hp a
 ·rw [if_neg e];exact Int.le_refl _
 ·subst e;rw [if_pos rfl];rfl
 ·rw [if_neg e]
 ·subst e;rw [if_pos rfl];rfl
 ·rw [if_neg e]
theorem gain_ok {c:Crew} {q:Nat} {g:Gain} (hc:c.ok = true) (hq:q < c.people.length) (hu:0 ≤ g.up) (hf:g.fields < 256) (hk:g.clears < 256):(c.gain q g).ok = true:=by
 obtain ⟨d1,d2,d3,d4,d5⟩:=crew_d hc
 have hp:=d4 q hq
 unfold Crew.ok at hc ⊢
 have hl:(c.gain q g).people.length = c.people.length:=by unfold Crew.gain;simp
 simp only [Bool.and_eq_true,hl] at hc ⊢
 obtain ⟨⟨⟨⟨a,b⟩,d⟩,e⟩,f⟩:=hc
 refine ⟨⟨⟨⟨a,b⟩,d⟩,?_⟩,f⟩
 rw [List.all_eq_true] at e ⊢
 intro p hpm
 rcases List.mem_or_eq_of_mem_set hpm with h|rfl
 ·exact e p h
 ·show Person.ok c.langs _ = true
  unfold Person.ok at hp ⊢
  simp only [Bool.and_eq_true,decide_eq_true_eq,List.all_eq_true,inB] at hp ⊢
  obtain ⟨⟨⟨⟨⟨⟨k1,k2⟩,k3⟩,k4⟩,k5⟩,k6⟩,k7⟩:=hp
  have b8:∀ {x:Int} {y:Nat},0 ≤ x ∧ x ≤ 255 → y < 256 → 0 ≤ ((x.toNat ||| y:Nat):Int) ∧ ((x.toNat ||| y:Nat):Int) ≤ 255:=fun {x y} hx hy=>by
   have:=Nat.or_lt_two_pow (n:=8) (show x.toNat < 2 ^ 8 by omega) (show y < 2 ^ 8 by omega)
   omega
  refine ⟨⟨⟨⟨⟨⟨?_,?_⟩,b8 k3 hf⟩,b8 k4 hk⟩,?_⟩,fun x hx=>k6 x (gain_ties hx)⟩,k7⟩
  ·unfold Person.gain
   cases g.lang with
   | none=>exact k1
   | some a=>show ((List.set _ _ _).length:Int) = _;rw [List.length_set];exact k1
  ·unfold Person.gain
   cases hlg:g.lang with
   | none=>exact k2
   | some a =>
    intro x hx
    rcases List.mem_or_eq_of_mem_set hx with h|rfl
    ·exact k2 x h
    ·have:0 ≤ (c.people.getD q ps0).levels.getD a 0:=by
      by_cases ha:a < (c.people.getD q ps0).levels.length
      ·rw [getD_in1 ha];exact (k2 _ (List.getElem_mem ha)).1
      ·rw [getD_out1 (show (c.people.getD q ps0).levels.length ≤ a by omega)];exact Int.le_refl _
     omega
  ·unfold Person.gain
   cases g.tie with
   | none=>exact k5
   | some i=>exact Nat.le_trans delT_len k5
end Go.Proofs.Ytkejebdfbkgaiaa
