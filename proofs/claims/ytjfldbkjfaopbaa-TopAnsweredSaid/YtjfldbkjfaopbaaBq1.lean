/- TopAnswered: manned. / Hall's theorem (plain; no program in sight). / TopAnswered: the people who are left answer all emergencies at once (plain law). / TopAnswered: the law's walk (printed by gen_tpw.py). / TopAnswered: how a night reads. -/
import Derived.Test.YtjfldbkjfaopbaaBp22
import Derived.Test.YtjfldbkjfaopbaaBp27
import Derived.Test.YtjfldbkjfaopbaaBp16
import Derived.Test.YtjfldbkjfaopbaaBp18
import Derived.Test.YtjfldbkjfaopbaaBp20
import Derived.Test.YtjfldbkjfaopbaaBp23
set_option linter.unusedSimpArgs false
set_option linter.unusedVariables false
namespace Go.Proofs.Ytjfldbkjfaopbaa
open Go.RowKit

set_option maxHeartbeats 4000000
set_option maxRecDepth 100000
theorem manned_ok : ACall Try.prog 8 [] [] (fun r h=>r = .bool true ∧ h = []):=by
 (refine fcall_of mixed Try.func8 rfl (by decide) (hs:={}) ?k (ac:=?ac) ?c (rs:=?rs) ?r ?l ?H;(case k=>kernel_rfl);(case c=>(conv=>(lhs;cbv)));(case r=>(conv=>(lhs;cbv)));(case l=>exact Nat.le_of_ble_eq_true rfl))
 (repeat' ((try conv=>whnf);first|(with_reducible first|refine wT ?_|refine wF ?_|(refine wI (fun hq=>?_) (fun hq=>?_) <;> try simp only [zA,zE,zD,zJ,zB,zI,wK,wL] at hq)|refine wA ?_|refine wB ?_|refine wC ?_|refine wD ?_|refine wE ?_)|((with_reducible refine wN ?_ ?_);focus exact needA)|(with_reducible refine wG ?_)|(refine FCall.pure example_ok True.intro rfl ?_)|(refine FCall.pure Q.example_ok True.intro rfl ?_)|(refine FCall.pure (ex_planC) ⟨Ln.sameB _ rfl,True.intro⟩ rfl ?_)|(refine FCall.pure (Q.ex_planC) ⟨Ln.sameB _ rfl,True.intro⟩ rfl ?_)|(with_reducible refine wP ?_)))
 all_goals (try conv=>whnf)
 all_goals ((refine ⟨⟨_,[],[],Cut.nil _,Ln.sameB _ rfl,?_,rfl⟩⟩);rfl)
end Go.Proofs.Ytjfldbkjfaopbaa

namespace Go.Proofs.Ytjfldbkjfaopbaa

/-- How many of the first n have a property. -/
def cnt (f:Nat → Bool):Nat → Nat
 | 0=>0
 | n + 1=>cnt f n + if f n then 1 else 0
theorem cnt_congr {f g:Nat → Bool}:∀ {n:Nat},(∀ k,k < n → f k = g k) → cnt f n = cnt g n
 | 0,_=>rfl
 | n + 1,h=>by simp only [cnt];rw [cnt_congr fun k hk=>h k (by omega),h n (by omega)]
theorem cnt_mono {f g:Nat → Bool}:∀ {n:Nat},(∀ k,k < n → f k = true → g k = true) → cnt f n ≤ cnt g n
 | 0,_=>Nat.le_refl _
 | n + 1,h=>by
  have:=cnt_mono (f:=f) (g:=g) (n:=n) fun k hk=>h k (by omega)
  simp only [cnt]
  cases hf:f n
  ·simp;omega
  ·rw [h n (by omega) hf];simp;omega
theorem cnt_split (f h:Nat → Bool):∀ n,cnt f n = cnt (fun k=>f k && h k) n + cnt (fun k=>f k && !h k) n
 | 0=>rfl
 | n + 1=>by
  simp only [cnt]
  rw [cnt_split f h n]
  rcases Bool.eq_false_or_eq_true (f n) with hf|hf <;> rcases Bool.eq_false_or_eq_true (h n) with hh|hh <;> simp [hf,hh] <;> omega
theorem cnt_zero {f:Nat → Bool} {n:Nat} (h:cnt f n = 0):∀ k,k < n → f k = false:=by
 induction n with
 | zero=>intro k hk;omega
 | succ n ih =>
  simp only [cnt] at h
  intro k hk
  by_cases e:k = n
  ·subst e
   cases hf:f k
   ·rfl
   ·rw [hf,if_pos rfl] at h;omega
  ·exact ih (by omega) k (by omega)
theorem cnt_pos {f:Nat → Bool} {n k:Nat} (hk:k < n) (h:f k = true):0 < cnt f n:=by
 apply Nat.pos_of_ne_zero
 intro e
 rw [cnt_zero e k hk] at h;cases h
theorem cnt_get {f:Nat → Bool} {n:Nat} (h:0 < cnt f n):∃ k,k < n ∧ f k = true:=by
 apply Classical.byContradiction
 intro e
 have:cnt f n ≤ cnt (fun _=>false) n:=cnt_mono fun k hk hf=>absurd ⟨k,hk,hf⟩ e
 have z:∀ m,cnt (fun _=>false) m = 0:=fun m=>by induction m with
  | zero=>rfl
  | succ m ih=>simp only [cnt];rw [ih];rfl
 rw [z] at this;omega
theorem cnt_one (i:Nat):∀ n,cnt (fun k=>decide (k = i)) n = if i < n then 1 else 0
 | 0=>by simp [cnt]
 | n + 1=>by
  simp only [cnt]
  rw [cnt_one i n]
  by_cases h:n = i
  ·subst h;simp
  ·have e:(if decide (n = i) = true then 1 else 0) = 0:=if_neg (by simp [h])
   show (if i < n then 1 else 0) + (if decide (n = i) = true then 1 else 0) = _
   rw [e]
   by_cases h2:i < n
   ·rw [if_pos h2,if_pos (show i < n + 1 by omega)]
   ·rw [if_neg h2,if_neg (show ¬ i < n + 1 by omega)]
theorem or_t {a b:Bool} (h:(a || b) = true):a = true ∨ b = true:=by cases a <;> simp_all
theorem and_t {a b:Bool} (h:(a && b) = true):a = true ∧ b = true:=by cases a <;> simp_all
/-- Who has something to do with one of some. -/
def nb (adj:Nat → Nat → Bool) (K:Nat) (Y:Nat → Bool) (j:Nat):Bool:=(List.range K).any fun c=>Y c && adj j c
theorem nb_iff {adj:Nat → Nat → Bool} {K:Nat} {Y:Nat → Bool} {j:Nat}:nb adj K Y j = true ↔ ∃ c,c < K ∧ Y c = true ∧ adj j c = true:=by
 unfold nb
 simp only [List.any_eq_true,List.mem_range,Bool.and_eq_true]
def Matched (adj:Nat → Nat → Bool) (N K:Nat) (P X:Nat → Bool):Prop:=∃ m:Nat → Nat,(∀ c,c < K → X c = true → m c < N ∧ P (m c) = true ∧ adj (m c) c = true) ∧ ∀ c d,c < K → d < K → X c = true → X d = true → m c = m d → c = d
/-- HALL'S THEOREM. -/
theorem hall (adj:Nat → Nat → Bool) (N K:Nat):∀ n (P X:Nat → Bool),cnt X K ≤ n → (∀ Y:Nat → Bool,(∀ c,c < K → Y c = true → X c = true) → cnt Y K ≤ cnt (fun j=>P j && nb adj K Y j) N) → Matched adj N K P X
 | 0,P,X,hn,_=>⟨fun _=>0,fun c hc hx=>(by rw [cnt_zero (Nat.le_zero.1 hn) c hc] at hx;cases hx),fun c d hc _ hx _ _=>(by rw [cnt_zero (Nat.le_zero.1 hn) c hc] at hx;cases hx)⟩
 | n + 1,P,X,hn,h=>by
  by_cases h0:cnt X K = 0
  ·exact hall adj N K n P X (by omega) h
  by_cases hT:∃ Y:Nat → Bool,(∀ c,c < K → Y c = true → X c = true) ∧ 0 < cnt Y K ∧ cnt Y K < cnt X K ∧ cnt Y K = cnt (fun j=>P j && nb adj K Y j) N
  ·obtain ⟨Y,hY,y0,y1,y2⟩:=hT
   obtain ⟨m1,a1,b1⟩:=hall adj N K n P Y (by omega) (fun Z hZ=>h Z fun c hc hz=>hY c hc (hZ c hc hz))
   have sp:=cnt_split X Y K
   have hYX:cnt (fun k=>X k && Y k) K = cnt Y K:=cnt_congr fun k hk=>by
    cases hy:Y k
    ·simp
    ·rw [hY k hk hy];rfl
   obtain ⟨m2,a2,b2⟩:=hall adj N K n (fun j=>P j && !nb adj K Y j) (fun c=>X c && !Y c) (by omega) (fun Z hZ=>by
    have hU:=h (fun c=>Y c || Z c) (fun c hc hz=>by
     rcases or_t hz with hz|hz
     ·exact hY c hc hz
     ·exact (and_t (hZ c hc hz)).1)
    have e1:=cnt_split (fun c=>Y c || Z c) Y K
    have e2:cnt (fun c=>(Y c || Z c) && Y c) K = cnt Y K:=cnt_congr fun k _=>by cases Y k <;> simp
    have e3:cnt (fun c=>(Y c || Z c) && !Y c) K = cnt Z K:=cnt_congr fun k hk=>by
     cases hz:Z k
     ·cases Y k <;> simp
     ·have:=(and_t (hZ k hk hz)).2
      cases hy:Y k
      ·rfl
      ·rw [hy] at this;cases this
    have f1:=cnt_split (fun j=>P j && nb adj K (fun c=>Y c || Z c) j) (fun j=>nb adj K Y j) N
    have f2:cnt (fun j=>(P j && nb adj K (fun c=>Y c || Z c) j) && nb adj K Y j) N ≤ cnt (fun j=>P j && nb adj K Y j) N:=cnt_mono fun k _ hk=>by
     simp only [Bool.and_eq_true] at hk ⊢
     exact ⟨hk.1.1,hk.2⟩
    have f3:cnt (fun j=>(P j && nb adj K (fun c=>Y c || Z c) j) && !nb adj K Y j) N ≤ cnt (fun j=>(P j && !nb adj K Y j) && nb adj K Z j) N:=cnt_mono fun k _ hk=>by
     simp only [Bool.and_eq_true] at hk ⊢
     refine ⟨⟨hk.1.1,hk.2⟩,?_⟩
     obtain ⟨c,hc,hyz,hadj⟩:=nb_iff.1 hk.1.2
     rcases or_t hyz with hy|hz
     ·have:nb adj K Y k = true:=nb_iff.2 ⟨c,hc,hy,hadj⟩
      rw [this] at hk;exact absurd hk.2 (by decide)
     ·exact nb_iff.2 ⟨c,hc,hz,hadj⟩
    omega)
   have a3:∀ c,c < K → X c = true → Y c = false → m2 c < N ∧ P (m2 c) = true ∧ nb adj K Y (m2 c) = false ∧ adj (m2 c) c = true:=fun c hc hx hy=>by
    obtain ⟨q1,q2,q3⟩:=a2 c hc (by show (X c && !Y c) = true;rw [hx,hy];rfl)
    have q2:(P (m2 c) && !nb adj K Y (m2 c)) = true:=q2
    obtain ⟨q4,q5⟩:=and_t q2
    exact ⟨q1,q4,by simpa using q5,q3⟩
   have b3:∀ c d,c < K → d < K → X c = true → Y c = false → X d = true → Y d = false → m2 c = m2 d → c = d:=fun c d hc hd h1 h2 h3 h4=>b2 c d hc hd (by show (X c && !Y c) = true;rw [h1,h2];rfl) (by show (X d && !Y d) = true;rw [h3,h4];rfl)
   have cross:∀ c d,c < K → d < K → Y c = true → X d = true → Y d = false → m1 c ≠ m2 d:=fun c d hc hd hy hxd hyd e=>by
    have q:=(a3 d hd hxd hyd).2.2.1
    have r:=(a1 c hc hy).2.2
    rw [e] at r
    rw [nb_iff.2 ⟨c,hc,hy,r⟩] at q;cases q
   refine ⟨fun c=>match Y c with|true=>m1 c|false=>m2 c,fun c hc hx=>?_,fun c d hc hd hx hx' e=>?_⟩
   ·dsimp only
    cases hy:Y c
    ·have:=a3 c hc hx hy
     exact ⟨this.1,this.2.1,this.2.2.2⟩
    ·have:=a1 c hc hy
     exact this
   ·dsimp only at e
    cases hy:Y c <;> cases hy':Y d <;> rw [hy,hy'] at e <;> dsimp only at e
    ·exact b3 c d hc hd hx hy hx' hy' e
    ·exact absurd e.symm (cross d c hd hc hy' hx hy)
    ·exact absurd e (cross c d hc hd hy hx' hy')
    ·exact b1 c d hc hd hy hy' e
  ·obtain ⟨c0,hc0,hx0⟩:=cnt_get (Nat.pos_of_ne_zero h0)
   have s0:=h (fun k=>decide (k = c0)) (fun c _ hc=>by rw [of_decide_eq_true hc];exact hx0)
   rw [cnt_one,if_pos hc0] at s0
   obtain ⟨j0,hj0,hp⟩:=cnt_get s0
   simp only [Bool.and_eq_true] at hp
   obtain ⟨c',hc',he,hadj⟩:=nb_iff.1 hp.2
   have he:=of_decide_eq_true he
   subst he
   have sx:=cnt_split X (fun k=>decide (k = c')) K
   have sx1:cnt (fun k=>X k && decide (k = c')) K = 1:=by
    rw [show cnt (fun k=>X k && decide (k = c')) K = cnt (fun k=>decide (k = c')) K from cnt_congr fun k _=>by
     by_cases e:k = c'
     ·subst e;rw [hx0];rfl
     ·simp [e],cnt_one,if_pos hc']
   obtain ⟨m,a,b⟩:=hall adj N K n (fun j=>P j && !decide (j = j0)) (fun c=>X c && !decide (c = c')) (by omega) (fun Z hZ=>by
    by_cases z0:cnt Z K = 0
    ·omega
    have hZX:∀ c,c < K → Z c = true → X c = true:=fun c hc hz=>(and_t (hZ c hc hz)).1
    have l1:cnt Z K ≤ cnt (fun c=>X c && !decide (c = c')) K:=cnt_mono fun k hk hz=>hZ k hk hz
    have l2:=h Z hZX
    have l3:cnt Z K ≠ cnt (fun j=>P j && nb adj K Z j) N:=fun e=>hT ⟨Z,hZX,by omega,by omega,e⟩
    have sp:=cnt_split (fun j=>P j && nb adj K Z j) (fun j=>decide (j = j0)) N
    have k1:cnt (fun j=>(P j && nb adj K Z j) && decide (j = j0)) N ≤ cnt (fun j=>decide (j = j0)) N:=cnt_mono fun k _ hk=>(and_t hk).2
    rw [cnt_one,if_pos hj0] at k1
    have k2:cnt (fun j=>(P j && nb adj K Z j) && !decide (j = j0)) N = cnt (fun j=>(P j && !decide (j = j0)) && nb adj K Z j) N:=cnt_congr fun k _=>by
     cases P k <;> cases nb adj K Z k <;> simp
    omega)
   have a3:∀ c,c < K → X c = true → c ≠ c' → m c < N ∧ P (m c) = true ∧ m c ≠ j0 ∧ adj (m c) c = true:=fun c hc hx hne=>by
    obtain ⟨q1,q2,q3⟩:=a c hc (by show (X c && !decide (c = c')) = true;rw [hx,decide_eq_false hne];rfl)
    have q2:(P (m c) && !decide (m c = j0)) = true:=q2
    obtain ⟨q4,q5⟩:=and_t q2
    exact ⟨q1,q4,by simpa using q5,q3⟩
   have b3:∀ c d,c < K → d < K → X c = true → c ≠ c' → X d = true → d ≠ c' → m c = m d → c = d:=fun c d hc hd h1 h2 h3 h4=>b c d hc hd (by show (X c && !decide (c = c')) = true;rw [h1,decide_eq_false h2];rfl) (by show (X d && !decide (d = c')) = true;rw [h3,decide_eq_false h4];rfl)
   refine ⟨fun c=>if c = c' then j0 else m c,fun c hc hx=>?_,fun c d hc hd hx hx' e=>?_⟩
   ·dsimp only
    by_cases ec:c = c'
    ·subst ec;rw [if_pos rfl];exact ⟨hj0,hp.1,hadj⟩
    ·rw [if_neg ec]
     have:=a3 c hc hx ec
     exact ⟨this.1,this.2.1,this.2.2.2⟩
   ·dsimp only at e
    by_cases ec:c = c' <;> by_cases ed:d = c'
    ·rw [ec,ed]
    ·rw [if_pos ec,if_neg ed] at e
     exact absurd e.symm (a3 d hd hx' ed).2.2.1
    ·rw [if_neg ec,if_pos ed] at e
     exact absurd e (a3 c hc hx ec).2.2.1
    ·rw [if_neg ec,if_neg ed] at e
     exact b3 c d hc hd hx ec hx' ed e
end Go.Proofs.Ytjfldbkjfaopbaa

namespace Go.Proofs.Ytjfldbkjfaopbaa.Q

/-- The people of a set, all on duty for four times. -/
def sgT (p:Pool) (g:Nat):Nat → List Sgn
 | 0=>[]
 | k + 1=>sgT p g k ++ if g.testBit k then [⟨(p.folk.getD k fo0).tongues,0,4⟩] else []
/-- The emergencies that are needed. -/
def rgT (p:Pool) (s:Nat):Nat → List Rng
 | 0=>[]
 | k + 1=>rgT p s k ++ List.replicate ((p.row s).getD k 0).toNat ⟨(k:Nat),0,true⟩
def nightT (p:Pool) (s g:Nat) (o:List Rng):Std:=⟨4,sgT p g p.folk.length,rgT p s p.nT ++ o⟩
theorem sg_who (p:Pool) (g T:Nat):∀ k,whoTo p g T k = (sgT p g k).countP (fun x=>decide (x.tongues.toNat &&& T ≠ 0))
 | 0=>rfl
 | k + 1=>by
  simp only [whoTo,sgT,List.countP_append]
  rw [sg_who p g T k]
  cases hb:g.testBit k
  ·simp
  ·simp only [Bool.true_and,if_true,List.countP_singleton]
   rfl
theorem rg_need (p:Pool) (s T:Nat):∀ k,(∀ t,t < k → 0 ≤ (p.row s).getD t 0) → needTo p s T k = (((rgT p s k).countP (fun r=>T.testBit r.tongue.toNat):Nat):Int)
 | 0,_=>rfl
 | k + 1,h=>by
  have h1:=h k (by omega)
  simp only [needTo,rgT,List.countP_append,List.countP_replicate,Int.toNat_natCast]
  rw [rg_need p s T k fun t ht=>h t (by omega)]
  by_cases hb:T.testBit k = true
  ·rw [if_pos hb,if_pos hb];omega
  ·rw [if_neg hb,if_neg hb];rfl
theorem sg_mem {p:Pool} {g:Nat} {x:Sgn}:∀ {k:Nat},x ∈ sgT p g k → x.from_ = 0 ∧ x.until_ = 4
 | 0,h=>by cases h
 | k + 1,h=>by
  simp only [sgT,List.mem_append] at h
  rcases h with h|h
  ·exact sg_mem h
  ·split at h
   ·rw [List.mem_singleton.1 h];exact ⟨rfl,rfl⟩
   ·cases h
theorem rg_mem {p:Pool} {s:Nat} {x:Rng}:∀ {k:Nat},x ∈ rgT p s k → x.at_ = 0 ∧ x.urg = true ∧ x.tongue.toNat < k
 | 0,h=>by cases h
 | k + 1,h=>by
  simp only [rgT,List.mem_append] at h
  rcases h with h|h
  ·have:=rg_mem h;exact ⟨this.1,this.2.1,by omega⟩
  ·rw [(List.mem_replicate.1 h).2];exact ⟨rfl,rfl,by show ((k:Nat):Int).toNat < k + 1;omega⟩
theorem cnt_take {α:Type} (P:α → Bool) (d:α) (l:List α):∀ n,n ≤ l.length → cnt (fun j=>P (l.getD j d)) n = (l.take n).countP P
 | 0,_=>by simp [cnt]
 | n + 1,h=>by
  have hn:n < l.length:=by omega
  simp only [cnt]
  rw [cnt_take P d l n (by omega),List.take_add_one,List.countP_append,List.getElem?_eq_getElem hn]
  simp only [Option.toList,List.countP_singleton,List.getD,List.getElem?_eq_getElem hn,Option.getD_some]
theorem cnt_list {α:Type} (P:α → Bool) (d:α) (l:List α):cnt (fun j=>P (l.getD j d)) l.length = l.countP P:=by
 rw [cnt_take P d l _ (Nat.le_refl _),List.take_of_length_le (Nat.le_refl _)]
theorem getD_l {α:Type} {a b:List α} {d:α} {c:Nat} (h:c < a.length):(a ++ b).getD c d = a.getD c d:=by
 simp [List.getD,List.getElem?_append_left h]
theorem getD_r {α:Type} {a b:List α} {d:α} {c:Nat} (h:a.length ≤ c):(a ++ b).getD c d = b.getD (c - a.length) d:=by
 simp [List.getD,List.getElem?_append_right h]
theorem getD_in {α:Type} {l:List α} {d:α} {c:Nat} (h:c < l.length):l.getD c d ∈ l:=by
 rw [List.getD,List.getElem?_eq_getElem h];exact List.getElem_mem h
/-- The emergencies can be given to different people. -/
theorem match_all {p:Pool} (hp:PoolOk p) {s g:Nat} (hs:s < p.needs.length) (hc:∀ T,T < 2 ^ p.nT → missT p s g T ≤ 0) :
  Matched (fun j c=>((sgT p g p.folk.length).getD j sg0).tongues.toNat.testBit ((rgT p s p.nT).getD c rg0).tongue.toNat) (sgT p g p.folk.length).length (rgT p s p.nT).length (fun _=>true) (fun _=>true):=by
 refine hall _ _ _ _ _ _ (Nat.le_refl _) fun Y _=>?_
 have hrow:=(hp.row s hs).2
 let T:=maskOf (fun t=>(List.range (rgT p s p.nT).length).any fun c=>Y c && decide (((rgT p s p.nT).getD c rg0).tongue.toNat = t)) p.nT
 have hT:T < 2 ^ p.nT:=maskOf_lt _ _
 have hm:=hc T hT
 unfold missT needT whoT at hm
 rw [rg_need p s T p.nT fun t ht=>(hrow t ht).1,sg_who] at hm
 have e1:=cnt_list (fun (r:Rng)=>T.testBit r.tongue.toNat) rg0 (rgT p s p.nT)
 have e2:=cnt_list (fun (x:Sgn)=>decide (x.tongues.toNat &&& T ≠ 0)) sg0 (sgT p g p.folk.length)
 have l1:cnt Y (rgT p s p.nT).length ≤ cnt (fun c=>T.testBit ((rgT p s p.nT).getD c rg0).tongue.toNat) (rgT p s p.nT).length:=cnt_mono fun c hcl hy=>by
  show (maskOf _ _).testBit _ = true
  rw [test_maskOf,decide_eq_true (rg_mem (getD_in hcl)).2.2,Bool.true_and]
  exact List.any_eq_true.2 ⟨c,List.mem_range.2 hcl,by rw [hy];simp⟩
 have l2:cnt (fun j=>decide (((sgT p g p.folk.length).getD j sg0).tongues.toNat &&& T ≠ 0)) (sgT p g p.folk.length).length ≤ cnt (fun j=>true && nb (fun j c=>((sgT p g p.folk.length).getD j sg0).tongues.toNat.testBit ((rgT p s p.nT).getD c rg0).tongue.toNat) (rgT p s p.nT).length Y j) (sgT p g p.folk.length).length:=cnt_mono fun j hj hx=>by
  obtain ⟨t,ht⟩:=Nat.exists_testBit_of_ne_zero (of_decide_eq_true hx)
  rw [Nat.testBit_and] at ht
  obtain ⟨t1,t2⟩:=and_t ht
  have t2:(maskOf _ _).testBit t = true:=t2
  rw [test_maskOf] at t2
  obtain ⟨c,hcl,hyc⟩:=List.any_eq_true.1 (and_t t2).2
  obtain ⟨hy,he⟩:=and_t hyc
  rw [Bool.true_and]
  exact nb_iff.2 ⟨c,List.mem_range.1 hcl,hy,by rw [of_decide_eq_true he];exact t1⟩
 omega
theorem sumW_u {f:Nat → Wt}:∀ {k:Nat},(∀ c,c < k → 0 ≤ (f c).u) → 0 ≤ (sumW f k).u ∧ ((sumW f k).u = 0 → ∀ c,c < k → (f c).u = 0)
 | 0,_=>⟨Int.le_refl _,fun _ c hc=>by omega⟩
 | k + 1,h=>by
  obtain ⟨a,b⟩:=sumW_u (f:=f) (k:=k) fun c hc=>h c (by omega)
  have:=h k (by omega)
  have e:(sumW f (k + 1)).u = (sumW f k).u + (f k).u:=rfl
  refine ⟨by omega,fun hz c hc=>?_⟩
  by_cases ec:c = k
  ·subst ec;omega
  ·exact b (by omega) c (by omega)
theorem sumW_z {f:Nat → Wt}:∀ {k:Nat},(∀ c,c < k → (f c).u = 0) → (sumW f k).u = 0
 | 0,_=>rfl
 | k + 1,h=>by
  have e:(sumW f (k + 1)).u = (sumW f k).u + (f k).u:=rfl
  rw [e,sumW_z fun c hc=>h c (by omega),h k (by omega)];rfl
theorem until_b {s:Std} (hs:StdOk s) {l:List Anr} (h:Right s l) {c:Nat} (hc:c < s.C):(s.R c).at_ ≤ untilT s (l.getD c na).t ∧ ((l.getD c na).t < 0 → untilT s (l.getD c na).t = s.times):=by
 have r:=hs.rg c hc
 unfold untilT
 rcases h.ok c hc with e|⟨h1,h2,_⟩
 ·rw [e,if_pos (by decide)]
  exact ⟨by omega,fun _=>rfl⟩
 ·have h4:=canA_d h2
  refine ⟨?_,fun hn=>if_pos hn⟩
  split <;> omega
theorem w_u {r:Rng} {t:Int}:(r.w t).u = if r.urg then t - r.at_ else 0:=by unfold Rng.w;split <;> rfl
/-- THE THEOREM OF THE NIGHT ON CALL, in plain terms. -/
theorem night_law {p:Pool} (hp:PoolOk p) {s g:Nat} {o:List Rng} (hs:s < p.needs.length) (hc:∀ T,T < 2 ^ p.nT → missT p s g T ≤ 0) (ho:∀ r,r ∈ o → r.urg = false) (hok:(nightT p s g o).ok = true) :
  (bestW (nightT p s g o)).u = 0 ∧ ∀ c,c < (nightT p s g o).C → ((nightT p s g o).R c).urg = true → ((bestL (nightT p s g o)).getD c na).t = 0:=by
 have hS:=std_d hok
 obtain ⟨m,a1,a2⟩:=match_all hp (g:=g) hs hc
 have hT:(nightT p s g o).T = 4:=rfl
 have hn:(nightT p s g o).n = (sgT p g p.folk.length).length:=rfl
 have hC:(nightT p s g o).C = (rgT p s p.nT).length + o.length:=List.length_append
 have hR:∀ c,c < (rgT p s p.nT).length → (nightT p s g o).R c = (rgT p s p.nT).getD c rg0:=fun c hcl=>getD_l hcl
 have hR2:∀ c,(rgT p s p.nT).length ≤ c → c < (nightT p s g o).C → ((nightT p s g o).R c).urg = false:=fun c h1 h2=>by
  show ((rgT p s p.nT ++ o).getD c rg0).urg = false
  rw [getD_r h1]
  exact ho _ (getD_in (by omega))
 have hM:IsM (nightT p s g o) (AllD (nightT p s g o)) (2 ^ (rgT p s p.nT).length - 1) (fun c=>if c < (rgT p s p.nT).length then some (m c,0) else none):=by
  refine ⟨fun c=>?_,fun c q h=>?_,fun c c' q h h'=>?_⟩
  ·rw [Nat.testBit_two_pow_sub_one]
   by_cases hcl:c < (rgT p s p.nT).length
   ·simp only [if_pos hcl,hcl,decide_true,and_true]
    exact ⟨fun h=>(by cases h),fun h=>absurd (by omega) h⟩
   ·simp [hcl]
  ·by_cases hcl:c < (rgT p s p.nT).length
   ·simp only [if_pos hcl,Option.some.injEq] at h
    subst h
    obtain ⟨b1,-,b3⟩:=a1 c hcl rfl
    refine ⟨⟨b1,by show 0 < (nightT p s g o).T;rw [hT];decide⟩,?_⟩
    have hsg:=sg_mem (getD_in (d:=sg0) b1)
    have hrg:=rg_mem (getD_in (d:=rg0) hcl)
    unfold canA
    rw [hR c hcl]
    show (decide (((sgT p g p.folk.length).getD (m c) sg0).from_ ≤ ((0:Nat):Int)) && decide (((0:Nat):Int) < ((sgT p g p.folk.length).getD (m c) sg0).until_) && decide (((rgT p s p.nT).getD c rg0).at_ ≤ ((0:Nat):Int)) && _) = true
    rw [hsg.1,hsg.2,hrg.1]
    exact b3
   ·simp only [if_neg hcl] at h;cases h
  ·by_cases hcl:c < (rgT p s p.nT).length <;> by_cases hcl':c' < (rgT p s p.nT).length
   ·simp only [if_pos hcl,Option.some.injEq] at h
    simp only [if_pos hcl',Option.some.injEq] at h'
    rw [← h'] at h
    exact a2 c c' hcl hcl' rfl rfl (Prod.mk.inj h).1
   ·simp only [if_neg hcl'] at h';cases h'
   ·simp only [if_neg hcl] at h;cases h
   ·simp only [if_neg hcl] at h;cases h
 have hb:=(best_ok (nightT p s g o)).2.2 _ _ hM
 have ht:(total (nightT p s g o) (fun c=>if c < (rgT p s p.nT).length then some (m c,0) else none)).u = 0:=by
  unfold total
  refine sumW_z fun c hcc=>?_
  by_cases hcl:c < (rgT p s p.nT).length
  ·simp only [if_pos hcl]
   rw [w_u,hR c hcl,(rg_mem (getD_in (d:=rg0) hcl)).1]
   split <;> rfl
  ·simp only [if_neg hcl]
   rw [w_u,hR2 c (by omega) hcc];rfl
 rw [nlt_iff] at hb
 have hw:=bestL_wait hS
 have hr:=bestL_right (nightT p s g o)
 have hu:=sumW_u (f:=fun c=>((nightT p s g o).R c).w (untilT (nightT p s g o) ((bestL (nightT p s g o)).getD c na).t)) (k:=(nightT p s g o).C) (fun c hcc=>by
  have:=(until_b hS hr hcc).1
  show 0 ≤ (Rng.w _ _).u
  rw [w_u];split <;> omega)
 have e:(bestW (nightT p s g o)).u = (sumW (fun c=>((nightT p s g o).R c).w (untilT (nightT p s g o) ((bestL (nightT p s g o)).getD c na).t)) (nightT p s g o).C).u:=by rw [← hw];rfl
 have h0:(bestW (nightT p s g o)).u = 0:=by rw [ht] at hb;rw [e] at hb ⊢;omega
 refine ⟨h0,fun c hcc hurg=>?_⟩
 have hz:=hu.2 (by rw [← e];exact h0) c hcc
 have hz:(((nightT p s g o).R c).w (untilT (nightT p s g o) ((bestL (nightT p s g o)).getD c na).t)).u = 0:=hz
 rw [w_u,if_pos hurg] at hz
 have hcl:c < (rgT p s p.nT).length:=by
  apply Classical.byContradiction
  intro h
  rw [hR2 c (by omega) hcc] at hurg;cases hurg
 rw [hR c hcl,(rg_mem (getD_in (d:=rg0) hcl)).1] at hz
 have hb2:=until_b hS hr hcc
 have h4:(nightT p s g o).times = 4:=rfl
 by_cases hneg:((bestL (nightT p s g o)).getD c na).t < 0
 ·have:=hb2.2 hneg;omega
 ·unfold untilT at hz
  rw [if_neg hneg] at hz
  omega
end Go.Proofs.Ytjfldbkjfaopbaa.Q

namespace Go.Proofs.Ytjfldbkjfaopbaa
open Go.RowKit

theorem sg_len (p:Pool) (g:Nat):∀ k,(Q.sgT p g k).length ≤ k
 | 0=>Nat.le_refl _
 | k + 1=>by
  have:=sg_len p g k
  simp only [Q.sgT,List.length_append]
  split <;> simp <;> omega
theorem sg_yes {p:Pool} {g k:Nat} (h:g.testBit k = true):Q.sgT p g (k + 1) = Q.sgT p g k ++ [⟨(p.folk.getD k fo0).tongues,0,4⟩]:=by
 show _ ++ (if _ then _ else _) = _;rw [if_pos h]
theorem sg_no {p:Pool} {g k:Nat} (h:g.testBit k = false):Q.sgT p g (k + 1) = Q.sgT p g k:=by
 show _ ++ (if _ then _ else _) = _;rw [h,if_neg (by decide),List.append_nil]
theorem rg_len {p:Pool} {s:Nat}:∀ k,(∀ t,t < k → (p.row s).getD t 0 ≤ 8) → (Q.rgT p s k).length ≤ 8 * k
 | 0,_=>Nat.le_refl _
 | k + 1,h=>by
  have:=rg_len (p:=p) (s:=s) k fun t ht=>h t (by omega)
  have:=h k (by omega)
  simp only [Q.rgT,List.length_append,List.length_replicate]
  omega
/-- The emergencies up to the i-th of the language t. -/
def rgI (p:Pool) (s t i:Nat):List Q.Rng:=Q.rgT p s t ++ List.replicate i ⟨(t:Nat),0,true⟩
theorem rgI_0 (p:Pool) (s t:Nat):rgI p s t 0 = Q.rgT p s t:=List.append_nil _
theorem rgI_s (p:Pool) (s t i:Nat):rgI p s t (i + 1) = rgI p s t i ++ [⟨(t:Nat),0,true⟩]:=by
 unfold rgI;rw [List.replicate_succ',List.append_assoc]
theorem rgI_e {p:Pool} {s t i:Nat} (h:((p.needs.getD s []).getD t 0).toNat = i):rgI p s t i = Q.rgT p s (t + 1):=by subst h;rfl
theorem rgI_len {p:Pool} {s t i:Nat}:(rgI p s t i).length = (Q.rgT p s t).length + i:=by simp [rgI]
def nF (x:Q.Std):Q.StF:=⟨decide (x.sg.length = 0),decide (x.sg.length = 0),decide (x.rg.length = 0),decide (x.rg.length = 0)⟩
section
variable {σ:Nat → Nat → Prop} {Bp:Nat → Prop} {H:List AB}
theorem Ln.nilZ {n' sz:Nat} {c':Nat → Nat → AV} (h:n' = 0):Ln σ Bp H nilS (.sl (decide (n' = 0)) (decide (n' = 0)) n' sz c'):=by
 subst h;exact Ln.slz _ _ _ _ _ _ _ (fun h=>h)
theorem Ln.pubZ {d n n' N sz:Nat} {c c':Nat → Nat → AV} (h0:0 < n') (h:Bp d) (hd:H[d]? = some (.row N sz c)) (hn:n ≤ N) (e:n = n') (hc:∀ k,k < n → ∀ o,o < sz → c' k o = c k o):Ln σ Bp H (.own d n) (.sl (decide (n' = 0)) (decide (n' = 0)) n' sz c'):=by
 rw [decide_eq_false (by omega)];exact Ln.pubE h hd hn e hc
end
theorem cS_l {l:List Q.Sgn} {x:Q.Sgn} {k:Nat} (h:k < l.length) (o:Nat):Q.cSgn ((l ++ [x]).getD k Q.sg0) o = Q.cSgn (l.getD k Q.sg0) o:=by rw [Q.getD_l h]
theorem cS_n {l:List Q.Sgn} {x:Q.Sgn} {k:Nat} (h:k = l.length) (o:Nat):Q.cSgn ((l ++ [x]).getD k Q.sg0) o = Q.cSgn x o:=by
 subst h;rw [Q.getD_r (Nat.le_refl _),Nat.sub_self];rfl
theorem cR_l {l:List Q.Rng} {x:Q.Rng} {k:Nat} (h:k < l.length) (o:Nat):Q.cRng ((l ++ [x]).getD k Q.rg0) o = Q.cRng (l.getD k Q.rg0) o:=by rw [Q.getD_l h]
theorem cR_n {l:List Q.Rng} {x:Q.Rng} {k:Nat} (h:k = l.length) (o:Nat):Q.cRng ((l ++ [x]).getD k Q.rg0) o = Q.cRng x o:=by
 subst h;rw [Q.getD_r (Nat.le_refl _),Nat.sub_self];rfl
theorem cR_app {R o:List Q.Rng} {n k q:Nat} {c:Nat → Nat → AV} (hn:n = R.length) (hc:∀ k,k < n → ∀ q,c k q = Q.cRng (R.getD k Q.rg0) q):Q.cRng ((R ++ o).getD k Q.rg0) q = appc n c (fun j=>Q.cRng (o.getD j Q.rg0)) k q:=by
 simp only [appc]
 by_cases h:k < n
 ·rw [if_pos h,hc k h,Q.getD_l (by omega)]
 ·rw [if_neg h,Q.getD_r (by omega),hn]
theorem elem3 {x:Nat → AV} {v:AV} (h0:x 0 = elemC v 0) (h1:x 1 = elemC v 1) (h2:x 2 = elemC v 2):∀ o,o < 3 → x o = elemC v o:=fun o ho=>by
 rcases (show o = 0 ∨ o = 1 ∨ o = 2 by omega) with rfl|rfl|rfl <;> assumption
set_option maxHeartbeats 16000000
set_option maxRecDepth 100000
theorem answered_any (f:PoF) (p:Pool) (z:Bool) (w:List Int) (sl il:Int) (zo:Bool) (o:List Q.Rng) (hw:∀ s,s < w.length → in64 (w.getD s 0)) (hlw:w.length ≤ 9223372036854775807) (hil:in64 il) (hlo:o.length ≤ 9223372036854775807):ACall Try.prog 3 [aPool f p,aInts z false w,.agg 3 (ofL [AI sl,AI il,Q.aRngs zo false o])] [] (fun v h=>v = .bool true ∧ h = []):=by
 have cF:=farT_ok f p
 unfold in64 at hil
 (refine fcall_of mixed Try.func3 rfl (by decide) (hs:={ pub:=[12,20],ord:=[(1,[(0,[]),(1,[]),(2,[]),(3,[]),(4,[]),(5,[]),(6,[]),(7,[]),(8,[]),(9,[]),(10,[]),(11,[]),(12,[]),(13,[]),(14,[]),(15,[]),(16,[]),(17,[]),(18,[]),(19,[]),(20,[]),(21,[]),(22,[]),(23,[]),(24,[]),(25,[]),(26,[]),(27,[]),(28,[]),(29,[]),(30,[]),(31,[]),(32,[]),(33,[]),(34,[]),(35,[]),(36,[]),(37,[]),(38,[]),(40,[]),(41,[]),(39,[41]),(42,[]),(43,[]),(44,[]),(45,[]),(46,[]),(47,[]),(48,[]),(49,[])])] }) ?k (ac:=?ac) ?c (rs:=?rs) ?r ?l ?H;(case k=>kernel_rfl);(case c=>(conv=>(lhs;cbv)));(case r=>(conv=>(lhs;cbv)));(case l=>exact Nat.le_of_ble_eq_true rfl))
 cases hfar:farT p
 rotate_left
 ·rw [hfar] at cF
  (repeat' ((try conv=>whnf);first|(with_reducible first|refine wT ?_|refine wF ?_|(refine wI (fun hq=>?_) (fun hq=>?_) <;> try simp only [zA,zE,zD,zJ,zB,zI,wK,wL] at hq)|refine wA ?_|refine wB ?_|refine wC ?_|refine wD ?_|refine wE ?_)|((with_reducible refine wN ?_ ?_);focus exact needA)|(with_reducible first|refine FBit.hasT rfl (by assumption) ?_|refine FBit.hasF rfl (by assumption) ?_|refine FBit.shrN rfl (by omega) ?_|refine FBit.half rfl ?_|refine FBit.shl1 rfl (by omega) ?_|refine Fits.inU (by omega) ?_|refine FBit.shrNI rfl (by omega) ?_|refine FBit.shrIN rfl (by omega) (by omega) ?_|refine FBit.shrI rfl (by omega) (by omega) ?_|refine FBit.shl1I rfl (by omega) ?_)|(with_reducible refine FBit.has rfl (fun hq=>?_) (fun hq=>?_))|(with_reducible first|refine FBit.and1 rfl ?_|refine FBit.andN rfl (by omega) (by omega) ?_|refine FBit.orN rfl (by omega) (by omega) ?_|refine FBit.andNotN rfl (by omega) (by omega) ?_)|(with_reducible refine wG ?_)|(refine FCall.pure (cF) ⟨Ln.sameB _ rfl,True.intro⟩ rfl ?_)|(refine FCall.pure manned_ok True.intro rfl ?_)|(with_reducible refine wP ?_)))
  all_goals (try conv=>whnf)
  all_goals first|((refine ⟨⟨_,[],[],Cut.nil _,Ln.sameB _ rfl,?_,rfl⟩⟩);rfl)|exact absurd hq (by first|decide|(simp;done)|fail)|(exfalso;omega)
 rw [hfar] at cF
 have hn:=near_of hfar
 by_cases hl:w.length ≤ 20
 rotate_left
 ·clear hw
  (repeat' ((try conv=>whnf);first|(with_reducible first|refine wT ?_|refine wF ?_|(refine wI (fun hq=>?_) (fun hq=>?_) <;> try simp only [zA,zE,zD,zJ,zB,zI,wK,wL] at hq)|refine wA ?_|refine wB ?_|refine wC ?_|refine wD ?_|refine wE ?_)|((with_reducible refine wN ?_ ?_);focus exact needA)|(with_reducible first|refine FBit.hasT rfl (by assumption) ?_|refine FBit.hasF rfl (by assumption) ?_|refine FBit.shrN rfl (by omega) ?_|refine FBit.half rfl ?_|refine FBit.shl1 rfl (by omega) ?_|refine Fits.inU (by omega) ?_|refine FBit.shrNI rfl (by omega) ?_|refine FBit.shrIN rfl (by omega) (by omega) ?_|refine FBit.shrI rfl (by omega) (by omega) ?_|refine FBit.shl1I rfl (by omega) ?_)|(with_reducible refine FBit.has rfl (fun hq=>?_) (fun hq=>?_))|(with_reducible first|refine FBit.and1 rfl ?_|refine FBit.andN rfl (by omega) (by omega) ?_|refine FBit.orN rfl (by omega) (by omega) ?_|refine FBit.andNotN rfl (by omega) (by omega) ?_)|(with_reducible refine wG ?_)|(refine FCall.pure (cF) ⟨Ln.sameB _ rfl,True.intro⟩ rfl ?_)|(refine FCall.pure manned_ok True.intro rfl ?_)|(with_reducible refine wP ?_)))
  all_goals (try conv=>whnf)
  all_goals first|((refine ⟨⟨_,[],[],Cut.nil _,Ln.sameB _ rfl,?_,rfl⟩⟩);rfl)|exact absurd hq (by first|decide|(simp;done)|fail)|(exfalso;omega)
 have cW:=checkWatch_ok f p z false w hn (by omega)
 by_cases hcw:checkW p w = 0
 rotate_left
 ·clear hw
  (repeat' ((try conv=>whnf);first|(with_reducible first|refine wT ?_|refine wF ?_|(refine wI (fun hq=>?_) (fun hq=>?_) <;> try simp only [zA,zE,zD,zJ,zB,zI,wK,wL] at hq)|refine wA ?_|refine wB ?_|refine wC ?_|refine wD ?_|refine wE ?_)|((with_reducible refine wN ?_ ?_);focus exact needA)|(with_reducible first|refine FBit.hasT rfl (by assumption) ?_|refine FBit.hasF rfl (by assumption) ?_|refine FBit.shrN rfl (by omega) ?_|refine FBit.half rfl ?_|refine FBit.shl1 rfl (by omega) ?_|refine Fits.inU (by omega) ?_|refine FBit.shrNI rfl (by omega) ?_|refine FBit.shrIN rfl (by omega) (by omega) ?_|refine FBit.shrI rfl (by omega) (by omega) ?_|refine FBit.shl1I rfl (by omega) ?_)|(with_reducible refine FBit.has rfl (fun hq=>?_) (fun hq=>?_))|(with_reducible first|refine FBit.and1 rfl ?_|refine FBit.andN rfl (by omega) (by omega) ?_|refine FBit.orN rfl (by omega) (by omega) ?_|refine FBit.andNotN rfl (by omega) (by omega) ?_)|(with_reducible refine wG ?_)|(refine FCall.pure (cF) ⟨Ln.sameB _ rfl,True.intro⟩ rfl ?_)|(refine FCall.pure (cW) ⟨Ln.sameB _ rfl,Ln.sameB _ rfl,True.intro⟩ rfl ?_)|(refine FCall.pure manned_ok True.intro rfl ?_)|(with_reducible refine wP ?_)))
  all_goals (try conv=>whnf)
  all_goals first|((refine ⟨⟨_,[],[],Cut.nil _,Ln.sameB _ rfl,?_,rfl⟩⟩);rfl)|exact absurd hq (by first|decide|(simp;done)|fail)|(exfalso;omega)
 rw [hcw] at cW
 obtain ⟨hk,hiw⟩:p.ok = true ∧ isWatch p w = true:=by
  unfold checkW at hcw
  cases h1:p.ok <;> cases h2:isWatch p w <;> simp_all
 have h:=pool_d hk
 have k:=watch_d hiw
 have hlen:=k.len
 have s6:=h.s6
 have n8:=h.n8
 have t5:=h.t5
 have hp8:=pow8 h.n8
 have cI:=isSlot_ok f p sl (by omega)
 by_cases hsl:0 ≤ sl ∧ sl ≤ p.needs.length - 1
 rotate_left
 ·rw [show inB sl 0 (p.needs.length - 1) = false from decide_eq_false hsl] at cI
  clear hsl
  (repeat' ((try conv=>whnf);first|(with_reducible first|refine wT ?_|refine wF ?_|(refine wI (fun hq=>?_) (fun hq=>?_) <;> try simp only [zA,zE,zD,zJ,zB,zI,wK,wL] at hq)|refine wA ?_|refine wB ?_|refine wC ?_|refine wD ?_|refine wE ?_)|((with_reducible refine wN ?_ ?_);focus exact needA)|(with_reducible first|refine FBit.hasT rfl (by assumption) ?_|refine FBit.hasF rfl (by assumption) ?_|refine FBit.shrN rfl (by omega) ?_|refine FBit.half rfl ?_|refine FBit.shl1 rfl (by omega) ?_|refine Fits.inU (by omega) ?_|refine FBit.shrNI rfl (by omega) ?_|refine FBit.shrIN rfl (by omega) (by omega) ?_|refine FBit.shrI rfl (by omega) (by omega) ?_|refine FBit.shl1I rfl (by omega) ?_)|(with_reducible refine FBit.has rfl (fun hq=>?_) (fun hq=>?_))|(with_reducible first|refine FBit.and1 rfl ?_|refine FBit.andN rfl (by omega) (by omega) ?_|refine FBit.orN rfl (by omega) (by omega) ?_|refine FBit.andNotN rfl (by omega) (by omega) ?_)|(with_reducible refine wG ?_)|(refine FCall.pure (cF) ⟨Ln.sameB _ rfl,True.intro⟩ rfl ?_)|(refine FCall.pure (cW) ⟨Ln.sameB _ rfl,Ln.sameB _ rfl,True.intro⟩ rfl ?_)|(refine FCall.pure (cI) ⟨Ln.sameB _ rfl,Ln.sameB _ rfl,True.intro⟩ rfl ?_)|(refine FCall.pure manned_ok True.intro rfl ?_)|(with_reducible refine wP ?_)))
  all_goals (try conv=>whnf)
  all_goals first|((refine ⟨⟨_,[],[],Cut.nil _,Ln.sameB _ rfl,?_,rfl⟩⟩);rfl)|exact absurd hq (by first|decide|(simp;done)|fail)|(exfalso;omega)
 rw [show inB sl 0 (p.needs.length - 1) = true from decide_eq_true hsl] at cI
 obtain ⟨s,rfl⟩:∃ s:Nat,sl = s:=⟨sl.toNat,by omega⟩
 obtain ⟨e1,e2,-⟩:=k.el s (by omega)
 obtain ⟨m,hm⟩:∃ m:Nat,w.getD s 0 = m:=⟨(w.getD s 0).toNat,by omega⟩
 rw [hm,Int.toNat_natCast] at e2
 by_cases hi0:0 ≤ il
 rotate_left
 ·clear e1 e2
  (repeat' ((try conv=>whnf);first|(with_reducible first|refine wT ?_|refine wF ?_|(refine wI (fun hq=>?_) (fun hq=>?_) <;> try simp only [zA,zE,zD,zJ,zB,zI,wK,wL] at hq)|refine wA ?_|refine wB ?_|refine wC ?_|refine wD ?_|refine wE ?_)|((with_reducible refine wN ?_ ?_);focus exact needA)|(with_reducible first|refine FBit.hasT rfl (by assumption) ?_|refine FBit.hasF rfl (by assumption) ?_|refine FBit.shrN rfl (by omega) ?_|refine FBit.half rfl ?_|refine FBit.shl1 rfl (by omega) ?_|refine Fits.inU (by omega) ?_|refine FBit.shrNI rfl (by omega) ?_|refine FBit.shrIN rfl (by omega) (by omega) ?_|refine FBit.shrI rfl (by omega) (by omega) ?_|refine FBit.shl1I rfl (by omega) ?_)|(with_reducible refine FBit.has rfl (fun hq=>?_) (fun hq=>?_))|(with_reducible first|refine FBit.and1 rfl ?_|refine FBit.andN rfl (by omega) (by omega) ?_|refine FBit.orN rfl (by omega) (by omega) ?_|refine FBit.andNotN rfl (by omega) (by omega) ?_)|(with_reducible refine wG ?_)|(refine FCall.pure (cF) ⟨Ln.sameB _ rfl,True.intro⟩ rfl ?_)|(refine FCall.pure (cW) ⟨Ln.sameB _ rfl,Ln.sameB _ rfl,True.intro⟩ rfl ?_)|(refine FCall.pure (cI) ⟨Ln.sameB _ rfl,Ln.sameB _ rfl,True.intro⟩ rfl ?_)|(refine FCall.pure manned_ok True.intro rfl ?_)|(with_reducible refine wP ?_)))
  all_goals (try conv=>whnf)
  all_goals first|((refine ⟨⟨_,[],[],Cut.nil _,Ln.sameB _ rfl,?_,rfl⟩⟩);rfl)|exact absurd hq (by first|decide|(simp;done)|fail)|(exfalso;omega)
 obtain ⟨a,rfl⟩:∃ a:Nat,il = a:=⟨il.toNat,by omega⟩
 by_cases ha:sdiff a m = 0
 rotate_left
 ·clear e1
  (repeat' ((try conv=>whnf);first|(with_reducible first|refine wT ?_|refine wF ?_|(refine wI (fun hq=>?_) (fun hq=>?_) <;> try simp only [zA,zE,zD,zJ,zB,zI,wK,wL] at hq)|refine wA ?_|refine wB ?_|refine wC ?_|refine wD ?_|refine wE ?_)|((with_reducible refine wN ?_ ?_);focus exact needA)|(with_reducible first|refine FBit.hasT rfl (by assumption) ?_|refine FBit.hasF rfl (by assumption) ?_|refine FBit.shrN rfl (by omega) ?_|refine FBit.half rfl ?_|refine FBit.shl1 rfl (by omega) ?_|refine Fits.inU (by omega) ?_|refine FBit.shrNI rfl (by omega) ?_|refine FBit.shrIN rfl (by omega) (by omega) ?_|refine FBit.shrI rfl (by omega) (by omega) ?_|refine FBit.shl1I rfl (by omega) ?_)|(with_reducible refine FBit.has rfl (fun hq=>?_) (fun hq=>?_))|(with_reducible first|refine FBit.and1 rfl ?_|refine FBit.andN rfl (by omega) (by omega) ?_|refine FBit.orN rfl (by omega) (by omega) ?_|refine FBit.andNotN rfl (by omega) (by omega) ?_)|(with_reducible refine wG ?_)|(refine FCall.pure (cF) ⟨Ln.sameB _ rfl,True.intro⟩ rfl ?_)|(refine FCall.pure (cW) ⟨Ln.sameB _ rfl,Ln.sameB _ rfl,True.intro⟩ rfl ?_)|(refine FCall.pure (cI) ⟨Ln.sameB _ rfl,Ln.sameB _ rfl,True.intro⟩ rfl ?_)|(refine FBit.andNotI rfl (a:=m) (b:=a) hm rfl (by omega) (by omega) ?_)|(refine FBit.andNotI rfl (a:=a) (b:=m) rfl hm (by omega) (by omega) ?_)|(refine FCall.pure manned_ok True.intro rfl ?_)|(with_reducible refine wP ?_)))
  all_goals (try conv=>whnf)
  all_goals first|((refine ⟨⟨_,[],[],Cut.nil _,Ln.sameB _ rfl,?_,rfl⟩⟩);rfl)|exact absurd hq (by first|decide|(simp;done)|fail)|(exfalso;omega)
 have ha2:a < 2 ^ p.folk.length:=Nat.lt_of_le_of_lt (le_of_bits (sdiff_z.1 ha)) e2
 have cZ:=size_ok a (by omega)
 by_cases hpa:(pop a:Int) ≤ p.ill
 rotate_left
 ·clear e1
  (repeat' ((try conv=>whnf);first|(with_reducible first|refine wT ?_|refine wF ?_|(refine wI (fun hq=>?_) (fun hq=>?_) <;> try simp only [zA,zE,zD,zJ,zB,zI,wK,wL] at hq)|refine wA ?_|refine wB ?_|refine wC ?_|refine wD ?_|refine wE ?_)|((with_reducible refine wN ?_ ?_);focus exact needA)|(with_reducible first|refine FBit.hasT rfl (by assumption) ?_|refine FBit.hasF rfl (by assumption) ?_|refine FBit.shrN rfl (by omega) ?_|refine FBit.half rfl ?_|refine FBit.shl1 rfl (by omega) ?_|refine Fits.inU (by omega) ?_|refine FBit.shrNI rfl (by omega) ?_|refine FBit.shrIN rfl (by omega) (by omega) ?_|refine FBit.shrI rfl (by omega) (by omega) ?_|refine FBit.shl1I rfl (by omega) ?_)|(with_reducible refine FBit.has rfl (fun hq=>?_) (fun hq=>?_))|(with_reducible first|refine FBit.and1 rfl ?_|refine FBit.andN rfl (by omega) (by omega) ?_|refine FBit.orN rfl (by omega) (by omega) ?_|refine FBit.andNotN rfl (by omega) (by omega) ?_)|(with_reducible refine wG ?_)|(refine FCall.pure (cF) ⟨Ln.sameB _ rfl,True.intro⟩ rfl ?_)|(refine FCall.pure (cW) ⟨Ln.sameB _ rfl,Ln.sameB _ rfl,True.intro⟩ rfl ?_)|(refine FCall.pure (cI) ⟨Ln.sameB _ rfl,Ln.sameB _ rfl,True.intro⟩ rfl ?_)|(refine FCall.pure (cZ) ⟨Ln.sameB _ rfl,True.intro⟩ rfl ?_)|(refine FBit.andNotI rfl (a:=m) (b:=a) hm rfl (by omega) (by omega) ?_)|(refine FBit.andNotI rfl (a:=a) (b:=m) rfl hm (by omega) (by omega) ?_)|(refine FCall.pure manned_ok True.intro rfl ?_)|(with_reducible refine wP ?_)))
  all_goals (try conv=>whnf)
  all_goals first|((refine ⟨⟨_,[],[],Cut.nil _,Ln.sameB _ rfl,?_,rfl⟩⟩);rfl)|exact absurd hq (by first|decide|(simp;done)|fail)|(exfalso;omega)
 by_cases ho6:o.length ≤ 6
 rotate_left
 ·clear e1
  (repeat' ((try conv=>whnf);first|(with_reducible first|refine wT ?_|refine wF ?_|(refine wI (fun hq=>?_) (fun hq=>?_) <;> try simp only [zA,zE,zD,zJ,zB,zI,wK,wL] at hq)|refine wA ?_|refine wB ?_|refine wC ?_|refine wD ?_|refine wE ?_)|((with_reducible refine wN ?_ ?_);focus exact needA)|(with_reducible first|refine FBit.hasT rfl (by assumption) ?_|refine FBit.hasF rfl (by assumption) ?_|refine FBit.shrN rfl (by omega) ?_|refine FBit.half rfl ?_|refine FBit.shl1 rfl (by omega) ?_|refine Fits.inU (by omega) ?_|refine FBit.shrNI rfl (by omega) ?_|refine FBit.shrIN rfl (by omega) (by omega) ?_|refine FBit.shrI rfl (by omega) (by omega) ?_|refine FBit.shl1I rfl (by omega) ?_)|(with_reducible refine FBit.has rfl (fun hq=>?_) (fun hq=>?_))|(with_reducible first|refine FBit.and1 rfl ?_|refine FBit.andN rfl (by omega) (by omega) ?_|refine FBit.orN rfl (by omega) (by omega) ?_|refine FBit.andNotN rfl (by omega) (by omega) ?_)|(with_reducible refine wG ?_)|(refine FCall.pure (cF) ⟨Ln.sameB _ rfl,True.intro⟩ rfl ?_)|(refine FCall.pure (cW) ⟨Ln.sameB _ rfl,Ln.sameB _ rfl,True.intro⟩ rfl ?_)|(refine FCall.pure (cI) ⟨Ln.sameB _ rfl,Ln.sameB _ rfl,True.intro⟩ rfl ?_)|(refine FCall.pure (cZ) ⟨Ln.sameB _ rfl,True.intro⟩ rfl ?_)|(refine FBit.andNotI rfl (a:=m) (b:=a) hm rfl (by omega) (by omega) ?_)|(refine FBit.andNotI rfl (a:=a) (b:=m) rfl hm (by omega) (by omega) ?_)|(refine FCall.pure manned_ok True.intro rfl ?_)|(with_reducible refine wP ?_)))
  all_goals (try conv=>whnf)
  all_goals first|((refine ⟨⟨_,[],[],Cut.nil _,Ln.sameB _ rfl,?_,rfl⟩⟩);rfl)|exact absurd hq (by first|decide|(simp;done)|fail)|(exfalso;omega)
 have cS:=psafe_ok f p z false w hn hw (by omega)
 rw [show safeE p w = (safeT p w,0) by unfold safeE;rw [if_pos hcw]] at cS
 have hrow:=h.row s (by omega)
 have hnT:(p.needs.getD s []).length = p.nT:=hrow.1
 have law:safeT p w = true → (∀ r,r ∈ o → r.urg = false) → (Q.nightT p s (sdiff m a) o).ok = true → (Q.bestW (Q.nightT p s (sdiff m a) o)).u = 0 ∧ ∀ c,c < (Q.nightT p s (sdiff m a) o).C → ((Q.nightT p s (sdiff m a) o).R c).urg = true → ((Q.bestL (Q.nightT p s (sdiff m a) o)).getD c Q.na).t = 0:=fun hs ho hok=>Q.night_law h (by omega) (fun T hT=>by
  have:=rall_get hs (show s < w.length by omega)
  rw [hm,Int.toNat_natCast] at this
  exact stands_iff.1 this a (sdiff_z.1 ha) hpa T hT) ho hok
 have hSn:Q.NearS (Q.nightT p s (sdiff m a) o):=⟨Nat.le_trans (sg_len p (sdiff m a) p.folk.length) (by omega),by
  have:=rg_len (p:=p) (s:=s) p.nT fun t ht=>(hrow.2 t ht).2
  show (Q.rgT p s p.nT ++ o).length ≤ 1000
  rw [List.length_append];omega⟩
 obtain ⟨b,hb⟩:∃ b,safeT p w = b:=⟨_,rfl⟩
 rw [hb] at cS law
 (repeat' ((try conv=>whnf);first|(with_reducible first|refine wT ?_|refine wF ?_|(refine wI (fun hq=>?_) (fun hq=>?_) <;> try simp only [zA,zE,zD,zJ,zB,zI,wK,wL] at hq)|refine wA ?_|refine wB ?_|refine wC ?_|refine wD ?_|refine wE ?_)|((with_reducible refine wN ?_ ?_);focus exact needA)|(with_reducible first|refine FBit.hasT rfl (by assumption) ?_|refine FBit.hasF rfl (by assumption) ?_|refine FBit.shrN rfl (by omega) ?_|refine FBit.half rfl ?_|refine FBit.shl1 rfl (by omega) ?_|refine Fits.inU (by omega) ?_|refine FBit.shrNI rfl (by omega) ?_|refine FBit.shrIN rfl (by omega) (by omega) ?_|refine FBit.shrI rfl (by omega) (by omega) ?_|refine FBit.shl1I rfl (by omega) ?_)|(with_reducible refine FBit.has rfl (fun hq=>?_) (fun hq=>?_))|(with_reducible first|refine FBit.and1 rfl ?_|refine FBit.andN rfl (by omega) (by omega) ?_|refine FBit.orN rfl (by omega) (by omega) ?_|refine FBit.andNotN rfl (by omega) (by omega) ?_)|(with_reducible refine wG ?_)|(refine FCall.pure (cF) ⟨Ln.sameB _ rfl,True.intro⟩ rfl ?_)|(refine FCall.pure (cW) ⟨Ln.sameB _ rfl,Ln.sameB _ rfl,True.intro⟩ rfl ?_)|(refine FCall.pure (cI) ⟨Ln.sameB _ rfl,Ln.sameB _ rfl,True.intro⟩ rfl ?_)|(refine FCall.pure (cZ) ⟨Ln.sameB _ rfl,True.intro⟩ rfl ?_)|(refine FCall.pure (cS) ⟨Ln.sameB _ rfl,Ln.sameB _ rfl,True.intro⟩ rfl ?_)|(refine FBit.andNotI rfl (a:=m) (b:=a) hm rfl (by omega) (by omega) ?_)|(refine FBit.andNotI rfl (a:=a) (b:=m) rfl hm (by omega) (by omega) ?_)|(with_reducible refine wP ?_)))
 all_goals (try conv=>whnf)
 all_goals first|exact absurd hq (by first|decide|(simp;done)|fail)|(exfalso;omega)|skip
 -- the signers
 apply cutG
 ·intro rest
  refine FLoop.of (ACalls.mono _) (X:=Nat × Nat) (fun x=>[(1,aInts z false w),(3,.ptr 0 0),(5,.ptr 1 0),(7,.bool b),(9,.ptr 2 0),(10,AI x.1)]) (fun x=>match x.2 with
   | 0=>[.box 4 (cPool f p),.box 3 (ofL [AI s,AI a,Q.aRngs zo false o]),.box 3 (ofL [AI 4,nilS,nilS])]
   | q + 1=>[.box 4 (cPool f p),.box 3 (ofL [AI s,AI a,Q.aRngs zo false o]),.box 3 (ofL [AI 4,.own 3 (q + 1),nilS]),.row (q + 1) 3 (fun j=>Q.cSgn ((Q.sgT p (sdiff m a) x.1).getD j Q.sg0))]) (fun x=>x.1 ≤ p.folk.length ∧ x.2 = (Q.sgT p (sdiff m a) x.1).length) (fun x=>p.folk.length - x.1) (0,0) ⟨⟨Nat.zero_le _,rfl⟩,[0,1,2],Cut.A,allA⟩ ?_
  rintro ⟨i,q⟩ ⟨hi,hq1⟩
  change i ≤ p.folk.length at hi
  change q = (Q.sgT p (sdiff m a) i).length at hq1
  dsimp only
  have hl1:=sg_len p (sdiff m a) i
  by_cases hlt:i < p.folk.length
  ·cases hbi:(sdiff m a).testBit i
   ·have e:=sg_no (p:=p) hbi
    rcases q with _|q
    ·(repeat' ((try conv=>whnf);first|(with_reducible first|refine wT ?_|refine wF ?_|(refine wI (fun hq=>?_) (fun hq=>?_) <;> try simp only [zA,zE,zD,zJ,zB,zI,wK,wL] at hq)|refine wA ?_|refine wB ?_|refine wC ?_|refine wD ?_|refine wE ?_)|((with_reducible refine wN ?_ ?_);focus exact needA)|(with_reducible first|refine FBit.hasT rfl (by assumption) ?_|refine FBit.hasF rfl (by assumption) ?_|refine FBit.shrN rfl (by omega) ?_|refine FBit.half rfl ?_|refine FBit.shl1 rfl (by omega) ?_|refine Fits.inU (by omega) ?_|refine FBit.shrNI rfl (by omega) ?_|refine FBit.shrIN rfl (by omega) (by omega) ?_|refine FBit.shrI rfl (by omega) (by omega) ?_|refine FBit.shl1I rfl (by omega) ?_)|(with_reducible refine FBit.has rfl (fun hq=>?_) (fun hq=>?_))|(with_reducible first|refine FBit.and1 rfl ?_|refine FBit.andN rfl (by omega) (by omega) ?_|refine FBit.orN rfl (by omega) (by omega) ?_|refine FBit.andNotN rfl (by omega) (by omega) ?_)|(with_reducible refine wG ?_)|(refine FBit.andNotI rfl (a:=m) (b:=a) hm rfl (by omega) (by omega) ?_)|(refine FBit.andNotI rfl (a:=a) (b:=m) rfl hm (by omega) (by omega) ?_)|(with_reducible refine wP ?_)))
     all_goals (try conv=>whnf)
     (exact ⟨⟨(i + 1,0),⟨hlt,by show _ = (Q.sgT p (sdiff m a) (i + 1)).length;rw [e];exact hq1⟩,by show _ < _;omega,[0,1,2],Cut.A,allA⟩⟩)
    ·(repeat' ((try conv=>whnf);first|(with_reducible first|refine wT ?_|refine wF ?_|(refine wI (fun hq=>?_) (fun hq=>?_) <;> try simp only [zA,zE,zD,zJ,zB,zI,wK,wL] at hq)|refine wA ?_|refine wB ?_|refine wC ?_|refine wD ?_|refine wE ?_)|((with_reducible refine wN ?_ ?_);focus exact needA)|(with_reducible first|refine FBit.hasT rfl (by assumption) ?_|refine FBit.hasF rfl (by assumption) ?_|refine FBit.shrN rfl (by omega) ?_|refine FBit.half rfl ?_|refine FBit.shl1 rfl (by omega) ?_|refine Fits.inU (by omega) ?_|refine FBit.shrNI rfl (by omega) ?_|refine FBit.shrIN rfl (by omega) (by omega) ?_|refine FBit.shrI rfl (by omega) (by omega) ?_|refine FBit.shl1I rfl (by omega) ?_)|(with_reducible refine FBit.has rfl (fun hq=>?_) (fun hq=>?_))|(with_reducible first|refine FBit.and1 rfl ?_|refine FBit.andN rfl (by omega) (by omega) ?_|refine FBit.orN rfl (by omega) (by omega) ?_|refine FBit.andNotN rfl (by omega) (by omega) ?_)|(with_reducible refine wG ?_)|(refine FBit.andNotI rfl (a:=m) (b:=a) hm rfl (by omega) (by omega) ?_)|(refine FBit.andNotI rfl (a:=a) (b:=m) rfl hm (by omega) (by omega) ?_)|(with_reducible refine wP ?_)))
     all_goals (try conv=>whnf)
     (exact ⟨⟨(i + 1,q + 1),⟨hlt,by show _ = (Q.sgT p (sdiff m a) (i + 1)).length;rw [e];exact hq1⟩,by show _ < _;omega,[0,1,2,3],(by (refine wO rfl rfl rfl ?_;repeat (first|exact wX|(refine wV rfl (by first|exact LnB.rowS|exact LnB.rowE (Nat.le_refl _) (fun k hk o ho=>by show Q.cSgn _ _ = Q.cSgn _ _;rw [e])|exact LnB.A) ?_)|(refine CutL.gone (Nat.lt_of_lt_of_le (Nat.lt_succ_self _) (Nat.le_of_ble_eq_true rfl)) ?_)))),allA⟩⟩)
   ·have e:=sg_yes (p:=p) hbi
    have e3:(Q.sgT p (sdiff m a) (i + 1)).length = q + 1:=by rw [e,List.length_append,← hq1];rfl
    rcases q with _|q
    ·(repeat' ((try conv=>whnf);first|(with_reducible first|refine wT ?_|refine wF ?_|(refine wI (fun hq=>?_) (fun hq=>?_) <;> try simp only [zA,zE,zD,zJ,zB,zI,wK,wL] at hq)|refine wA ?_|refine wB ?_|refine wC ?_|refine wD ?_|refine wE ?_)|((with_reducible refine wN ?_ ?_);focus exact needA)|(with_reducible first|refine FBit.hasT rfl (by assumption) ?_|refine FBit.hasF rfl (by assumption) ?_|refine FBit.shrN rfl (by omega) ?_|refine FBit.half rfl ?_|refine FBit.shl1 rfl (by omega) ?_|refine Fits.inU (by omega) ?_|refine FBit.shrNI rfl (by omega) ?_|refine FBit.shrIN rfl (by omega) (by omega) ?_|refine FBit.shrI rfl (by omega) (by omega) ?_|refine FBit.shl1I rfl (by omega) ?_)|(with_reducible refine FBit.has rfl (fun hq=>?_) (fun hq=>?_))|(with_reducible first|refine FBit.and1 rfl ?_|refine FBit.andN rfl (by omega) (by omega) ?_|refine FBit.orN rfl (by omega) (by omega) ?_|refine FBit.andNotN rfl (by omega) (by omega) ?_)|(with_reducible refine wG ?_)|(refine FBit.andNotI rfl (a:=m) (b:=a) hm rfl (by omega) (by omega) ?_)|(refine FBit.andNotI rfl (a:=a) (b:=m) rfl hm (by omega) (by omega) ?_)|(with_reducible refine wP ?_)))
     all_goals (try conv=>whnf)
     (exact ⟨⟨(i + 1,0 + 1),⟨hlt,e3.symm⟩,by show _ < _;omega,[0,1,2,3],(by (refine wO rfl rfl rfl ?_;repeat (first|exact wX|(refine wV rfl (by first|exact LnB.rowS|exact LnB.app (fun k hk=>absurd hk (Nat.not_lt_zero k)) (fun o ho=>by show Q.cSgn ((Q.sgT p (sdiff m a) (i + 1)).getD _ Q.sg0) _ = _;rw [e,cS_n hq1];exact elem3 (x:=Q.cSgn _) rfl rfl rfl o ho)|exact LnB.A) ?_)|(refine CutL.gone (Nat.lt_of_lt_of_le (Nat.lt_succ_self _) (Nat.le_of_ble_eq_true rfl)) ?_)))),allA⟩⟩)
    ·(repeat' ((try conv=>whnf);first|(with_reducible first|refine wT ?_|refine wF ?_|(refine wI (fun hq=>?_) (fun hq=>?_) <;> try simp only [zA,zE,zD,zJ,zB,zI,wK,wL] at hq)|refine wA ?_|refine wB ?_|refine wC ?_|refine wD ?_|refine wE ?_)|((with_reducible refine wN ?_ ?_);focus exact needA)|(with_reducible first|refine FBit.hasT rfl (by assumption) ?_|refine FBit.hasF rfl (by assumption) ?_|refine FBit.shrN rfl (by omega) ?_|refine FBit.half rfl ?_|refine FBit.shl1 rfl (by omega) ?_|refine Fits.inU (by omega) ?_|refine FBit.shrNI rfl (by omega) ?_|refine FBit.shrIN rfl (by omega) (by omega) ?_|refine FBit.shrI rfl (by omega) (by omega) ?_|refine FBit.shl1I rfl (by omega) ?_)|(with_reducible refine FBit.has rfl (fun hq=>?_) (fun hq=>?_))|(with_reducible first|refine FBit.and1 rfl ?_|refine FBit.andN rfl (by omega) (by omega) ?_|refine FBit.orN rfl (by omega) (by omega) ?_|refine FBit.andNotN rfl (by omega) (by omega) ?_)|(with_reducible refine wG ?_)|(refine FBit.andNotI rfl (a:=m) (b:=a) hm rfl (by omega) (by omega) ?_)|(refine FBit.andNotI rfl (a:=a) (b:=m) rfl hm (by omega) (by omega) ?_)|(with_reducible refine wP ?_)))
     all_goals (try conv=>whnf)
     (exact ⟨⟨(i + 1,q + 1 + 1),⟨hlt,e3.symm⟩,by show _ < _;omega,[0,1,2,4],(by (refine wO rfl rfl rfl ?_;repeat (first|exact wX|(refine wV rfl (by first|exact LnB.rowS|exact LnB.app (fun k hk o ho=>by show Q.cSgn ((Q.sgT p (sdiff m a) (i + 1)).getD _ Q.sg0) _ = Q.cSgn _ _;rw [e,cS_l (by omega)]) (fun o ho=>by show Q.cSgn ((Q.sgT p (sdiff m a) (i + 1)).getD _ Q.sg0) _ = _;rw [e,cS_n hq1];exact elem3 (x:=Q.cSgn _) rfl rfl rfl o ho)|exact LnB.A) ?_)|(refine CutL.gone (Nat.lt_of_lt_of_le (Nat.lt_succ_self _) (Nat.le_of_ble_eq_true rfl)) ?_)))),allA⟩⟩)
  ·obtain rfl:i = p.folk.length:=by omega
   rcases q with _|q
   ·(repeat' ((try conv=>whnf);first|(with_reducible first|refine wT ?_|refine wF ?_|(refine wI (fun hq=>?_) (fun hq=>?_) <;> try simp only [zA,zE,zD,zJ,zB,zI,wK,wL] at hq)|refine wA ?_|refine wB ?_|refine wC ?_|refine wD ?_|refine wE ?_)|((with_reducible refine wN ?_ ?_);focus exact needA)|(with_reducible first|refine FBit.hasT rfl (by assumption) ?_|refine FBit.hasF rfl (by assumption) ?_|refine FBit.shrN rfl (by omega) ?_|refine FBit.half rfl ?_|refine FBit.shl1 rfl (by omega) ?_|refine Fits.inU (by omega) ?_|refine FBit.shrNI rfl (by omega) ?_|refine FBit.shrIN rfl (by omega) (by omega) ?_|refine FBit.shrI rfl (by omega) (by omega) ?_|refine FBit.shl1I rfl (by omega) ?_)|(with_reducible refine FBit.has rfl (fun hq=>?_) (fun hq=>?_))|(with_reducible first|refine FBit.and1 rfl ?_|refine FBit.andN rfl (by omega) (by omega) ?_|refine FBit.orN rfl (by omega) (by omega) ?_|refine FBit.andNotN rfl (by omega) (by omega) ?_)|(with_reducible refine wG ?_)|(with_reducible refine wP ?_)))
    all_goals (try conv=>whnf)
    exact FWk.of [(3,.ptr 0 0),(5,.ptr 1 0),(7,.bool b),(9,.ptr 2 0)] [.box 4 (cPool f p),.box 3 (ofL [AI s,AI a,Q.aRngs zo false o]),.box 3 (ofL [AI 4,Q.aSgns (decide ((Q.sgT p (sdiff m a) p.folk.length).length = 0)) (decide ((Q.sgT p (sdiff m a) p.folk.length).length = 0)) (Q.sgT p (sdiff m a) p.folk.length),nilS])] [0,1,2] (wO rfl rfl rfl (wV rfl (LnB.boxN ⟨⟨⟨⟨True.intro,Ln.sameB _ rfl⟩,Ln.sameB _ rfl⟩,Ln.sameB _ rfl⟩,Ln.sameB _ rfl⟩) (wV rfl (LnB.boxN ⟨⟨⟨True.intro,Ln.sameB _ rfl⟩,Ln.sameB _ rfl⟩,Ln.sameB _ rfl⟩) (wV rfl (LnB.boxN ⟨⟨⟨True.intro,Ln.sameB _ rfl⟩,Ln.nilZ hq1.symm⟩,Ln.sameB _ rfl⟩) wX)))) ⟨Ln.ptr _ _ _ rfl,Ln.ptr _ _ _ rfl,Ln.sameB _ rfl,Ln.ptr _ _ _ rfl,True.intro⟩ rest.h
   ·(repeat' ((try conv=>whnf);first|(with_reducible first|refine wT ?_|refine wF ?_|(refine wI (fun hq=>?_) (fun hq=>?_) <;> try simp only [zA,zE,zD,zJ,zB,zI,wK,wL] at hq)|refine wA ?_|refine wB ?_|refine wC ?_|refine wD ?_|refine wE ?_)|((with_reducible refine wN ?_ ?_);focus exact needA)|(with_reducible first|refine FBit.hasT rfl (by assumption) ?_|refine FBit.hasF rfl (by assumption) ?_|refine FBit.shrN rfl (by omega) ?_|refine FBit.half rfl ?_|refine FBit.shl1 rfl (by omega) ?_|refine Fits.inU (by omega) ?_|refine FBit.shrNI rfl (by omega) ?_|refine FBit.shrIN rfl (by omega) (by omega) ?_|refine FBit.shrI rfl (by omega) (by omega) ?_|refine FBit.shl1I rfl (by omega) ?_)|(with_reducible refine FBit.has rfl (fun hq=>?_) (fun hq=>?_))|(with_reducible first|refine FBit.and1 rfl ?_|refine FBit.andN rfl (by omega) (by omega) ?_|refine FBit.orN rfl (by omega) (by omega) ?_|refine FBit.andNotN rfl (by omega) (by omega) ?_)|(with_reducible refine wG ?_)|(with_reducible refine wP ?_)))
    all_goals (try conv=>whnf)
    exact FWk.of [(3,.ptr 0 0),(5,.ptr 1 0),(7,.bool b),(9,.ptr 2 0)] [.box 4 (cPool f p),.box 3 (ofL [AI s,AI a,Q.aRngs zo false o]),.box 3 (ofL [AI 4,Q.aSgns (decide ((Q.sgT p (sdiff m a) p.folk.length).length = 0)) (decide ((Q.sgT p (sdiff m a) p.folk.length).length = 0)) (Q.sgT p (sdiff m a) p.folk.length),nilS])] [0,1,2] (wO rfl rfl rfl (wV rfl (LnB.boxN ⟨⟨⟨⟨True.intro,Ln.sameB _ rfl⟩,Ln.sameB _ rfl⟩,Ln.sameB _ rfl⟩,Ln.sameB _ rfl⟩) (wV rfl (LnB.boxN ⟨⟨⟨True.intro,Ln.sameB _ rfl⟩,Ln.sameB _ rfl⟩,Ln.sameB _ rfl⟩) (wV rfl (LnB.boxN ⟨⟨⟨True.intro,Ln.sameB _ rfl⟩,Ln.pubZ (by omega) (goneB rfl) rfl (Nat.le_refl _) hq1 (fun k hk o ho=>rfl)⟩,Ln.sameB _ rfl⟩) wX)))) ⟨Ln.ptr _ _ _ rfl,Ln.ptr _ _ _ rfl,Ln.sameB _ rfl,Ln.ptr _ _ _ rfl,True.intro⟩ rest.h
 (try conv=>whnf)
 clear cF cW cI cZ cS
 -- the emergencies
 have cT:=tongues_ok f p (by omega)
 have hl8:=rg_len (p:=p) (s:=s)
 apply cutG
 ·intro rest
  (repeat' ((try conv=>whnf);first|(with_reducible first|refine wT ?_|refine wF ?_|(refine wI (fun hq=>?_) (fun hq=>?_) <;> try simp only [zA,zE,zD,zJ,zB,zI,wK,wL] at hq)|refine wA ?_|refine wB ?_|refine wC ?_|refine wD ?_|refine wE ?_)|((with_reducible refine wN ?_ ?_);focus exact needA)|(with_reducible first|refine FBit.hasT rfl (by assumption) ?_|refine FBit.hasF rfl (by assumption) ?_|refine FBit.shrN rfl (by omega) ?_|refine FBit.half rfl ?_|refine FBit.shl1 rfl (by omega) ?_|refine Fits.inU (by omega) ?_|refine FBit.shrNI rfl (by omega) ?_|refine FBit.shrIN rfl (by omega) (by omega) ?_|refine FBit.shrI rfl (by omega) (by omega) ?_|refine FBit.shl1I rfl (by omega) ?_)|(with_reducible refine FBit.has rfl (fun hq=>?_) (fun hq=>?_))|(with_reducible first|refine FBit.and1 rfl ?_|refine FBit.andN rfl (by omega) (by omega) ?_|refine FBit.orN rfl (by omega) (by omega) ?_|refine FBit.andNotN rfl (by omega) (by omega) ?_)|(with_reducible refine wG ?_)|(with_reducible refine wP ?_)))
  all_goals (try conv=>whnf)
  refine FLoop.of (ACalls.mono _) (X:=Nat × Nat) (fun x=>[(3,.ptr 0 0),(5,.ptr 1 0),(7,.bool b),(9,.ptr 2 0),(11,AI x.1)]) (fun x=>match x.2 with
   | 0=>[.box 4 (cPool f p),.box 3 (ofL [AI s,AI a,Q.aRngs zo false o]),.box 3 (ofL [AI 4,Q.aSgns (decide ((Q.sgT p (sdiff m a) p.folk.length).length = 0)) (decide ((Q.sgT p (sdiff m a) p.folk.length).length = 0)) (Q.sgT p (sdiff m a) p.folk.length),nilS])]
   | q + 1=>[.box 4 (cPool f p),.box 3 (ofL [AI s,AI a,Q.aRngs zo false o]),.box 3 (ofL [AI 4,Q.aSgns (decide ((Q.sgT p (sdiff m a) p.folk.length).length = 0)) (decide ((Q.sgT p (sdiff m a) p.folk.length).length = 0)) (Q.sgT p (sdiff m a) p.folk.length),.own 3 (q + 1)]),.row (q + 1) 3 (fun j=>Q.cRng ((Q.rgT p s x.1).getD j Q.rg0))]) (fun x=>x.1 ≤ p.nT ∧ x.2 = (Q.rgT p s x.1).length) (fun x=>p.nT - x.1) (0,0) ⟨⟨Nat.zero_le _,rfl⟩,[0,1,2],Cut.A,allA⟩ ?_
  rintro ⟨t,q⟩ ⟨hi,hq1⟩
  change t ≤ p.nT at hi
  change q = (Q.rgT p s t).length at hq1
  dsimp only
  have hl1:=hl8 t fun u hu=>(hrow.2 u (by omega)).2
  by_cases hlt:t < p.nT
  ·have hne:=hrow.2 t hlt
   change 0 ≤ (p.needs.getD s []).getD t 0 ∧ (p.needs.getD s []).getD t 0 ≤ 8 at hne
   rcases q with _|q
   ·(repeat' ((try conv=>whnf);first|(with_reducible first|refine wT ?_|refine wF ?_|(refine wI (fun hq=>?_) (fun hq=>?_) <;> try simp only [zA,zE,zD,zJ,zB,zI,wK,wL] at hq)|refine wA ?_|refine wB ?_|refine wC ?_|refine wD ?_|refine wE ?_)|((with_reducible refine wN ?_ ?_);focus exact needA)|(with_reducible first|refine FBit.hasT rfl (by assumption) ?_|refine FBit.hasF rfl (by assumption) ?_|refine FBit.shrN rfl (by omega) ?_|refine FBit.half rfl ?_|refine FBit.shl1 rfl (by omega) ?_|refine Fits.inU (by omega) ?_|refine FBit.shrNI rfl (by omega) ?_|refine FBit.shrIN rfl (by omega) (by omega) ?_|refine FBit.shrI rfl (by omega) (by omega) ?_|refine FBit.shl1I rfl (by omega) ?_)|(with_reducible refine FBit.has rfl (fun hq=>?_) (fun hq=>?_))|(with_reducible first|refine FBit.and1 rfl ?_|refine FBit.andN rfl (by omega) (by omega) ?_|refine FBit.orN rfl (by omega) (by omega) ?_|refine FBit.andNotN rfl (by omega) (by omega) ?_)|(with_reducible refine wG ?_)|(refine FCall.pure (cT) ⟨Ln.sameB _ rfl,True.intro⟩ rfl ?_)|(with_reducible refine wP ?_)))
    all_goals (try conv=>whnf)
    refine FLoop.of (ACalls.mono _) (X:=Nat × Nat) (fun x=>[(3,.ptr 0 0),(5,.ptr 1 0),(7,.bool b),(9,.ptr 2 0),(11,AI t),(12,AI x.1)]) (fun x=>match x.2 with
     | 0=>[.box 4 (cPool f p),.box 3 (ofL [AI s,AI a,Q.aRngs zo false o]),.box 3 (ofL [AI 4,Q.aSgns (decide ((Q.sgT p (sdiff m a) p.folk.length).length = 0)) (decide ((Q.sgT p (sdiff m a) p.folk.length).length = 0)) (Q.sgT p (sdiff m a) p.folk.length),nilS])]
     | y + 1=>[.box 4 (cPool f p),.box 3 (ofL [AI s,AI a,Q.aRngs zo false o]),.box 3 (ofL [AI 4,Q.aSgns (decide ((Q.sgT p (sdiff m a) p.folk.length).length = 0)) (decide ((Q.sgT p (sdiff m a) p.folk.length).length = 0)) (Q.sgT p (sdiff m a) p.folk.length),.own 3 (y + 1)]),.row (y + 1) 3 (fun j=>Q.cRng ((rgI p s t x.1).getD j Q.rg0))]) (fun x=>(x.1:Int) ≤ (p.needs.getD s []).getD t 0 ∧ x.2 = (rgI p s t x.1).length) (fun x=>((p.needs.getD s []).getD t 0).toNat - x.1) (0,0) ?start ?_
    case start=>exact ⟨⟨hne.1,by show _ = (rgI p s t 0).length;rw [rgI_0];exact hq1⟩,[0,1,2],Cut.A,allA⟩
    rintro ⟨i,y⟩ ⟨hi2,hy⟩
    change (i:Int) ≤ (p.needs.getD s []).getD t 0 at hi2
    change y = (rgI p s t i).length at hy
    dsimp only
    have hy2:=rgI_len (p:=p) (s:=s) (t:=t) (i:=i)
    have e:=rgI_s p s t i
    have e3:(rgI p s t (i + 1)).length = y + 1:=by rw [e,List.length_append,← hy];rfl
    by_cases hlt2:(i:Int) < (p.needs.getD s []).getD t 0
    ·rcases y with _|y
     ·(repeat' ((try conv=>whnf);first|(with_reducible first|refine wT ?_|refine wF ?_|(refine wI (fun hq=>?_) (fun hq=>?_) <;> try simp only [zA,zE,zD,zJ,zB,zI,wK,wL] at hq)|refine wA ?_|refine wB ?_|refine wC ?_|refine wD ?_|refine wE ?_)|((with_reducible refine wN ?_ ?_);focus exact needA)|(with_reducible first|refine FBit.hasT rfl (by assumption) ?_|refine FBit.hasF rfl (by assumption) ?_|refine FBit.shrN rfl (by omega) ?_|refine FBit.half rfl ?_|refine FBit.shl1 rfl (by omega) ?_|refine Fits.inU (by omega) ?_|refine FBit.shrNI rfl (by omega) ?_|refine FBit.shrIN rfl (by omega) (by omega) ?_|refine FBit.shrI rfl (by omega) (by omega) ?_|refine FBit.shl1I rfl (by omega) ?_)|(with_reducible refine FBit.has rfl (fun hq=>?_) (fun hq=>?_))|(with_reducible first|refine FBit.and1 rfl ?_|refine FBit.andN rfl (by omega) (by omega) ?_|refine FBit.orN rfl (by omega) (by omega) ?_|refine FBit.andNotN rfl (by omega) (by omega) ?_)|(with_reducible refine wG ?_)|(with_reducible refine wP ?_)))
      all_goals (try conv=>whnf)
      (exact ⟨⟨(i + 1,0 + 1),⟨by show ((i + 1:Nat):Int) ≤ _;omega,e3.symm⟩,by show _ < _;omega,[0,1,2,3],(by (refine wO rfl rfl rfl ?_;repeat (first|exact wX|(refine wV rfl (by first|exact LnB.rowS|exact LnB.app (fun k hk=>absurd hk (Nat.not_lt_zero k)) (fun o ho=>by show Q.cRng ((rgI p s t (i + 1)).getD _ Q.rg0) _ = _;rw [e,cR_n hy];exact elem3 (x:=Q.cRng _) rfl rfl rfl o ho)|exact LnB.A) ?_)|(refine CutL.gone (Nat.lt_of_lt_of_le (Nat.lt_succ_self _) (Nat.le_of_ble_eq_true rfl)) ?_)))),allA⟩⟩)
     ·(repeat' ((try conv=>whnf);first|(with_reducible first|refine wT ?_|refine wF ?_|(refine wI (fun hq=>?_) (fun hq=>?_) <;> try simp only [zA,zE,zD,zJ,zB,zI,wK,wL] at hq)|refine wA ?_|refine wB ?_|refine wC ?_|refine wD ?_|refine wE ?_)|((with_reducible refine wN ?_ ?_);focus exact needA)|(with_reducible first|refine FBit.hasT rfl (by assumption) ?_|refine FBit.hasF rfl (by assumption) ?_|refine FBit.shrN rfl (by omega) ?_|refine FBit.half rfl ?_|refine FBit.shl1 rfl (by omega) ?_|refine Fits.inU (by omega) ?_|refine FBit.shrNI rfl (by omega) ?_|refine FBit.shrIN rfl (by omega) (by omega) ?_|refine FBit.shrI rfl (by omega) (by omega) ?_|refine FBit.shl1I rfl (by omega) ?_)|(with_reducible refine FBit.has rfl (fun hq=>?_) (fun hq=>?_))|(with_reducible first|refine FBit.and1 rfl ?_|refine FBit.andN rfl (by omega) (by omega) ?_|refine FBit.orN rfl (by omega) (by omega) ?_|refine FBit.andNotN rfl (by omega) (by omega) ?_)|(with_reducible refine wG ?_)|(with_reducible refine wP ?_)))
      all_goals (try conv=>whnf)
      (exact ⟨⟨(i + 1,y + 1 + 1),⟨by show ((i + 1:Nat):Int) ≤ _;omega,e3.symm⟩,by show _ < _;omega,[0,1,2,4],(by (refine wO rfl rfl rfl ?_;repeat (first|exact wX|(refine wV rfl (by first|exact LnB.rowS|exact LnB.app (fun k hk o ho=>by show Q.cRng ((rgI p s t (i + 1)).getD _ Q.rg0) _ = Q.cRng _ _;rw [e,cR_l (by omega)]) (fun o ho=>by show Q.cRng ((rgI p s t (i + 1)).getD _ Q.rg0) _ = _;rw [e,cR_n hy];exact elem3 (x:=Q.cRng _) rfl rfl rfl o ho)|exact LnB.A) ?_)|(refine CutL.gone (Nat.lt_of_lt_of_le (Nat.lt_succ_self _) (Nat.le_of_ble_eq_true rfl)) ?_)))),allA⟩⟩)
    ·have ee:=rgI_e (p:=p) (s:=s) (t:=t) (i:=i) (by omega)
     rw [ee] at hy
     rcases y with _|y
     ·(repeat' ((try conv=>whnf);first|(with_reducible first|refine wT ?_|refine wF ?_|(refine wI (fun hq=>?_) (fun hq=>?_) <;> try simp only [zA,zE,zD,zJ,zB,zI,wK,wL] at hq)|refine wA ?_|refine wB ?_|refine wC ?_|refine wD ?_|refine wE ?_)|((with_reducible refine wN ?_ ?_);focus exact needA)|(with_reducible first|refine FBit.hasT rfl (by assumption) ?_|refine FBit.hasF rfl (by assumption) ?_|refine FBit.shrN rfl (by omega) ?_|refine FBit.half rfl ?_|refine FBit.shl1 rfl (by omega) ?_|refine Fits.inU (by omega) ?_|refine FBit.shrNI rfl (by omega) ?_|refine FBit.shrIN rfl (by omega) (by omega) ?_|refine FBit.shrI rfl (by omega) (by omega) ?_|refine FBit.shl1I rfl (by omega) ?_)|(with_reducible refine FBit.has rfl (fun hq=>?_) (fun hq=>?_))|(with_reducible first|refine FBit.and1 rfl ?_|refine FBit.andN rfl (by omega) (by omega) ?_|refine FBit.orN rfl (by omega) (by omega) ?_|refine FBit.andNotN rfl (by omega) (by omega) ?_)|(with_reducible refine wG ?_)|(with_reducible refine wP ?_)))
      all_goals (try conv=>whnf)
      (exact ⟨⟨(t + 1,0),⟨hlt,hy⟩,by show _ < _;omega,[0,1,2],Cut.A,allA⟩⟩)
     ·(repeat' ((try conv=>whnf);first|(with_reducible first|refine wT ?_|refine wF ?_|(refine wI (fun hq=>?_) (fun hq=>?_) <;> try simp only [zA,zE,zD,zJ,zB,zI,wK,wL] at hq)|refine wA ?_|refine wB ?_|refine wC ?_|refine wD ?_|refine wE ?_)|((with_reducible refine wN ?_ ?_);focus exact needA)|(with_reducible first|refine FBit.hasT rfl (by assumption) ?_|refine FBit.hasF rfl (by assumption) ?_|refine FBit.shrN rfl (by omega) ?_|refine FBit.half rfl ?_|refine FBit.shl1 rfl (by omega) ?_|refine Fits.inU (by omega) ?_|refine FBit.shrNI rfl (by omega) ?_|refine FBit.shrIN rfl (by omega) (by omega) ?_|refine FBit.shrI rfl (by omega) (by omega) ?_|refine FBit.shl1I rfl (by omega) ?_)|(with_reducible refine FBit.has rfl (fun hq=>?_) (fun hq=>?_))|(with_reducible first|refine FBit.and1 rfl ?_|refine FBit.andN rfl (by omega) (by omega) ?_|refine FBit.orN rfl (by omega) (by omega) ?_|refine FBit.andNotN rfl (by omega) (by omega) ?_)|(with_reducible refine wG ?_)|(with_reducible refine wP ?_)))
      all_goals (try conv=>whnf)
      (exact ⟨⟨(t + 1,y + 1),⟨hlt,hy⟩,by show _ < _;omega,[0,1,2,3],(by (refine wO rfl rfl rfl ?_;repeat (first|exact wX|(refine wV rfl (by first|exact LnB.rowS|exact LnB.rowE (Nat.le_refl _) (fun k hk o ho=>by show Q.cRng _ _ = Q.cRng _ _;rw [ee])|exact LnB.A) ?_)|(refine CutL.gone (Nat.lt_of_lt_of_le (Nat.lt_succ_self _) (Nat.le_of_ble_eq_true rfl)) ?_)))),allA⟩⟩)
   ·(repeat' ((try conv=>whnf);first|(with_reducible first|refine wT ?_|refine wF ?_|(refine wI (fun hq=>?_) (fun hq=>?_) <;> try simp only [zA,zE,zD,zJ,zB,zI,wK,wL] at hq)|refine wA ?_|refine wB ?_|refine wC ?_|refine wD ?_|refine wE ?_)|((with_reducible refine wN ?_ ?_);focus exact needA)|(with_reducible first|refine FBit.hasT rfl (by assumption) ?_|refine FBit.hasF rfl (by assumption) ?_|refine FBit.shrN rfl (by omega) ?_|refine FBit.half rfl ?_|refine FBit.shl1 rfl (by omega) ?_|refine Fits.inU (by omega) ?_|refine FBit.shrNI rfl (by omega) ?_|refine FBit.shrIN rfl (by omega) (by omega) ?_|refine FBit.shrI rfl (by omega) (by omega) ?_|refine FBit.shl1I rfl (by omega) ?_)|(with_reducible refine FBit.has rfl (fun hq=>?_) (fun hq=>?_))|(with_reducible first|refine FBit.and1 rfl ?_|refine FBit.andN rfl (by omega) (by omega) ?_|refine FBit.orN rfl (by omega) (by omega) ?_|refine FBit.andNotN rfl (by omega) (by omega) ?_)|(with_reducible refine wG ?_)|(refine FCall.pure (cT) ⟨Ln.sameB _ rfl,True.intro⟩ rfl ?_)|(with_reducible refine wP ?_)))
    all_goals (try conv=>whnf)
    refine FLoop.of (ACalls.mono _) (X:=Nat × Nat) (fun x=>[(3,.ptr 0 0),(5,.ptr 1 0),(7,.bool b),(9,.ptr 2 0),(11,AI t),(12,AI x.1)]) (fun x=>match x.2 with
     | 0=>[.box 4 (cPool f p),.box 3 (ofL [AI s,AI a,Q.aRngs zo false o]),.box 3 (ofL [AI 4,Q.aSgns (decide ((Q.sgT p (sdiff m a) p.folk.length).length = 0)) (decide ((Q.sgT p (sdiff m a) p.folk.length).length = 0)) (Q.sgT p (sdiff m a) p.folk.length),nilS])]
     | y + 1=>[.box 4 (cPool f p),.box 3 (ofL [AI s,AI a,Q.aRngs zo false o]),.box 3 (ofL [AI 4,Q.aSgns (decide ((Q.sgT p (sdiff m a) p.folk.length).length = 0)) (decide ((Q.sgT p (sdiff m a) p.folk.length).length = 0)) (Q.sgT p (sdiff m a) p.folk.length),.own 3 (y + 1)]),.row (y + 1) 3 (fun j=>Q.cRng ((rgI p s t x.1).getD j Q.rg0))]) (fun x=>(x.1:Int) ≤ (p.needs.getD s []).getD t 0 ∧ x.2 = (rgI p s t x.1).length) (fun x=>((p.needs.getD s []).getD t 0).toNat - x.1) (0,q + 1) ?start ?_
    case start=>exact ⟨⟨hne.1,by show _ = (rgI p s t 0).length;rw [rgI_0];exact hq1⟩,[0,1,2,3],(wO rfl rfl rfl (wV rfl (LnB.boxN ⟨⟨⟨⟨True.intro,Ln.sameB _ rfl⟩,Ln.sameB _ rfl⟩,Ln.sameB _ rfl⟩,Ln.sameB _ rfl⟩) (wV rfl (LnB.boxN ⟨⟨⟨True.intro,Ln.sameB _ rfl⟩,Ln.sameB _ rfl⟩,Ln.sameB _ rfl⟩) (wV rfl (LnB.boxN ⟨⟨⟨True.intro,Ln.sameB _ rfl⟩,Ln.sameB _ rfl⟩,Ln.ownE rfl rfl⟩) (wV rfl (LnB.rowE (Nat.le_refl _) (fun k hk o ho=>by show Q.cRng _ _ = Q.cRng _ _;rw [rgI_0])) wX))))),allA⟩
    rintro ⟨i,y⟩ ⟨hi2,hy⟩
    change (i:Int) ≤ (p.needs.getD s []).getD t 0 at hi2
    change y = (rgI p s t i).length at hy
    dsimp only
    have hy2:=rgI_len (p:=p) (s:=s) (t:=t) (i:=i)
    have e:=rgI_s p s t i
    have e3:(rgI p s t (i + 1)).length = y + 1:=by rw [e,List.length_append,← hy];rfl
    by_cases hlt2:(i:Int) < (p.needs.getD s []).getD t 0
    ·rcases y with _|y
     ·(repeat' ((try conv=>whnf);first|(with_reducible first|refine wT ?_|refine wF ?_|(refine wI (fun hq=>?_) (fun hq=>?_) <;> try simp only [zA,zE,zD,zJ,zB,zI,wK,wL] at hq)|refine wA ?_|refine wB ?_|refine wC ?_|refine wD ?_|refine wE ?_)|((with_reducible refine wN ?_ ?_);focus exact needA)|(with_reducible first|refine FBit.hasT rfl (by assumption) ?_|refine FBit.hasF rfl (by assumption) ?_|refine FBit.shrN rfl (by omega) ?_|refine FBit.half rfl ?_|refine FBit.shl1 rfl (by omega) ?_|refine Fits.inU (by omega) ?_|refine FBit.shrNI rfl (by omega) ?_|refine FBit.shrIN rfl (by omega) (by omega) ?_|refine FBit.shrI rfl (by omega) (by omega) ?_|refine FBit.shl1I rfl (by omega) ?_)|(with_reducible refine FBit.has rfl (fun hq=>?_) (fun hq=>?_))|(with_reducible first|refine FBit.and1 rfl ?_|refine FBit.andN rfl (by omega) (by omega) ?_|refine FBit.orN rfl (by omega) (by omega) ?_|refine FBit.andNotN rfl (by omega) (by omega) ?_)|(with_reducible refine wG ?_)|(with_reducible refine wP ?_)))
      all_goals (try conv=>whnf)
      (exact ⟨⟨(i + 1,0 + 1),⟨by show ((i + 1:Nat):Int) ≤ _;omega,e3.symm⟩,by show _ < _;omega,[0,1,2,3],(by (refine wO rfl rfl rfl ?_;repeat (first|exact wX|(refine wV rfl (by first|exact LnB.rowS|exact LnB.app (fun k hk=>absurd hk (Nat.not_lt_zero k)) (fun o ho=>by show Q.cRng ((rgI p s t (i + 1)).getD _ Q.rg0) _ = _;rw [e,cR_n hy];exact elem3 (x:=Q.cRng _) rfl rfl rfl o ho)|exact LnB.A) ?_)|(refine CutL.gone (Nat.lt_of_lt_of_le (Nat.lt_succ_self _) (Nat.le_of_ble_eq_true rfl)) ?_)))),allA⟩⟩)
     ·(repeat' ((try conv=>whnf);first|(with_reducible first|refine wT ?_|refine wF ?_|(refine wI (fun hq=>?_) (fun hq=>?_) <;> try simp only [zA,zE,zD,zJ,zB,zI,wK,wL] at hq)|refine wA ?_|refine wB ?_|refine wC ?_|refine wD ?_|refine wE ?_)|((with_reducible refine wN ?_ ?_);focus exact needA)|(with_reducible first|refine FBit.hasT rfl (by assumption) ?_|refine FBit.hasF rfl (by assumption) ?_|refine FBit.shrN rfl (by omega) ?_|refine FBit.half rfl ?_|refine FBit.shl1 rfl (by omega) ?_|refine Fits.inU (by omega) ?_|refine FBit.shrNI rfl (by omega) ?_|refine FBit.shrIN rfl (by omega) (by omega) ?_|refine FBit.shrI rfl (by omega) (by omega) ?_|refine FBit.shl1I rfl (by omega) ?_)|(with_reducible refine FBit.has rfl (fun hq=>?_) (fun hq=>?_))|(with_reducible first|refine FBit.and1 rfl ?_|refine FBit.andN rfl (by omega) (by omega) ?_|refine FBit.orN rfl (by omega) (by omega) ?_|refine FBit.andNotN rfl (by omega) (by omega) ?_)|(with_reducible refine wG ?_)|(with_reducible refine wP ?_)))
      all_goals (try conv=>whnf)
      (exact ⟨⟨(i + 1,y + 1 + 1),⟨by show ((i + 1:Nat):Int) ≤ _;omega,e3.symm⟩,by show _ < _;omega,[0,1,2,4],(by (refine wO rfl rfl rfl ?_;repeat (first|exact wX|(refine wV rfl (by first|exact LnB.rowS|exact LnB.app (fun k hk o ho=>by show Q.cRng ((rgI p s t (i + 1)).getD _ Q.rg0) _ = Q.cRng _ _;rw [e,cR_l (by omega)]) (fun o ho=>by show Q.cRng ((rgI p s t (i + 1)).getD _ Q.rg0) _ = _;rw [e,cR_n hy];exact elem3 (x:=Q.cRng _) rfl rfl rfl o ho)|exact LnB.A) ?_)|(refine CutL.gone (Nat.lt_of_lt_of_le (Nat.lt_succ_self _) (Nat.le_of_ble_eq_true rfl)) ?_)))),allA⟩⟩)
    ·have ee:=rgI_e (p:=p) (s:=s) (t:=t) (i:=i) (by omega)
     rw [ee] at hy
     rcases y with _|y
     ·(repeat' ((try conv=>whnf);first|(with_reducible first|refine wT ?_|refine wF ?_|(refine wI (fun hq=>?_) (fun hq=>?_) <;> try simp only [zA,zE,zD,zJ,zB,zI,wK,wL] at hq)|refine wA ?_|refine wB ?_|refine wC ?_|refine wD ?_|refine wE ?_)|((with_reducible refine wN ?_ ?_);focus exact needA)|(with_reducible first|refine FBit.hasT rfl (by assumption) ?_|refine FBit.hasF rfl (by assumption) ?_|refine FBit.shrN rfl (by omega) ?_|refine FBit.half rfl ?_|refine FBit.shl1 rfl (by omega) ?_|refine Fits.inU (by omega) ?_|refine FBit.shrNI rfl (by omega) ?_|refine FBit.shrIN rfl (by omega) (by omega) ?_|refine FBit.shrI rfl (by omega) (by omega) ?_|refine FBit.shl1I rfl (by omega) ?_)|(with_reducible refine FBit.has rfl (fun hq=>?_) (fun hq=>?_))|(with_reducible first|refine FBit.and1 rfl ?_|refine FBit.andN rfl (by omega) (by omega) ?_|refine FBit.orN rfl (by omega) (by omega) ?_|refine FBit.andNotN rfl (by omega) (by omega) ?_)|(with_reducible refine wG ?_)|(with_reducible refine wP ?_)))
      all_goals (try conv=>whnf)
      (exact ⟨⟨(t + 1,0),⟨hlt,hy⟩,by show _ < _;omega,[0,1,2],Cut.A,allA⟩⟩)
     ·(repeat' ((try conv=>whnf);first|(with_reducible first|refine wT ?_|refine wF ?_|(refine wI (fun hq=>?_) (fun hq=>?_) <;> try simp only [zA,zE,zD,zJ,zB,zI,wK,wL] at hq)|refine wA ?_|refine wB ?_|refine wC ?_|refine wD ?_|refine wE ?_)|((with_reducible refine wN ?_ ?_);focus exact needA)|(with_reducible first|refine FBit.hasT rfl (by assumption) ?_|refine FBit.hasF rfl (by assumption) ?_|refine FBit.shrN rfl (by omega) ?_|refine FBit.half rfl ?_|refine FBit.shl1 rfl (by omega) ?_|refine Fits.inU (by omega) ?_|refine FBit.shrNI rfl (by omega) ?_|refine FBit.shrIN rfl (by omega) (by omega) ?_|refine FBit.shrI rfl (by omega) (by omega) ?_|refine FBit.shl1I rfl (by omega) ?_)|(with_reducible refine FBit.has rfl (fun hq=>?_) (fun hq=>?_))|(with_reducible first|refine FBit.and1 rfl ?_|refine FBit.andN rfl (by omega) (by omega) ?_|refine FBit.orN rfl (by omega) (by omega) ?_|refine FBit.andNotN rfl (by omega) (by omega) ?_)|(with_reducible refine wG ?_)|(with_reducible refine wP ?_)))
      all_goals (try conv=>whnf)
      (exact ⟨⟨(t + 1,y + 1),⟨hlt,hy⟩,by show _ < _;omega,[0,1,2,3],(by (refine wO rfl rfl rfl ?_;repeat (first|exact wX|(refine wV rfl (by first|exact LnB.rowS|exact LnB.rowE (Nat.le_refl _) (fun k hk o ho=>by show Q.cRng _ _ = Q.cRng _ _;rw [ee])|exact LnB.A) ?_)|(refine CutL.gone (Nat.lt_of_lt_of_le (Nat.lt_succ_self _) (Nat.le_of_ble_eq_true rfl)) ?_)))),allA⟩⟩)
  ·obtain rfl:t = p.nT:=by omega
   have hzo:(Q.nightT p s (sdiff m a) o).rg.length = (Q.rgT p s p.nT).length + o.length:=List.length_append
   rcases q with _|q
   rotate_left
   ·(repeat' ((try conv=>whnf);first|(with_reducible first|refine wT ?_|refine wF ?_|(refine wI (fun hq=>?_) (fun hq=>?_) <;> try simp only [zA,zE,zD,zJ,zB,zI,wK,wL] at hq)|refine wA ?_|refine wB ?_|refine wC ?_|refine wD ?_|refine wE ?_)|((with_reducible refine wN ?_ ?_);focus exact needA)|(with_reducible first|refine FBit.hasT rfl (by assumption) ?_|refine FBit.hasF rfl (by assumption) ?_|refine FBit.shrN rfl (by omega) ?_|refine FBit.half rfl ?_|refine FBit.shl1 rfl (by omega) ?_|refine Fits.inU (by omega) ?_|refine FBit.shrNI rfl (by omega) ?_|refine FBit.shrIN rfl (by omega) (by omega) ?_|refine FBit.shrI rfl (by omega) (by omega) ?_|refine FBit.shl1I rfl (by omega) ?_)|(with_reducible refine FBit.has rfl (fun hq=>?_) (fun hq=>?_))|(with_reducible first|refine FBit.and1 rfl ?_|refine FBit.andN rfl (by omega) (by omega) ?_|refine FBit.orN rfl (by omega) (by omega) ?_|refine FBit.andNotN rfl (by omega) (by omega) ?_)|(with_reducible refine wG ?_)|(refine FCall.pure (cT) ⟨Ln.sameB _ rfl,True.intro⟩ rfl ?_)|(with_reducible refine wP ?_)))
    all_goals (try conv=>whnf)
    exact FWk.of [(5,.ptr 0 0),(7,.bool b),(9,.ptr 1 0)] [.box 3 (ofL [AI s,AI a,Q.aRngs zo false o]),.box 3 (Q.cStd (nF (Q.nightT p s (sdiff m a) o)) (Q.nightT p s (sdiff m a) o))] [1,2] (wO rfl rfl rfl (wV rfl (LnB.boxN ⟨⟨⟨True.intro,Ln.sameB _ rfl⟩,Ln.sameB _ rfl⟩,Ln.sameB _ rfl⟩) (wV rfl (LnB.boxN ⟨⟨⟨True.intro,Ln.sameB _ rfl⟩,Ln.sameB _ rfl⟩,Ln.pubZ (by rw [hzo];omega) (goneB rfl) rfl (Nat.le_refl _) (by rw [hzo,← hq1]) (fun k hk o ho=>cR_app (R:=Q.rgT p s p.nT) hq1 (fun k hk q=>rfl))⟩) wX))) ⟨Ln.ptr _ _ _ rfl,Ln.sameB _ rfl,Ln.ptr _ _ _ rfl,True.intro⟩ rest.h
   ·rcases o with _|⟨r,o⟩
    ·(repeat' ((try conv=>whnf);first|(with_reducible first|refine wT ?_|refine wF ?_|(refine wI (fun hq=>?_) (fun hq=>?_) <;> try simp only [zA,zE,zD,zJ,zB,zI,wK,wL] at hq)|refine wA ?_|refine wB ?_|refine wC ?_|refine wD ?_|refine wE ?_)|((with_reducible refine wN ?_ ?_);focus exact needA)|(with_reducible first|refine FBit.hasT rfl (by assumption) ?_|refine FBit.hasF rfl (by assumption) ?_|refine FBit.shrN rfl (by omega) ?_|refine FBit.half rfl ?_|refine FBit.shl1 rfl (by omega) ?_|refine Fits.inU (by omega) ?_|refine FBit.shrNI rfl (by omega) ?_|refine FBit.shrIN rfl (by omega) (by omega) ?_|refine FBit.shrI rfl (by omega) (by omega) ?_|refine FBit.shl1I rfl (by omega) ?_)|(with_reducible refine FBit.has rfl (fun hq=>?_) (fun hq=>?_))|(with_reducible first|refine FBit.and1 rfl ?_|refine FBit.andN rfl (by omega) (by omega) ?_|refine FBit.orN rfl (by omega) (by omega) ?_|refine FBit.andNotN rfl (by omega) (by omega) ?_)|(with_reducible refine wG ?_)|(refine FCall.pure (cT) ⟨Ln.sameB _ rfl,True.intro⟩ rfl ?_)|(with_reducible refine wP ?_)))
     all_goals (try conv=>whnf)
     exact FWk.of [(5,.ptr 0 0),(7,.bool b),(9,.ptr 1 0)] [.box 3 (ofL [AI s,AI a,Q.aRngs zo false ([]:List Q.Rng)]),.box 3 (Q.cStd (nF (Q.nightT p s (sdiff m a) ([]:List Q.Rng))) (Q.nightT p s (sdiff m a) ([]:List Q.Rng)))] [1,2] (wO rfl rfl rfl (wV rfl (LnB.boxN ⟨⟨⟨True.intro,Ln.sameB _ rfl⟩,Ln.sameB _ rfl⟩,Ln.sameB _ rfl⟩) (wV rfl (LnB.boxN ⟨⟨⟨True.intro,Ln.sameB _ rfl⟩,Ln.sameB _ rfl⟩,Ln.nilZ (by rw [hzo,← hq1];rfl)⟩) wX))) ⟨Ln.ptr _ _ _ rfl,Ln.sameB _ rfl,Ln.ptr _ _ _ rfl,True.intro⟩ rest.h
    ·(repeat' ((try conv=>whnf);first|(with_reducible first|refine wT ?_|refine wF ?_|(refine wI (fun hq=>?_) (fun hq=>?_) <;> try simp only [zA,zE,zD,zJ,zB,zI,wK,wL] at hq)|refine wA ?_|refine wB ?_|refine wC ?_|refine wD ?_|refine wE ?_)|((with_reducible refine wN ?_ ?_);focus exact needA)|(with_reducible first|refine FBit.hasT rfl (by assumption) ?_|refine FBit.hasF rfl (by assumption) ?_|refine FBit.shrN rfl (by omega) ?_|refine FBit.half rfl ?_|refine FBit.shl1 rfl (by omega) ?_|refine Fits.inU (by omega) ?_|refine FBit.shrNI rfl (by omega) ?_|refine FBit.shrIN rfl (by omega) (by omega) ?_|refine FBit.shrI rfl (by omega) (by omega) ?_|refine FBit.shl1I rfl (by omega) ?_)|(with_reducible refine FBit.has rfl (fun hq=>?_) (fun hq=>?_))|(with_reducible first|refine FBit.and1 rfl ?_|refine FBit.andN rfl (by omega) (by omega) ?_|refine FBit.orN rfl (by omega) (by omega) ?_|refine FBit.andNotN rfl (by omega) (by omega) ?_)|(with_reducible refine wG ?_)|(refine FCall.pure (cT) ⟨Ln.sameB _ rfl,True.intro⟩ rfl ?_)|(with_reducible refine wP ?_)))
     all_goals (try conv=>whnf)
     exact FWk.of [(5,.ptr 0 0),(7,.bool b),(9,.ptr 1 0)] [.box 3 (ofL [AI s,AI a,Q.aRngs zo false (r :: o)]),.box 3 (Q.cStd (nF (Q.nightT p s (sdiff m a) (r :: o))) (Q.nightT p s (sdiff m a) (r :: o)))] [1,2] (wO rfl rfl rfl (wV rfl (LnB.boxN ⟨⟨⟨True.intro,Ln.sameB _ rfl⟩,Ln.sameB _ rfl⟩,Ln.sameB _ rfl⟩) (wV rfl (LnB.boxN ⟨⟨⟨True.intro,Ln.sameB _ rfl⟩,Ln.sameB _ rfl⟩,Ln.pubZ (by rw [hzo,List.length_cons];omega) (goneB rfl) rfl (Nat.le_refl _) (by rw [hzo,List.length_cons,← hq1]) (fun k hk o ho=>cR_app (R:=Q.rgT p s p.nT) hq1 (fun k hk=>absurd hk (Nat.not_lt_zero k)))⟩) wX))) ⟨Ln.ptr _ _ _ rfl,Ln.sameB _ rfl,Ln.ptr _ _ _ rfl,True.intro⟩ rest.h
 (try conv=>whnf)
 clear cT hl8
 generalize (Q.nightT p s (sdiff m a) o) = N at *
 have cK:=Q.refCheck_ok (nF N) N hSn
 (repeat' ((try conv=>whnf);first|(with_reducible first|refine wT ?_|refine wF ?_|(refine wI (fun hq=>?_) (fun hq=>?_) <;> try simp only [zA,zE,zD,zJ,zB,zI,wK,wL] at hq)|refine wA ?_|refine wB ?_|refine wC ?_|refine wD ?_|refine wE ?_)|((with_reducible refine wN ?_ ?_);focus exact needA)|(with_reducible first|refine FBit.hasT rfl (by assumption) ?_|refine FBit.hasF rfl (by assumption) ?_|refine FBit.shrN rfl (by omega) ?_|refine FBit.half rfl ?_|refine FBit.shl1 rfl (by omega) ?_|refine Fits.inU (by omega) ?_|refine FBit.shrNI rfl (by omega) ?_|refine FBit.shrIN rfl (by omega) (by omega) ?_|refine FBit.shrI rfl (by omega) (by omega) ?_|refine FBit.shl1I rfl (by omega) ?_)|(with_reducible refine FBit.has rfl (fun hq=>?_) (fun hq=>?_))|(with_reducible first|refine FBit.and1 rfl ?_|refine FBit.andN rfl (by omega) (by omega) ?_|refine FBit.orN rfl (by omega) (by omega) ?_|refine FBit.andNotN rfl (by omega) (by omega) ?_)|(with_reducible refine wG ?_)|(with_reducible refine wP ?_)))
 all_goals (try conv=>whnf)
 refine FLoop.of (ACalls.mono _) (X:=Nat) (fun i=>[(5,.ptr 0 0),(7,.bool b),(9,.ptr 1 0),(13,AI i)]) (fun _=>[.box 3 (ofL [AI s,AI a,Q.aRngs zo false o]),.box 3 (Q.cStd (nF N) N)]) (fun i=>i ≤ o.length ∧ ∀ k,k < i → (o.getD k Q.rg0).urg = false) (fun i=>o.length - i) 0 ⟨⟨Nat.zero_le _,fun k hk=>absurd hk (Nat.not_lt_zero k)⟩,[0,1],Cut.A,allA⟩ ?_
 rintro i ⟨hi,hno⟩
 by_cases hlt:i < o.length
 ·(repeat' ((try conv=>whnf);first|(with_reducible first|refine wT ?_|refine wF ?_|(refine wI (fun hq=>?_) (fun hq=>?_) <;> try simp only [zA,zE,zD,zJ,zB,zI,wK,wL] at hq)|refine wA ?_|refine wB ?_|refine wC ?_|refine wD ?_|refine wE ?_)|((with_reducible refine wN ?_ ?_);focus exact needA)|(with_reducible first|refine FBit.hasT rfl (by assumption) ?_|refine FBit.hasF rfl (by assumption) ?_|refine FBit.shrN rfl (by omega) ?_|refine FBit.half rfl ?_|refine FBit.shl1 rfl (by omega) ?_|refine Fits.inU (by omega) ?_|refine FBit.shrNI rfl (by omega) ?_|refine FBit.shrIN rfl (by omega) (by omega) ?_|refine FBit.shrI rfl (by omega) (by omega) ?_|refine FBit.shl1I rfl (by omega) ?_)|(with_reducible refine FBit.has rfl (fun hq=>?_) (fun hq=>?_))|(with_reducible first|refine FBit.and1 rfl ?_|refine FBit.andN rfl (by omega) (by omega) ?_|refine FBit.orN rfl (by omega) (by omega) ?_|refine FBit.andNotN rfl (by omega) (by omega) ?_)|(with_reducible refine wG ?_)|(refine FCall.pure manned_ok True.intro rfl ?_)|(with_reducible refine wP ?_)))
  all_goals (try conv=>whnf)
  ·(refine ⟨⟨_,[],[],Cut.nil _,Ln.sameB _ rfl,?_,rfl⟩⟩);rfl
  ·(exact ⟨⟨(i + 1),⟨hlt,Q.below_step hno hq⟩,by show _ < _;omega,[0,1],Cut.A,allA⟩⟩)
 ·have hno2:∀ r,r ∈ o → r.urg = false:=fun r hr=>by
   obtain ⟨k,hk,rfl⟩:=List.getElem_of_mem hr
   have:=hno k (by omega)
   rwa [List.getD,List.getElem?_eq_getElem hk] at this
  clear hno
  cases b
  ·(repeat' ((try conv=>whnf);first|(with_reducible first|refine wT ?_|refine wF ?_|(refine wI (fun hq=>?_) (fun hq=>?_) <;> try simp only [zA,zE,zD,zJ,zB,zI,wK,wL] at hq)|refine wA ?_|refine wB ?_|refine wC ?_|refine wD ?_|refine wE ?_)|((with_reducible refine wN ?_ ?_);focus exact needA)|(with_reducible first|refine FBit.hasT rfl (by assumption) ?_|refine FBit.hasF rfl (by assumption) ?_|refine FBit.shrN rfl (by omega) ?_|refine FBit.half rfl ?_|refine FBit.shl1 rfl (by omega) ?_|refine Fits.inU (by omega) ?_|refine FBit.shrNI rfl (by omega) ?_|refine FBit.shrIN rfl (by omega) (by omega) ?_|refine FBit.shrI rfl (by omega) (by omega) ?_|refine FBit.shl1I rfl (by omega) ?_)|(with_reducible refine FBit.has rfl (fun hq=>?_) (fun hq=>?_))|(with_reducible first|refine FBit.and1 rfl ?_|refine FBit.andN rfl (by omega) (by omega) ?_|refine FBit.orN rfl (by omega) (by omega) ?_|refine FBit.andNotN rfl (by omega) (by omega) ?_)|(with_reducible refine wG ?_)|(refine FCall.pure manned_ok True.intro rfl ?_)|(with_reducible refine wP ?_)))
   all_goals (try conv=>whnf)
   all_goals ((refine ⟨⟨_,[],[],Cut.nil _,Ln.sameB _ rfl,?_,rfl⟩⟩);rfl)
  cases hok:N.ok
  ·rw [Q.check_60 hok] at cK
   (repeat' ((try conv=>whnf);first|(with_reducible first|refine wT ?_|refine wF ?_|(refine wI (fun hq=>?_) (fun hq=>?_) <;> try simp only [zA,zE,zD,zJ,zB,zI,wK,wL] at hq)|refine wA ?_|refine wB ?_|refine wC ?_|refine wD ?_|refine wE ?_)|((with_reducible refine wN ?_ ?_);focus exact needA)|(with_reducible first|refine FBit.hasT rfl (by assumption) ?_|refine FBit.hasF rfl (by assumption) ?_|refine FBit.shrN rfl (by omega) ?_|refine FBit.half rfl ?_|refine FBit.shl1 rfl (by omega) ?_|refine Fits.inU (by omega) ?_|refine FBit.shrNI rfl (by omega) ?_|refine FBit.shrIN rfl (by omega) (by omega) ?_|refine FBit.shrI rfl (by omega) (by omega) ?_|refine FBit.shl1I rfl (by omega) ?_)|(with_reducible refine FBit.has rfl (fun hq=>?_) (fun hq=>?_))|(with_reducible first|refine FBit.and1 rfl ?_|refine FBit.andN rfl (by omega) (by omega) ?_|refine FBit.orN rfl (by omega) (by omega) ?_|refine FBit.andNotN rfl (by omega) (by omega) ?_)|(with_reducible refine wG ?_)|(refine FCall.pure (cK) ⟨Ln.sameB _ rfl,True.intro⟩ rfl ?_)|(refine FCall.pure manned_ok True.intro rfl ?_)|(with_reducible refine wP ?_)))
   all_goals (try conv=>whnf)
   all_goals ((refine ⟨⟨_,[],[],Cut.nil _,Ln.sameB _ rfl,?_,rfl⟩⟩);rfl)
  rw [Q.check_ok' hok] at cK
  obtain ⟨u0,t0⟩:=law rfl hno2 hok
  have hS:=Q.std_d hok
  have cP:=Q.plan_yes (nF N) N hSn hok
  rw [u0] at cP
  have hR:=Q.bestL_right N
  have hRl:(Q.bestL N).length = N.rg.length:=hR.len
  have c12:N.rg.length ≤ 12:=hS.c12
  have cR:=Q.areRight_ok (nF N) N hS false false (Q.bestL N) (by omega)
  rw [Q.right_d.2 hR] at cR
  (repeat' ((try conv=>whnf);first|(with_reducible first|refine wT ?_|refine wF ?_|(refine wI (fun hq=>?_) (fun hq=>?_) <;> try simp only [zA,zE,zD,zJ,zB,zI,wK,wL] at hq)|refine wA ?_|refine wB ?_|refine wC ?_|refine wD ?_|refine wE ?_)|((with_reducible refine wN ?_ ?_);focus exact needA)|(with_reducible first|refine FBit.hasT rfl (by assumption) ?_|refine FBit.hasF rfl (by assumption) ?_|refine FBit.shrN rfl (by omega) ?_|refine FBit.half rfl ?_|refine FBit.shl1 rfl (by omega) ?_|refine Fits.inU (by omega) ?_|refine FBit.shrNI rfl (by omega) ?_|refine FBit.shrIN rfl (by omega) (by omega) ?_|refine FBit.shrI rfl (by omega) (by omega) ?_|refine FBit.shl1I rfl (by omega) ?_)|(with_reducible refine FBit.has rfl (fun hq=>?_) (fun hq=>?_))|(with_reducible first|refine FBit.and1 rfl ?_|refine FBit.andN rfl (by omega) (by omega) ?_|refine FBit.orN rfl (by omega) (by omega) ?_|refine FBit.andNotN rfl (by omega) (by omega) ?_)|(with_reducible refine wG ?_)|(refine FCall.pure (cK) ⟨Ln.sameB _ rfl,True.intro⟩ rfl ?_)|(refine FCall.pure (cP) ⟨Ln.sameB _ rfl,True.intro⟩ rfl ?_)|(refine FCall.pure (cR) ⟨Ln.sameB _ rfl,Ln.sameB _ rfl,True.intro⟩ rfl ?_)|(refine FCall.pure manned_ok True.intro rfl ?_)|(with_reducible refine wP ?_)))
  all_goals (try conv=>whnf)
  refine FLoop.of (ACalls.mono _) (X:=Nat) (fun i=>[(9,.ptr 0 0),(14,Q.aAns false false (Q.bestL N)),(18,AI i)]) (fun _=>[.box 3 (Q.cStd (nF N) N)]) (fun i=>i ≤ N.rg.length) (fun i=>N.rg.length - i) 0 ⟨Nat.zero_le _,[1],Cut.A,allA⟩ ?_
  intro i hi
  have hti:(N.rg.getD i Q.rg0).urg = true → i < N.rg.length → ((Q.bestL N).getD i Q.na).t = 0:=fun hu hc=>t0 i hc hu
  by_cases hlt:i < N.rg.length
  ·cases hu:(N.rg.getD i Q.rg0).urg
   ·(repeat' ((try conv=>whnf);first|(with_reducible first|refine FCond.t rfl ?_|refine FCond.f rfl ?_)|((with_reducible refine FCond.uT (fun hq=>?_));rw [hq];(with_reducible refine FCond.t rfl ?_);clear hq)|((with_reducible refine FCond.uF (fun hq=>?_));rw [hq];(with_reducible refine FCond.f rfl ?_);clear hq)|((with_reducible refine wJ (fun hq=>?_) (fun hq=>?_)) <;> (rw [hq];(with_reducible first|refine FCond.t rfl ?_|refine FCond.f rfl ?_);(try simp only [zA,zE,zD,zJ,zB,zI,wK,wL] at hq)))|(with_reducible first|refine wA ?_|refine wB ?_|refine wC ?_|refine wD ?_|refine wE ?_)|((with_reducible refine wN ?_ ?_);focus exact needA)|(with_reducible refine wG ?_)|(with_reducible refine wP ?_)))
    all_goals (try conv=>whnf)
    (exact ⟨⟨(i + 1),hlt,by show _ < _;omega,[0],Cut.A,allA⟩⟩)
   ·have hz:=hti hu hlt
    (repeat' ((try conv=>whnf);first|(with_reducible first|refine FCond.t rfl ?_|refine FCond.f rfl ?_)|((with_reducible refine FCond.uT (fun hq=>?_));rw [hq];(with_reducible refine FCond.t rfl ?_);clear hq)|((with_reducible refine FCond.uF (fun hq=>?_));rw [hq];(with_reducible refine FCond.f rfl ?_);clear hq)|((with_reducible refine wJ (fun hq=>?_) (fun hq=>?_)) <;> (rw [hq];(with_reducible first|refine FCond.t rfl ?_|refine FCond.f rfl ?_);(try simp only [zA,zE,zD,zJ,zB,zI,wK,wL] at hq)))|(with_reducible first|refine wA ?_|refine wB ?_|refine wC ?_|refine wD ?_|refine wE ?_)|((with_reducible refine wN ?_ ?_);focus exact needA)|(with_reducible refine wG ?_)|(with_reducible refine wP ?_)))
    all_goals (try conv=>whnf)
    (exact ⟨⟨(i + 1),hlt,by show _ < _;omega,[0],Cut.A,allA⟩⟩)
  ·(repeat' ((try conv=>whnf);first|(with_reducible first|refine wT ?_|refine wF ?_|(refine wI (fun hq=>?_) (fun hq=>?_) <;> try simp only [zA,zE,zD,zJ,zB,zI,wK,wL] at hq)|refine wA ?_|refine wB ?_|refine wC ?_|refine wD ?_|refine wE ?_)|((with_reducible refine wN ?_ ?_);focus exact needA)|(with_reducible first|refine FBit.hasT rfl (by assumption) ?_|refine FBit.hasF rfl (by assumption) ?_|refine FBit.shrN rfl (by omega) ?_|refine FBit.half rfl ?_|refine FBit.shl1 rfl (by omega) ?_|refine Fits.inU (by omega) ?_|refine FBit.shrNI rfl (by omega) ?_|refine FBit.shrIN rfl (by omega) (by omega) ?_|refine FBit.shrI rfl (by omega) (by omega) ?_|refine FBit.shl1I rfl (by omega) ?_)|(with_reducible refine FBit.has rfl (fun hq=>?_) (fun hq=>?_))|(with_reducible first|refine FBit.and1 rfl ?_|refine FBit.andN rfl (by omega) (by omega) ?_|refine FBit.orN rfl (by omega) (by omega) ?_|refine FBit.andNotN rfl (by omega) (by omega) ?_)|(with_reducible refine wG ?_)|(refine FCall.pure manned_ok True.intro rfl ?_)|(with_reducible refine wP ?_)))
   all_goals (try conv=>whnf)
   all_goals ((refine ⟨⟨_,[],[],Cut.nil _,Ln.sameB _ rfl,?_,rfl⟩⟩);rfl)
end Go.Proofs.Ytjfldbkjfaopbaa

namespace Go.Proofs.Ytjfldbkjfaopbaa
open Go.RowKit Go.ChangeShapes Go.WideShapes Go.Deep

section
variable {H:Type} {enc:TypeId × Value → H} {w:World} {base:Nat} {held:Bool}
theorem cszN : Try.prog.cellsOf 3 = 1 ∧ Try.prog.cellsOf 4 = 1 ∧ Try.prog.cellsOf 48 = 3 ∧ Try.prog.cellsOf 27 = 1 ∧ Try.prog.cellsOf 29 = 3:=by
 refine ⟨?_,?_,?_,?_,?_⟩ <;> kernel_rfl
theorem rt_bool {n:Nat} {cs:List Value} {y:DataW H × List MemPlace} (h:DataW.trod enc Try.prog w base (fun _=>true) held n 4 cs = some y):∃ b:Bool,CellsAre w cs 1 (fun _=>.bool b):=by
 obtain ⟨b,rfl,_⟩:=DataW.trod_bool Try.underlying4 h
 exact ⟨b,.one rfl rfl⟩
theorem rt_ring {n:Nat} {cs:List Value} {y:DataW H × List MemPlace} (h:DataW.trod enc Try.prog w base (fun _=>true) held n 48 cs = some y):∃ x:Q.Rng,True ∧ CellsAre w cs 3 (Q.cRng x):=by
 obtain ⟨hl,⟨_,_,h0⟩,⟨_,_,h1⟩,⟨_,_,h2⟩,_⟩:=rdr_fields Try.underlying48 h
 simp only [cszN.1,cszN.2.1] at h0 h1 h2
 obtain ⟨a,_,c0⟩:=rt_int h0
 obtain ⟨b,_,c1⟩:=rt_int h1
 obtain ⟨c,c2⟩:=rt_bool h2
 refine ⟨⟨a,b,c⟩,trivial,by rw [hl];exact cszN.2.2.1,fun o ho=>?_⟩
 rcases (show o = 0 ∨ o = 1 ∨ o = 2 by omega) with rfl|rfl|rfl
 ·exact c0.sub (o:=0) (by omega)
 ·exact c1.sub (o:=0) (by omega)
 ·exact c2.sub (o:=0) (by omega)
theorem rt_rings {n:Nat} {cs:List Value} {y:DataW H × List MemPlace} (h:DataW.trod enc Try.prog w base (fun _=>true) held n 27 cs = some y):∃ (z:Bool) (l:List Q.Rng),(l.length ≤ 9223372036854775807 ∧ ∀ x ∈ l,True) ∧ CellsAre w cs 1 (fun _=>Q.aRngs z false l) :=
 rdr_slice Q.cRng (fun _=>True) Q.rg0 Try.underlying27 cszN.2.2.1 (by omega) rt_ring h
structure NightF where
 s:Int
 i:Int
 z:Bool
 o:List Q.Rng
theorem rt_night {n:Nat} {cs:List Value} {y:DataW H × List MemPlace} (h:DataW.trod enc Try.prog w base (fun _=>true) held n 29 cs = some y):∃ x:NightF,(in64 x.i ∧ x.o.length ≤ 9223372036854775807) ∧ CellsAre w cs 3 (ofL [AI x.s,AI x.i,Q.aRngs x.z false x.o]):=by
 obtain ⟨hl,⟨_,_,h0⟩,⟨_,_,h1⟩,⟨_,_,h2⟩,_⟩:=rdr_fields Try.underlying29 h
 simp only [cszN.1,cszN.2.2.2.1] at h0 h1 h2
 obtain ⟨a,_,c0⟩:=rt_int h0
 obtain ⟨b,hb,c1⟩:=rt_int h1
 obtain ⟨z,l,hlen,c2⟩:=rt_rings h2
 refine ⟨⟨a,b,z,l⟩,⟨hb,hlen.1⟩,by rw [hl];exact cszN.2.2.2.2,fun o ho=>?_⟩
 rcases (show o = 0 ∨ o = 1 ∨ o = 2 by omega) with rfl|rfl|rfl
 ·exact c0.sub (o:=0) (by omega)
 ·exact c1.sub (o:=0) (by omega)
 ·exact c2.sub (o:=0) (by omega)
end
end Go.Proofs.Ytjfldbkjfaopbaa
