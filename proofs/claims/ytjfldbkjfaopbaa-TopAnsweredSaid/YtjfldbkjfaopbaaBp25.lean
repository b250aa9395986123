/- Relay: slices.Backward over the spots. / Relay: own rows that hold own rows; bounds of the search's waiting. / Relay: how the best answers are read off the rows -/
import Derived.Test.YtjfldbkjfaopbaaBp24
set_option linter.unusedSimpArgs false
set_option linter.unusedVariables false
namespace Go.Proofs.Ytjfldbkjfaopbaa.Q
open Go.RowKit Go.Shelf

set_option maxRecDepth 100000
set_option maxHeartbeats 2000000
attribute [local go_sem] Oper.semAt_some

theorem arr1 {cs:Array Value} {v:Value} {n:Nat} (h:cs.size = n) (hp:cs.getD 0 undef = v) (hn:n = 1:=by rfl):cs = #[v]:=by
 subst hn
 have h0:0 < cs.size:=by omega
 have h1:cs[0] = v:=by simpa [h0] using hp
 apply Array.ext
 ·simpa using h
 ·intro i h2 h3
  obtain rfl:i = 0:=by simp at h3;omega
  simpa using h1

theorem backward_g (g1 g2:Nat → Int) (n:Nat) (hn:n ≤ 1000):AIter Try.prog 50 [.ip 1 (ofL [.sl false false n 2 (fun k=>cSpot (g1 k) (g2 k))]) 0] ((List.range n).map fun k=>[AI ((n - 1 - k:Nat):Int),aSpot (g1 (n - 1 - k)) (g2 (n - 1 - k))]):=by
 refine ⟨⟨_,Try.func50,by decide,rfl⟩,fun M w0 cs hcs hreps lp J Jx W hW hJ hJx hY h0=>?_⟩
 obtain ⟨Bs,off,hp,hb,hMn,hc⟩:=hreps 0 _ rfl
 obtain ⟨u,hcell,_,A,cap,rfl,hz,hnil,_,hcap,hel⟩:=hc 0 (by omega)
 obtain ⟨ad,rfl⟩:∃ ad,A = some ad:=by
  cases A with
  | none=>exact absurd (hz.2 rfl) (by decide)
  | some ad=>exact ⟨ad,rfl⟩
 clear hz hnil
 rw [Nat.add_zero] at hcell hp
 obtain rfl:=arr1 hcs hp
 have wn:Wd none = Fence.wide:=rfl
 rw [wn] at hY ⊢
 refine callsIn_of_wp Try.func50 rfl trivial ?_ rfl
 simp only [Try.ntmps50,List.size_toArray,List.length_cons,List.length_nil,Nat.reduceAdd,Nat.reduceSub,Array.replicate_succ,Array.replicate_zero,List.push_toArray,List.append_toArray,List.nil_append,List.cons_append,argsOf]
 have hcell0:=(hW.cell hb hMn).trans hcell
 gi_wp2
 gi_loopw [3] (fun i wr=>∃ k:Nat,k ≤ n ∧ i = .int .i64 ((n:Int) - 1 - k) ∧ J k wr ∧ Chg M w0 wr)
  (fun i _=>(intOf i + 1).toNat)
 case atStart=>exact ⟨0,Nat.zero_le _,by simp,h0,hW⟩
 case round =>
  obtain ⟨k,hk,rfl,hJk,hck⟩:=hrel
  have hcellk:=(hck.cell hb hMn).trans hcell
  by_cases hlt:k < n
  ·obtain ⟨b,off',u,hA,hb',hn',hcu,_,hu⟩:=hel (n - 1 - k) (by omega) 0 (by omega)
   obtain ⟨b2,off2,u2,hA2,_,_,hcu2,_,hu2⟩:=hel (n - 1 - k) (by omega) 1 (by omega)
   injection hA with hA
   subst hA
   injection hA2 with hA2
   injection hA2 with e1 e2 e3
   subst e1;subst e2;clear e3
   obtain ⟨x1,hx1⟩:∃ x:Int,x = g1 (n - 1 - k):=⟨_,rfl⟩
   obtain ⟨x2,hx2⟩:∃ x:Int,x = g2 (n - 1 - k):=⟨_,rfl⟩
   have hu':u = .int .i64 x1:=by rw [hx1];exact hu
   have hu2':u2 = .int .i64 x2:=by rw [hx2];exact hu2
   clear hu hu2
   subst hu'
   subst hu2'
   obtain ⟨fn,tmps,assign,body,hy,hR⟩:=hY k #[.int .i64 ((n:Int) - 1 - k),.agg #[.int .i64 x1,.int .i64 x2]] wr (by simpa using hlt) hJk hck (by simp [List.getD,hlt]) (fun i x hx=>by
    have e1:((n - 1 - k:Nat):Int) = (n:Int) - 1 - k:=by omega
    simp only [List.getD,List.getElem?_map,List.getElem?_range hlt,Option.map_some,Option.getD_some] at hx
    match i,hx with
    | 0,hx=>cases hx;rw [e1];rfl
    | 1,hx =>
     cases hx
     refine ⟨_,rfl,rfl,fun j hj=>?_⟩
     rcases (show j = 0 ∨ j = 1 by omega) with rfl|rfl
     ·exact ⟨_,rfl,rfl,by rw [hx1];rfl⟩
     ·exact ⟨_,rfl,rfl,by rw [hx2];rfl⟩)
   have hcuk:=(hck.cell hb' hn').trans hcu
   have hcuk2:=(hck.cell hb' hn').trans hcu2
   rw [Nat.add_zero] at hcuk
   clear hx1 hx2 hcu hcu2 hel
   gi_wp2
   refine ⟨rfl,hR.mono ?_⟩
   rintro e W3 (⟨rfl,hJ3,hk3⟩|⟨rfl,hJx3⟩)
   ·gi_wp2
    go_roundw
    case rel=>exact ⟨k + 1,by omega,by congr 1;omega,hJ3,hck.trans hk3 (fun _ _ h=>h)⟩
    case measure=>simp [intOf];omega
   ·gi_wp2
    refine bodyPost_ret (results_none rfl _ _ _) rfl ?_
    exact ⟨⟨_,rfl⟩,.inr ⟨k,by simpa using hlt,hJx3⟩⟩
  ·obtain rfl:k = n:=by omega
   gi_wp2
   go_end0
   exact ⟨⟨_,rfl⟩,.inl (by simpa using hJk)⟩
end Go.Proofs.Ytjfldbkjfaopbaa.Q

namespace Go.Proofs.Ytjfldbkjfaopbaa.Q
open Go.RowKit Go.Shelf

theorem Ln.boxP {σ:Nat → Nat → Prop} {Bp:Nat → Prop} {H:List AB} {d o m:Nat} {c c':Nat → AV} (h:Bp d) (hd:H[d]? = some (.box m c)) (hc:LnN σ Bp H m c c') (hp:((List.range m).all fun i=>(c' i).pureB) = true):Ln σ Bp H (.ptr d o) (.ip m c' o) :=
 Ln.pubp d o m c c' h hd hc.get fun i hi=>pureB_ok _ (by simp only [List.all_eq_true,List.mem_range] at hp;exact hp i hi)
theorem Ln.slZ {σ:Nat → Nat → Prop} {Bp:Nat → Prop} {H:List AB} {n' sz:Nat} {c c':Nat → Nat → AV} (h:n' = 0):Ln σ Bp H (.sl false true 0 sz c) (.sl false (decide (n' = 0)) n' sz c'):=by
 subst h
 exact Ln.sl _ _ _ _ _ _ _ (fun _=>rfl) (fun k hk=>absurd hk (Nat.not_lt_zero k))
theorem Ln.pubD {σ:Nat → Nat → Prop} {Bp:Nat → Prop} {H:List AB} {d n n' N sz:Nat} {c c':Nat → Nat → AV} (h0:0 < n') (h:Bp d) (hd:H[d]? = some (.row N sz c)) (hn:n ≤ N) (e:n = n') (hc:∀ k,k < n → ∀ o,o < sz → c' k o = c k o):Ln σ Bp H (.own d n) (.sl false (decide (n' = 0)) n' sz c'):=by
 rw [decide_eq_false (by omega)];exact Ln.pubE h hd hn e hc
theorem LnB.rwg1 {σ:Nat → Nat → Prop} {Bp:Nat → Prop} {H:List AB} {c c':Nat → Nat → AV} (h:Ln σ Bp H (c 0 0) (c' 0 0)):LnB σ Bp H (.rwg 1 1 c) (.rwg 1 1 c'):=by
 refine ⟨rfl,Nat.le_refl _,fun k hk o ho=>?_⟩
 obtain rfl:k = 0:=by omega
 obtain rfl:o = 0:=by omega
 exact h
theorem LnB.rwgR1 {σ:Nat → Nat → Prop} {Bp:Nat → Prop} {H:List AB} {c c':Nat → Nat → AV} (h:Ln σ Bp H (c 0 0) (c' 0 0)) (hp:(c' 0 0).pure):LnB σ Bp H (.rwg 1 1 c) (.row 1 1 c'):=by
 refine ⟨rfl,Nat.le_refl _,fun k hk o ho=>?_⟩
 obtain rfl:k = 0:=by omega
 obtain rfl:o = 0:=by omega
 exact ⟨h,hp⟩
/-- The spot's signer and time are in the studio. -/
theorem sp_in {s:Std} (hs:StdOk s) {k:Nat} (hk:k < s.n * s.T):(sp s.T k).1 < s.n ∧ (sp s.T k).2 < s.T:=by
 have:=hs.t1
 exact (Dk_all (sp s.T k)).1 ⟨k,hk,rfl⟩
structure WBd (w:Wt) (k:Nat):Prop where
 u:0 ≤ w.u ∧ w.u ≤ 8 * k
 o:0 ≤ w.o ∧ w.o ≤ 8 * k
theorem WBd.more {s:Std} (hs:StdOk s) {w:Wt} {k c:Nat} {t:Int} (h:WBd w k) (hc:c < s.C) (h1:(s.R c).at_ ≤ t) (h2:t ≤ s.times):WBd (w.more (s.R c) t) (k + 1):=by
 have a:=h.u
 have b:=h.o
 have r:=hs.rg c hc
 have t8:=hs.t8
 have tt:=hs.t
 unfold Wt.more
 cases (s.R c).urg
 ·exact ⟨by simp only [Bool.false_eq_true,if_false];omega,by simp only [Bool.false_eq_true,if_false];omega⟩
 ·exact ⟨by simp only [if_true];omega,by simp only [if_true];omega⟩
theorem WBd.up {w:Wt} {k k':Nat} (h:WBd w k) (hk:k ≤ k'):WBd w k':=⟨by have:=h.u;omega,by have:=h.o;omega⟩
theorem step_bd {s:Std} (hs:StdOk s) {p:Nat × Nat} {b:Nat → Stp} {k:Nat} (hp:(p.2:Int) ≤ s.times) (hb:∀ S,WBd (b S).w k):∀ c,c ≤ s.C → ∀ S,WBd (stepRow s p b c S).w (k + 1)
 | 0,_,S=>(hb S).up (by omega)
 | c + 1,hc,S=>by
  have ih:=step_bd hs hp hb c (by omega) S
  simp only [stepRow]
  by_cases hq:(canA s p.1 p.2 c && (S.testBit c && !(b (rem S c)).never)) = true
  ·rw [if_pos hq]
   simp only [Bool.and_eq_true] at hq
   have h1:=canA_d hq.1
   by_cases hl:((stepRow s p b c S).never || ((b (rem S c)).w.more (s.R c) p.2).lt (stepRow s p b c S).w) = true
   ·rw [if_pos hl]
    exact (hb (rem S c)).more hs (by omega) h1.2.2 hp
   ·rw [if_neg hl];exact ih
  ·rw [if_neg hq];exact ih
theorem row_bd {s:Std} (hs:StdOk s):∀ k,k ≤ s.n * s.T → ∀ S,WBd (row s k S).w k
 | 0,_,_=>⟨by unfold row;simp,by unfold row;simp⟩
 | k + 1,hk,S=>by
  have h1:=sp_in hs (show k < s.n * s.T by omega)
  have h2:=hs.t
  exact step_bd hs (by omega) (row_bd hs k (by omega)) s.C (Nat.le_refl _) S
theorem call_range {s:Std} {p:Nat × Nat} {b:Nat → Stp} (c S:Nat):-1 ≤ (stepRow s p b c S).call ∧ (stepRow s p b c S).call < c + 1:=by
 rcases step_call (s:=s) (p:=p) (b:=b) c S with ⟨h,_⟩|⟨k,hk,h,_⟩ <;> omega
theorem leftK_bd {s:Std} (hs:StdOk s) (S:Nat):∀ k,k ≤ s.C → WBd (leftK s S k) k
 | 0,_=>⟨by unfold leftK sumW;simp,by unfold leftK sumW;simp⟩
 | k + 1,hk=>by
  have ih:=leftK_bd hs S k (by omega)
  have a:=ih.u
  have b:=ih.o
  have r:=hs.rg k (by omega)
  have t8:=hs.t8
  have tt:=hs.t
  have e:leftK s S (k + 1) = (leftK s S k).add (if S.testBit k then w0 else (s.R k).w s.times):=rfl
  rw [e]
  cases S.testBit k
  ·simp only [Bool.false_eq_true,if_false]
   unfold Rng.w
   cases (s.R k).urg
   ·exact ⟨by simp only [Bool.false_eq_true,if_false,add_u];omega,by simp only [Bool.false_eq_true,if_false,add_o];omega⟩
   ·exact ⟨by simp only [if_true,add_u];omega,by simp only [if_true,add_o];omega⟩
  ·exact ⟨by simp only [if_true,add_u,w0_u];omega,by simp only [if_true,add_o,w0_o];omega⟩
/-- The calls that are tried, a call's sets of which the first m are done. -/
def mid (s:Std) (p:Nat × Nat) (b:Nat → Stp) (c m j:Nat):Stp:=if j.testBit c = true ∧ rem j c < m then stepRow s p b (c + 1) j else stepRow s p b c j
theorem mid_zero (s:Std) (p:Nat × Nat) (b:Nat → Stp) (c:Nat):mid s p b c 0 = stepRow s p b c:=by
 funext j;unfold mid;rw [if_neg (by omega)]
theorem mid_all (s:Std) (p:Nat × Nat) (b:Nat → Stp) (c C j:Nat) (hj:j < 2 ^ C):mid s p b c (2 ^ C) j = stepRow s p b (c + 1) j:=by
 unfold mid
 by_cases h:j.testBit c = true
 ·rw [if_pos ⟨h,rem_lt hj⟩]
 ·rw [if_neg (fun hh=>h hh.1)]
  simp only [stepRow]
  rw [if_neg]
  simp [h]
/-- A set that is passed over. -/
theorem mid_skip {s:Std} {p:Nat × Nat} {b:Nat → Stp} {c m:Nat} (h:(b m).never = true ∨ m.testBit c = true) (j:Nat):mid s p b c (m + 1) j = mid s p b c m j:=by
 unfold mid
 by_cases h1:j.testBit c = true ∧ rem j c = m
 ·obtain ⟨h1,h2⟩:=h1
  rw [if_pos ⟨h1,by omega⟩,if_neg (by omega)]
  simp only [stepRow]
  rw [if_neg]
  rcases h with h|h
  ·rw [h2,h];simp
  ·rw [← h2,test_rem] at h;simp at h
 ·by_cases h2:j.testBit c = true ∧ rem j c < m
  ·rw [if_pos h2,if_pos ⟨h2.1,by omega⟩]
  ·rw [if_neg h2,if_neg (fun hh=>by
    rcases Nat.lt_or_ge (rem j c) m with h'|h'
    ·exact h2 ⟨hh.1,h'⟩
    ·exact h1 ⟨hh.1,by omega⟩)]
theorem mid_other {s:Std} {p:Nat × Nat} {b:Nat → Stp} {c m j:Nat} (h0:m.testBit c = false) (h:j ≠ m ||| 2 ^ c):mid s p b c (m + 1) j = mid s p b c m j:=by
 unfold mid
 by_cases h1:j.testBit c = true ∧ rem j c = m
 ·exact (h (by rw [← h1.2,rem_or h1.1])).elim
 ·by_cases h2:j.testBit c = true ∧ rem j c < m
  ·rw [if_pos h2,if_pos ⟨h2.1,by omega⟩]
  ·rw [if_neg h2,if_neg (fun hh=>by
    rcases Nat.lt_or_ge (rem j c) m with h'|h'
    ·exact h2 ⟨hh.1,h'⟩
    ·exact h1 ⟨hh.1,by omega⟩)]
/-- The set that is reached: before, and behind. -/
theorem mid_at {s:Std} {p:Nat × Nat} {b:Nat → Stp} {c m:Nat} (h0:m.testBit c = false):mid s p b c m (m ||| 2 ^ c) = stepRow s p b c (m ||| 2 ^ c):=by
 unfold mid
 rw [if_neg (fun h=>by rw [or_rem h0] at h;omega)]
theorem mid_to {s:Std} {p:Nat × Nat} {b:Nat → Stp} {c m:Nat} (h0:m.testBit c = false) (hn:(b m).never = false) (hc:canA s p.1 p.2 c = true):mid s p b c (m + 1) (m ||| 2 ^ c) = if (stepRow s p b c (m ||| 2 ^ c)).never || ((b m).w.more (s.R c) p.2).lt (stepRow s p b c (m ||| 2 ^ c)).w then ⟨(b m).w.more (s.R c) p.2,c,false⟩ else stepRow s p b c (m ||| 2 ^ c):=by
 unfold mid
 rw [if_pos ⟨or_test m c,by rw [or_rem h0];omega⟩]
 simp only [stepRow]
 rw [if_pos (by rw [or_rem h0,hc,hn,or_test];rfl),or_rem h0]
theorem mid_store {s:Std} {p:Nat × Nat} {b:Nat → Stp} {c m:Nat} (h0:m.testBit c = false) (hn:(b m).never = false) (hc:canA s p.1 p.2 c = true) (hl:(mid s p b c m (m ||| 2 ^ c)).never = true ∨ ((b m).w.more (s.R c) p.2).lt (mid s p b c m (m ||| 2 ^ c)).w = true) (j:Nat) :
  mid s p b c (m + 1) j = if j = m ||| 2 ^ c then ⟨(b m).w.more (s.R c) p.2,c,false⟩ else mid s p b c m j:=by
 by_cases hj:j = m ||| 2 ^ c
 ·subst hj
  rw [if_pos rfl,mid_to h0 hn hc,if_pos]
  rw [mid_at h0] at hl
  rcases hl with h|h <;> rw [h] <;> simp
 ·rw [if_neg hj,mid_other h0 hj]
theorem mid_keep {s:Std} {p:Nat × Nat} {b:Nat → Stp} {c m:Nat} (h0:m.testBit c = false) (hn:(b m).never = false) (hc:canA s p.1 p.2 c = true) (h1:(mid s p b c m (m ||| 2 ^ c)).never = false) (h2:((b m).w.more (s.R c) p.2).lt (mid s p b c m (m ||| 2 ^ c)).w = false) (j:Nat) :
  mid s p b c (m + 1) j = mid s p b c m j:=by
 by_cases hj:j = m ||| 2 ^ c
 ·subst hj
  rw [mid_to h0 hn hc,mid_at h0] at *
  rw [h1,h2,if_neg (by simp)]
 ·rw [mid_other h0 hj]
/-- The first row, of which the first m sets behind 0 are struck out. -/
def r0 (m:Nat) (k:Nat):Stp:=⟨w0,0,decide (0 < k ∧ k < m)⟩
theorem r0_all {s:Std} {n k:Nat} (h:k < n):r0 n k = row s 0 k:=by
 unfold r0 row
 congr 1
 rw [decide_eq_decide];omega
def r4 (b:Nat → Stp) (m k:Nat):Stp:=if k < m then { b k with call:=-1 } else b k
theorem r4_zero (b:Nat → Stp):r4 b 0 = b:=by funext k;unfold r4;rw [if_neg (by omega)]
theorem r4_all {s:Std} {p:Nat × Nat} {b:Nat → Stp} {n k:Nat} (h:k < n):r4 b n k = stepRow s p b 0 k:=by unfold r4;rw [if_pos h];rfl
end Go.Proofs.Ytjfldbkjfaopbaa.Q

namespace Go.Proofs.Ytjfldbkjfaopbaa.Q
open Go.RowKit Go.Shelf

theorem row_call (s:Std) (k S:Nat):(row s (k + 1) S).call = -1 ∨ ∃ c,c < s.C ∧ (row s (k + 1) S).call = (c:Int) ∧ S.testBit c = true:=by
 rcases step_call (s:=s) (p:=sp s.T k) (b:=row s k) s.C S with ⟨h,_⟩|⟨c,h1,h2,_,h4,_⟩
 ·exact .inl h
 ·exact .inr ⟨c,h1,h2,h4⟩
/-- Spot by spot from the last one: the set that is left, and the answers so far. -/
def dn (s:Std):Nat → Nat × Asg
 | 0=>(bestAt s,fun _=>none)
 | k + 1=>if 0 ≤ (row s (s.n * s.T - 1 - k + 1) (dn s k).1).call then (rem (dn s k).1 (row s (s.n * s.T - 1 - k + 1) (dn s k).1).call.toNat,(dn s k).2.put (row s (s.n * s.T - 1 - k + 1) (dn s k).1).call.toNat (some (sp s.T (s.n * s.T - 1 - k)))) else dn s k
theorem dn_lt (s:Std):∀ k,(dn s k).1 < 2 ^ s.C
 | 0=>(bestAt_eq s).2.1
 | k + 1=>by
  have ih:=dn_lt s k
  simp only [dn]
  split
  ·exact rem_lt ih
  ·exact ih
theorem dn_inv (s:Std):∀ k,k ≤ s.n * s.T → ∀ c,bestA s c = match (dn s k).2 c with|some p=>some p|none=>rcon s (s.n * s.T - k) (dn s k).1 c
 | 0,_,c=>rfl
 | k + 1,hk,c=>by
  have ih:=dn_inv s k (by omega) c
  rw [ih]
  have e1:s.n * s.T - k = s.n * s.T - 1 - k + 1:=by omega
  have e2:s.n * s.T - (k + 1) = s.n * s.T - 1 - k:=by omega
  rw [e1,e2]
  simp only [dn]
  by_cases h:0 ≤ (row s (s.n * s.T - 1 - k + 1) (dn s k).1).call
  ·rw [if_pos h]
   simp only [rcon]
   rw [if_pos h]
   unfold Asg.put
   by_cases hc:c = (row s (s.n * s.T - 1 - k + 1) (dn s k).1).call.toNat
   ·rw [if_pos hc,if_pos hc]
    cases hx:(dn s k).2 c with
    | none=>rfl
    | some p =>
     exfalso
     -- a call that is answered is no more in the set
     have key:∀ k c p,(dn s k).2 c = some p → (dn s k).1.testBit c = false:=by
      intro k
      induction k with
      | zero=>intro c p h;cases h
      | succ k ih2 =>
       intro c p h
       simp only [dn] at h ⊢
       split at h
       ·rename_i h0
        rw [if_pos h0]
        simp only [test_rem]
        unfold Asg.put at h
        by_cases hc2:c = (row s (s.n * s.T - 1 - k + 1) (dn s k).1).call.toNat
        ·rw [decide_eq_true hc2.symm];simp
        ·simp only [if_neg hc2] at h
         rw [ih2 c p h];rfl
       ·rename_i h0
        rw [if_neg h0]
        exact ih2 c p h
     have h1:=key k c p hx
     rcases row_call s (s.n * s.T - 1 - k) (dn s k).1 with h2|⟨c2,h2,h3,h4⟩
     ·rw [h2] at h;omega
     ·rw [h3,Int.toNat_natCast] at hc
      rw [hc,h4] at h1;cases h1
   ·rw [if_neg hc,if_neg hc]
  ·rw [if_neg h]
   simp only [rcon]
   rw [if_neg h]
theorem dn_all (s:Std) (c:Nat):(dn s (s.n * s.T)).2 c = bestA s c:=by
 rw [dn_inv s _ (Nat.le_refl _) c,Nat.sub_self]
 cases (dn s (s.n * s.T)).2 c <;> rfl
theorem left_step {s:Std} {w:Wt} {m c:Nat} (h:m.testBit c = false):(w.add (leftK s m c)).more (s.R c) s.times = w.add (leftK s m (c + 1)):=by
 have e:leftK s m (c + 1) = (leftK s m c).add (if m.testBit c then w0 else (s.R c).w s.times):=rfl
 rw [e,h,more_add,add_assoc'];rfl
theorem left_skip {s:Std} {w:Wt} {m c:Nat} (h:m.testBit c = true):w.add (leftK s m (c + 1)) = w.add (leftK s m c):=by
 have e:leftK s m (c + 1) = (leftK s m c).add (if m.testBit c then w0 else (s.R c).w s.times):=rfl
 rw [e,h,if_pos rfl,add_w0]
theorem bst_yes {s:Std} {m:Nat} (h:(row s (s.n * s.T) m).never = false) (h2:(bst s m).1 < 0 ∨ (fin' s m).lt (bst s m).2 = true):bst s (m + 1) = ((m:Int),fin' s m):=by
 simp only [bst]
 rw [if_pos]
 rw [h]
 rcases h2 with h2|h2
 ·rw [decide_eq_true h2];rfl
 ·rw [h2];simp
theorem bst_no {s:Std} {m:Nat} (h:(row s (s.n * s.T) m).never = true ∨ (¬ (bst s m).1 < 0 ∧ (fin' s m).lt (bst s m).2 = false)):bst s (m + 1) = bst s m:=by
 simp only [bst]
 rw [if_neg]
 rcases h with h|⟨h1,h2⟩
 ·rw [h];simp
 ·rw [decide_eq_false h1,h2];simp
theorem bst_range (s:Std) (m:Nat):-1 ≤ (bst s m).1:=by
 rcases bst_ok s m with ⟨h,_⟩|⟨S,_,h,_⟩ <;> omega
end Go.Proofs.Ytjfldbkjfaopbaa.Q
