/- Relay: forms of values; small functions. / Relay: Check of both, and the spots. / Relay: Clone, Repeat, Backward as the program uses them. -/
import Derived.Test.YtjfldbkjfaopbaaProg
import Derived.Test.YtjfldbkjfaopbaaBp23
import Derived.KernelRfl
import Derived.RangeFuncNested
import Derived.RangeFuncBound
import Derived.RangeFuncCalls
import Derived.RangeFuncLeaves
import Derived.Shelf.Abstract
import Derived.Shelf.RegionOpen
import Derived.WalkKit
import Derived.OwnWalkIn
import Derived.TacticsInMore
import Derived.LoopNIn
import Derived.LoopIn
set_option linter.unusedSimpArgs false
set_option linter.unusedVariables false
namespace Go.Proofs.Ytjfldbkjfaopbaa.Q
open Go.RowKit

theorem mixed : Try.prog.follows .mixedOrders = true:=by kernel_rfl
abbrev AI (n:Int):AV:=.int .i64 n
abbrev aInts (z e:Bool) (l:List Int):AV:=.sl z e l.length 1 (fun k _=>AI (l.getD k 0))
abbrev nilS : AV:=.sl true true 0 0 (fun _ _=>.bot)
structure StF where
 zs:Bool
 es:Bool
 zr:Bool
 er:Bool
abbrev cSgn (x:Sgn):Nat → AV:=ofL [AI x.tongues,AI x.from_,AI x.until_]
abbrev cRng (x:Rng):Nat → AV:=ofL [AI x.tongue,AI x.at_,.bool x.urg]
abbrev aSgn (x:Sgn):AV:=.agg 3 (cSgn x)
abbrev aRng (x:Rng):AV:=.agg 3 (cRng x)
abbrev aSgns (z e:Bool) (l:List Sgn):AV:=.sl z e l.length 3 (fun k=>cSgn (l.getD k sg0))
abbrev aRngs (z e:Bool) (l:List Rng):AV:=.sl z e l.length 3 (fun k=>cRng (l.getD k rg0))
abbrev cStd (f:StF) (s:Std):Nat → AV:=ofL [AI s.times,aSgns f.zs f.es s.sg,aRngs f.zr f.er s.rg]
abbrev aStd (f:StF) (s:Std):AV:=.agg 3 (cStd f s)
abbrev cAn (a:Anr):Nat → AV:=ofL [AI a.t,AI a.g]
abbrev aAn (a:Anr):AV:=.agg 2 (cAn a)
abbrev aAns (z e:Bool) (l:List Anr):AV:=.sl z e l.length 2 (fun k=>cAn (l.getD k na))
abbrev cSpot (i t:Int):Nat → AV:=ofL [AI i,AI t]
abbrev aSpot (i t:Int):AV:=.agg 2 (cSpot i t)
abbrev aWt (w:Wt):AV:=.agg 2 (ofL [AI w.u,AI w.o])
theorem int_eq {k:IntKind} {a b:Int} (h:a = b):AV.int k a = AV.int k b:=by rw [h]
theorem bool_eq {a b:Bool} (h:a = b):AV.bool a = AV.bool b:=by rw [h]
theorem drop_eq {α:Type} {l:List α} {i:Nat} (d:α) (h:i < l.length):l.drop i = l.getD i d :: l.drop (i + 1):=by
 rw [List.drop_eq_getElem_cons h];simp [List.getD,List.getElem?_eq_getElem h]
theorem all_step {α:Type} {p:α → Bool} {l:List α} {i:Nat} (d:α) (h:i < l.length) (e:l.all p = (l.drop i).all p) (hp:p (l.getD i d) = true):l.all p = (l.drop (i + 1)).all p:=by
 rw [e,drop_eq d h,List.all_cons,hp,Bool.true_and]
theorem all_no {α:Type} {p:α → Bool} {l:List α} {i:Nat} (d:α) (h:i < l.length) (e:l.all p = (l.drop i).all p) (hp:p (l.getD i d) = false):l.all p = false:=by
 rw [e,drop_eq d h,List.all_cons,hp,Bool.false_and]
theorem all_end {α:Type} {p:α → Bool} {l:List α} {i:Nat} (h:l.length ≤ i) (e:l.all p = (l.drop i).all p):l.all p = true:=by
 rw [e,List.drop_eq_nil_of_le h];rfl
theorem rall_no {p:Nat → Bool} {n i:Nat} (h:i < n) (hp:p i = false):(List.range n).all p = false:=by
 rw [List.all_eq_false];exact ⟨i,List.mem_range.2 h,by rw [hp];decide⟩
theorem rall_yes {p:Nat → Bool} {n:Nat} (h:∀ i,i < n → p i = true):(List.range n).all p = true:=by
 rw [List.all_eq_true];exact fun i hi=>h i (List.mem_range.1 hi)
theorem below_step {p:Nat → Prop} {i:Nat} (h:∀ k,k < i → p k) (hi:p i):∀ k,k < i + 1 → p k:=fun k hk=>by
 rcases Nat.lt_or_ge k i with h'|h'
 ·exact h k h'
 ·obtain rfl:k = i:=by omega
  exact hi
theorem below_zero {p:Nat → Prop}:∀ k,k < 0 → p k:=fun k hk=>absurd hk (Nat.not_lt_zero k)
/-- Not far too large. -/
structure NearS (s:Std):Prop where
 n:s.sg.length ≤ 1000
 c:s.rg.length ≤ 1000

set_option maxHeartbeats 4000000
set_option maxRecDepth 100000
theorem within_ok (n lo hi:Int):ACall Try.prog 22 [AI n,AI lo,AI hi] [] (fun r h=>r = .bool (inB n lo hi) ∧ h = []):=by
 (refine fcall_of mixed Try.func22 rfl (by decide) (hs:={}) ?k (ac:=?ac) ?c (rs:=?rs) ?r ?l ?H;(case k=>kernel_rfl);(case c=>(conv=>(lhs;cbv)));(case r=>(conv=>(lhs;cbv)));(case l=>exact Nat.le_of_ble_eq_true rfl))
 (repeat' ((try conv=>whnf);first|(with_reducible first|refine wT ?_|refine wF ?_|(refine wI (fun hq=>?_) (fun hq=>?_) <;> try simp only [zA,zE,zD,zJ,zB,zI,wK,wL] at hq)|refine wA ?_|refine wB ?_|refine wC ?_|refine wD ?_|refine wE ?_)|((with_reducible refine wN ?_ ?_);focus exact needA)|(with_reducible refine wG ?_)|(with_reducible refine wP ?_)))
 all_goals ((refine ⟨⟨_,[],[],Cut.nil _,Ln.sameB _ rfl,?_,rfl⟩⟩);unfold inB;(exact avB))
theorem from_ok (n lo hi:Int):ACall Try.prog 34 [AI n,AI lo,AI hi] [] (fun r h=>r = .bool (inB n lo hi) ∧ h = []):=by
 (refine fcall_of mixed Try.func34 rfl (by decide) (hs:={}) ?k (ac:=?ac) ?c (rs:=?rs) ?r ?l ?H;(case k=>kernel_rfl);(case c=>(conv=>(lhs;cbv)));(case r=>(conv=>(lhs;cbv)));(case l=>exact Nat.le_of_ble_eq_true rfl))
 (repeat' ((try conv=>whnf);first|(with_reducible first|refine wT ?_|refine wF ?_|(refine wI (fun hq=>?_) (fun hq=>?_) <;> try simp only [zA,zE,zD,zJ,zB,zI,wK,wL] at hq)|refine wA ?_|refine wB ?_|refine wC ?_|refine wD ?_|refine wE ?_)|((with_reducible refine wN ?_ ?_);focus exact needA)|(with_reducible refine wG ?_)|(with_reducible refine wP ?_)))
 all_goals ((refine ⟨⟨_,[],[],Cut.nil _,Ln.sameB _ rfl,?_,rfl⟩⟩);unfold inB;(exact avB))
theorem has_ok (s n:Nat) (hn:n ≤ 64):ACall Try.prog 42 [AI s,AI n] [] (fun r h=>r = .bool (s.testBit n) ∧ h = []):=by
 (refine fcall_of mixed Try.func42 rfl (by decide) (hs:={}) ?k (ac:=?ac) ?c (rs:=?rs) ?r ?l ?H;(case k=>kernel_rfl);(case c=>(conv=>(lhs;cbv)));(case r=>(conv=>(lhs;cbv)));(case l=>exact Nat.le_of_ble_eq_true rfl))
 (repeat' ((try conv=>whnf);first|(with_reducible first|refine wT ?_|refine wF ?_|(refine wI (fun hq=>?_) (fun hq=>?_) <;> try simp only [zA,zE,zD,zJ,zB,zI,wK,wL] at hq)|refine wA ?_|refine wB ?_|refine wC ?_|refine wD ?_|refine wE ?_)|((with_reducible refine wN ?_ ?_);focus exact needA)|(with_reducible first|refine FBit.hasT rfl (by assumption) ?_|refine FBit.hasF rfl (by assumption) ?_|refine FBit.shrN rfl (by omega) ?_|refine FBit.half rfl ?_|refine FBit.shl1 rfl (by omega) ?_|refine Fits.inU (by omega) ?_|refine FBit.shrNI rfl (by omega) ?_|refine FBit.shrIN rfl (by omega) (by omega) ?_|refine FBit.shrI rfl (by omega) (by omega) ?_|refine FBit.shl1I rfl (by omega) ?_)|(with_reducible refine FBit.has rfl (fun hq=>?_) (fun hq=>?_))|(with_reducible first|refine FBit.and1 rfl ?_|refine FBit.andN rfl (by omega) (by omega) ?_|refine FBit.orN rfl (by omega) (by omega) ?_|refine FBit.andNotN rfl (by omega) (by omega) ?_)|(with_reducible refine wG ?_)|(with_reducible refine wP ?_)))
 all_goals ((refine ⟨⟨_,[],[],Cut.nil _,Ln.sameB _ rfl,?_,rfl⟩⟩);rw [hq];rfl)
theorem has_i (s n:Int) (hs:0 ≤ s) (hn:0 ≤ n ∧ n ≤ 64):ACall Try.prog 42 [AI s,AI n] [] (fun r h=>r = .bool (s.toNat.testBit n.toNat) ∧ h = []):=by
 have:=has_ok s.toNat n.toNat (by omega)
 rwa [Int.toNat_of_nonneg hs,Int.toNat_of_nonneg hn.1] at this
theorem less_ok (a b:Wt):ACall Try.prog 39 [aWt a,aWt b] [] (fun r h=>r = .bool (a.lt b) ∧ h = []):=by
 (refine fcall_of mixed Try.func39 rfl (by decide) (hs:={}) ?k (ac:=?ac) ?c (rs:=?rs) ?r ?l ?H;(case k=>kernel_rfl);(case c=>(conv=>(lhs;cbv)));(case r=>(conv=>(lhs;cbv)));(case l=>exact Nat.le_of_ble_eq_true rfl))
 (repeat' ((try conv=>whnf);first|(with_reducible first|refine wT ?_|refine wF ?_|(refine wI (fun hq=>?_) (fun hq=>?_) <;> try simp only [zA,zE,zD,zJ,zB,zI,wK,wL] at hq)|refine wA ?_|refine wB ?_|refine wC ?_|refine wD ?_|refine wE ?_)|((with_reducible refine wN ?_ ?_);focus exact needA)|(with_reducible refine wG ?_)|(with_reducible refine wP ?_)))
 all_goals ((refine ⟨⟨_,[],[],Cut.nil _,Ln.sameB _ rfl,?_,rfl⟩⟩);refine bool_eq ?_)
 all_goals (rw [Bool.eq_iff_iff];simp only [lt_iff,decide_eq_true_eq,Bool.false_eq_true,true_iff,false_iff];omega)
theorem more_ok (a:Wt) (r:Rng) (t:Int) (ha:-1000000 ≤ a.u ∧ a.u ≤ 1000000 ∧ -1000000 ≤ a.o ∧ a.o ≤ 1000000) (hr:0 ≤ r.at_ ∧ r.at_ ≤ 1000) (ht:0 ≤ t ∧ t ≤ 1000):ACall Try.prog 38 [aWt a,aRng r,AI t] [] (fun v h=>v = aWt (a.more r t) ∧ h = []):=by
 (refine fcall_of mixed Try.func38 rfl (by decide) (hs:={}) ?k (ac:=?ac) ?c (rs:=?rs) ?r ?l ?H;(case k=>kernel_rfl);(case c=>(conv=>(lhs;cbv)));(case r=>(conv=>(lhs;cbv)));(case l=>exact Nat.le_of_ble_eq_true rfl))
 (repeat' ((try conv=>whnf);first|(with_reducible first|refine wT ?_|refine wF ?_|(refine wI (fun hq=>?_) (fun hq=>?_) <;> try simp only [zA,zE,zD,zJ,zB,zI,wK,wL] at hq)|refine wA ?_|refine wB ?_|refine wC ?_|refine wD ?_|refine wE ?_)|((with_reducible refine wN ?_ ?_);focus exact needA)|(with_reducible refine wG ?_)|(with_reducible refine wP ?_)))
 all_goals (try conv=>whnf)
 all_goals (refine ⟨⟨_,[],[],Cut.nil _,Ln.sameB _ rfl,?_,rfl⟩⟩)
 all_goals (unfold Wt.more;rw [hq];rfl)
theorem refCan_t (b:Bool) (f:StF) (s:Std) (hs:StdOk s) (i c:Nat) (t:Int) (hi:i < s.n) (hc:c < s.C) (h1:(s.sg.getD i sg0).from_ ≤ t ∧ t < (s.sg.getD i sg0).until_) (hb:(s.sg.getD i sg0).tongues.toNat.testBit (s.rg.getD c rg0).tongue.toNat = b):ACall Try.prog 25 [aStd f s,AI i,AI c,AI t] [] (fun r h=>r = .bool (canA s i t c) ∧ h = []):=by
 have h0:=hs.sg i hi
 have h2:=hs.rg c hc
 have h3:=hs.t
 have h8:=hs.t8
 unfold Std.S at h0
 unfold Std.R at h2
 have hi':i < s.sg.length:=hi
 have hc':c < s.rg.length:=hc
 have hh:=has_i (s.sg.getD i sg0).tongues (s.rg.getD c rg0).tongue (by omega) (by omega)
 rw [hb] at hh
 (refine fcall_of mixed Try.func25 rfl (by decide) (hs:={ alt:=[(1,⟨[0,1,2,3,4,5,6,7,8,9],(.alt 10 [] (.alt 11 [] (.alt 12 [] (.alt 13 [] .leaf .leaf) .leaf) .leaf) (.alt 11 [] (.alt 10 [] (.alt 12 [] (.alt 13 [] .leaf .leaf) .leaf) .leaf) .leaf)),[(10,[1,4,6,9]),(11,[1,4,6,9]),(12,[6,9])]⟩)] }) ?k (ac:=?ac) ?c (rs:=?rs) ?r ?l ?H;(case k=>kernel_rfl);(case c=>(conv=>(lhs;cbv)));(case r=>(conv=>(lhs;cbv)));(case l=>exact Nat.le_of_ble_eq_true rfl))
 cases b
 all_goals
  (repeat' ((try conv=>whnf);first|(with_reducible first|refine wT ?_|refine wF ?_|(refine wI (fun hq=>?_) (fun hq=>?_) <;> try simp only [zA,zE,zD,zJ,zB,zI,wK,wL] at hq)|refine wA ?_|refine wB ?_|refine wC ?_|refine wD ?_|refine wE ?_)|((with_reducible refine wN ?_ ?_);focus exact needA)|(with_reducible refine wG ?_)|(refine FCall.pure ((within_ok _ _ _)) ⟨Ln.sameB _ rfl,Ln.sameB _ rfl,Ln.sameB _ rfl,True.intro⟩ rfl ?_)|(refine FCall.pure (hh) ⟨Ln.sameB _ rfl,Ln.sameB _ rfl,True.intro⟩ rfl ?_)|(refine FAlt.mk ?_ ?_)|(with_reducible refine wP ?_)))
 all_goals (try conv=>whnf)
 all_goals ((refine ⟨⟨_,[],[],Cut.nil _,Ln.sameB _ rfl,?_,rfl⟩⟩);refine bool_eq ?_;unfold canA Std.S Std.R;rw [decide_eq_true h1.1,decide_eq_true h1.2,hb];first|(simp;done)|(simp only [Bool.true_and,Bool.and_true];first|exact (decide_eq_true (by omega)).symm|exact (decide_eq_false (by omega)).symm|fail))
theorem refCan_f (f:StF) (s:Std) (hs:StdOk s) (i c:Nat) (t:Int) (hi:i < s.n) (hc:c < s.C) (h1:¬ ((s.sg.getD i sg0).from_ ≤ t ∧ t < (s.sg.getD i sg0).until_)):ACall Try.prog 25 [aStd f s,AI i,AI c,AI t] [] (fun r h=>r = .bool (canA s i t c) ∧ h = []):=by
 have h0:=hs.sg i hi
 have h2:=hs.rg c hc
 have h3:=hs.t
 have h8:=hs.t8
 unfold Std.S at h0
 unfold Std.R at h2
 have hi':i < s.sg.length:=hi
 have hc':c < s.rg.length:=hc
 (refine fcall_of mixed Try.func25 rfl (by decide) (hs:={ alt:=[(1,⟨[0,1,2,3,4,5,6,7,8,9],(.alt 10 [] (.alt 11 [] (.alt 12 [] (.alt 13 [] .leaf .leaf) .leaf) .leaf) (.alt 11 [] (.alt 10 [] (.alt 12 [] (.alt 13 [] .leaf .leaf) .leaf) .leaf) .leaf)),[(10,[1,4,6,9]),(11,[1,4,6,9]),(12,[6,9])]⟩)] }) ?k (ac:=?ac) ?c (rs:=?rs) ?r ?l ?H;(case k=>kernel_rfl);(case c=>(conv=>(lhs;cbv)));(case r=>(conv=>(lhs;cbv)));(case l=>exact Nat.le_of_ble_eq_true rfl))
 (repeat' ((try conv=>whnf);first|(with_reducible first|refine wT ?_|refine wF ?_|(refine wI (fun hq=>?_) (fun hq=>?_) <;> try simp only [zA,zE,zD,zJ,zB,zI,wK,wL] at hq)|refine wA ?_|refine wB ?_|refine wC ?_|refine wD ?_|refine wE ?_)|((with_reducible refine wN ?_ ?_);focus exact needA)|(with_reducible refine wG ?_)|(refine FCall.pure ((within_ok _ _ _)) ⟨Ln.sameB _ rfl,Ln.sameB _ rfl,Ln.sameB _ rfl,True.intro⟩ rfl ?_)|(refine FAlt.mk ?_ ?_)|(with_reducible refine wP ?_)))
 all_goals (try conv=>whnf)
 all_goals ((refine ⟨⟨_,[],[],Cut.nil _,Ln.sameB _ rfl,?_,rfl⟩⟩);refine bool_eq ?_;unfold canA Std.S Std.R;rw [eq_comm,Bool.and_eq_false_iff,Bool.and_eq_false_iff,Bool.and_eq_false_iff,decide_eq_false_iff_not,decide_eq_false_iff_not,decide_eq_false_iff_not];omega)
theorem refCan_ok (f:StF) (s:Std) (hs:StdOk s) (i c:Nat) (t:Int) (hi:i < s.n) (hc:c < s.C):ACall Try.prog 25 [aStd f s,AI i,AI c,AI t] [] (fun r h=>r = .bool (canA s i t c) ∧ h = []):=by
 by_cases h1:(s.sg.getD i sg0).from_ ≤ t ∧ t < (s.sg.getD i sg0).until_
 ·exact refCan_t _ f s hs i c t hi hc h1 rfl
 ·exact refCan_f f s hs i c t hi hc h1
theorem can_t (b:Bool) (f:StF) (s:Std) (hs:StdOk s) (i c:Nat) (t:Int) (hi:i < s.n) (hc:c < s.C) (h1:(s.sg.getD i sg0).from_ ≤ t ∧ t < (s.sg.getD i sg0).until_) (hb:(s.sg.getD i sg0).tongues.toNat.testBit (s.rg.getD c rg0).tongue.toNat = b):ACall Try.prog 37 [aStd f s,aSpot i t,AI c] [] (fun r h=>r = .bool (canA s i t c) ∧ h = []):=by
 have h0:=hs.sg i hi
 have h2:=hs.rg c hc
 have h3:=hs.t
 have h8:=hs.t8
 unfold Std.S at h0
 unfold Std.R at h2
 have hi':i < s.sg.length:=hi
 have hc':c < s.rg.length:=hc
 (refine fcall_of mixed Try.func37 rfl (by decide) (hs:={ alt:=[(1,⟨[0,1,2,3,4,5,6,7,8,9,10,11,12],(.alt 13 [] (.alt 14 [] (.alt 15 [] (.alt 16 [] .leaf .leaf) .leaf) .leaf) (.alt 14 [] (.alt 13 [] (.alt 15 [] (.alt 16 [] .leaf .leaf) .leaf) .leaf) .leaf)),[(13,[2,4,6,9,12]),(14,[2,4,6,9,12]),(15,[9,12])]⟩)] }) ?k (ac:=?ac) ?c (rs:=?rs) ?r ?l ?H;(case k=>kernel_rfl);(case c=>(conv=>(lhs;cbv)));(case r=>(conv=>(lhs;cbv)));(case l=>exact Nat.le_of_ble_eq_true rfl))
 cases b
 all_goals
  (repeat' ((try conv=>whnf);first|(with_reducible first|refine wT ?_|refine wF ?_|(refine wI (fun hq=>?_) (fun hq=>?_) <;> try simp only [zA,zE,zD,zJ,zB,zI,wK,wL] at hq)|refine wA ?_|refine wB ?_|refine wC ?_|refine wD ?_|refine wE ?_)|((with_reducible refine wN ?_ ?_);focus exact needA)|(with_reducible first|refine FBit.hasT rfl (by assumption) ?_|refine FBit.hasF rfl (by assumption) ?_|refine FBit.shrN rfl (by omega) ?_|refine FBit.half rfl ?_|refine FBit.shl1 rfl (by omega) ?_|refine Fits.inU (by omega) ?_|refine FBit.shrNI rfl (by omega) ?_|refine FBit.shrIN rfl (by omega) (by omega) ?_|refine FBit.shrI rfl (by omega) (by omega) ?_|refine FBit.shl1I rfl (by omega) ?_)|(with_reducible refine FBit.has rfl (fun hq=>?_) (fun hq=>?_))|(with_reducible first|refine FBit.and1 rfl ?_|refine FBit.andN rfl (by omega) (by omega) ?_|refine FBit.orN rfl (by omega) (by omega) ?_|refine FBit.andNotN rfl (by omega) (by omega) ?_)|(with_reducible refine wG ?_)|(refine FAlt.mk ?_ ?_)|(with_reducible refine wP ?_)))
 all_goals (try conv=>whnf)
 all_goals ((refine ⟨⟨_,[],[],Cut.nil _,Ln.sameB _ rfl,?_,rfl⟩⟩);refine bool_eq ?_;unfold canA Std.S Std.R;rw [decide_eq_true h1.1,decide_eq_true h1.2,hb];first|(simp;done)|(simp only [Bool.true_and,Bool.and_true];first|exact (decide_eq_true (by omega)).symm|exact (decide_eq_false (by omega)).symm|fail))
theorem can_f (f:StF) (s:Std) (hs:StdOk s) (i c:Nat) (t:Int) (hi:i < s.n) (hc:c < s.C) (h1:¬ ((s.sg.getD i sg0).from_ ≤ t ∧ t < (s.sg.getD i sg0).until_)):ACall Try.prog 37 [aStd f s,aSpot i t,AI c] [] (fun r h=>r = .bool (canA s i t c) ∧ h = []):=by
 have h0:=hs.sg i hi
 have h2:=hs.rg c hc
 have h3:=hs.t
 have h8:=hs.t8
 unfold Std.S at h0
 unfold Std.R at h2
 have hi':i < s.sg.length:=hi
 have hc':c < s.rg.length:=hc
 (refine fcall_of mixed Try.func37 rfl (by decide) (hs:={ alt:=[(1,⟨[0,1,2,3,4,5,6,7,8,9,10,11,12],(.alt 13 [] (.alt 14 [] (.alt 15 [] (.alt 16 [] .leaf .leaf) .leaf) .leaf) (.alt 14 [] (.alt 13 [] (.alt 15 [] (.alt 16 [] .leaf .leaf) .leaf) .leaf) .leaf)),[(13,[2,4,6,9,12]),(14,[2,4,6,9,12]),(15,[9,12])]⟩)] }) ?k (ac:=?ac) ?c (rs:=?rs) ?r ?l ?H;(case k=>kernel_rfl);(case c=>(conv=>(lhs;cbv)));(case r=>(conv=>(lhs;cbv)));(case l=>exact Nat.le_of_ble_eq_true rfl))
 (repeat' ((try conv=>whnf);first|(with_reducible first|refine wT ?_|refine wF ?_|(refine wI (fun hq=>?_) (fun hq=>?_) <;> try simp only [zA,zE,zD,zJ,zB,zI,wK,wL] at hq)|refine wA ?_|refine wB ?_|refine wC ?_|refine wD ?_|refine wE ?_)|((with_reducible refine wN ?_ ?_);focus exact needA)|(with_reducible refine wG ?_)|(refine FAlt.mk ?_ ?_)|(with_reducible refine wP ?_)))
 all_goals (try conv=>whnf)
 all_goals ((refine ⟨⟨_,[],[],Cut.nil _,Ln.sameB _ rfl,?_,rfl⟩⟩);refine bool_eq ?_;unfold canA Std.S Std.R;rw [eq_comm,Bool.and_eq_false_iff,Bool.and_eq_false_iff,Bool.and_eq_false_iff,decide_eq_false_iff_not,decide_eq_false_iff_not,decide_eq_false_iff_not];omega)
theorem can_ok (f:StF) (s:Std) (hs:StdOk s) (i c:Nat) (t:Int) (hi:i < s.n) (hc:c < s.C):ACall Try.prog 37 [aStd f s,aSpot i t,AI c] [] (fun r h=>r = .bool (canA s i t c) ∧ h = []):=by
 by_cases h1:(s.sg.getD i sg0).from_ ≤ t ∧ t < (s.sg.getD i sg0).until_
 ·exact can_t _ f s hs i c t hi hc h1 rfl
 ·exact can_f f s hs i c t hi hc h1
/-- A call counts. -/
def counts (s:Std) (u:Bool) (c:Nat):Bool:=(s.R c).urg || !u
end Go.Proofs.Ytjfldbkjfaopbaa.Q

namespace Go.Proofs.Ytjfldbkjfaopbaa.Q
open Go.RowKit

theorem head_d {s:Std}:s.head = true ↔ (1 ≤ s.times ∧ s.times ≤ 8) ∧ (1 ≤ (s.sg.length:Int) ∧ (s.sg.length:Int) ≤ 4) ∧ (s.rg.length:Int) ≤ 12:=by
 unfold Std.head
 simp only [inB,Bool.and_eq_true,decide_eq_true_eq,and_assoc]
theorem check_head {s:Std} (h:s.head = false):checkS s = 60:=check_60 (by unfold Std.ok;rw [h];rfl)
theorem check_sg {s:Std} (h:s.sg.all (Sgn.ok s.times) = false):checkS s = 60:=check_60 (by unfold Std.ok;rw [h,Bool.and_false];rfl)
theorem check_rg {s:Std} (h:s.rg.all (Rng.ok s.times) = false):checkS s = 60:=check_60 (by unfold Std.ok;rw [h,Bool.and_false])
theorem sgn_no {t:Int} {x:Sgn} (h:¬ ((0 ≤ x.tongues ∧ x.tongues ≤ 31) ∧ (0 ≤ x.from_ ∧ x.from_ ≤ x.until_) ∧ x.until_ ≤ t)):x.ok t = false:=by
 rw [Bool.eq_false_iff];intro hh
 unfold Sgn.ok at hh
 simp only [inB,Bool.and_eq_true,decide_eq_true_eq] at hh
 omega
theorem sgn_yes {t:Int} {x:Sgn} (h:(0 ≤ x.tongues ∧ x.tongues ≤ 31) ∧ (0 ≤ x.from_ ∧ x.from_ ≤ x.until_) ∧ x.until_ ≤ t):x.ok t = true:=by
 unfold Sgn.ok
 simp only [inB,Bool.and_eq_true,decide_eq_true_eq]
 omega
theorem rng_no {t:Int} {x:Rng} (h:¬ ((0 ≤ x.tongue ∧ x.tongue ≤ 4) ∧ 0 ≤ x.at_ ∧ x.at_ ≤ t - 1)):x.ok t = false:=by
 rw [Bool.eq_false_iff];intro hh
 unfold Rng.ok at hh
 simp only [inB,Bool.and_eq_true,decide_eq_true_eq] at hh
 omega
theorem rng_yes {t:Int} {x:Rng} (h:(0 ≤ x.tongue ∧ x.tongue ≤ 4) ∧ 0 ≤ x.at_ ∧ x.at_ ≤ t - 1):x.ok t = true:=by
 unfold Rng.ok
 simp only [inB,Bool.and_eq_true,decide_eq_true_eq]
 omega
set_option maxHeartbeats 4000000
set_option maxRecDepth 100000
theorem refCheck_ok (f:StF) (s:Std) (hn:NearS s):ACall Try.prog 11 [aStd f s] [] (fun r h=>r = AI (checkS s) ∧ h = []):=by
 have n1:=hn.n
 have n2:=hn.c
 (refine fcall_of mixed Try.func11 rfl (by decide) (hs:={}) ?k (ac:=?ac) ?c (rs:=?rs) ?r ?l ?H;(case k=>kernel_rfl);(case c=>(conv=>(lhs;cbv)));(case r=>(conv=>(lhs;cbv)));(case l=>exact Nat.le_of_ble_eq_true rfl))
 (repeat' ((try conv=>whnf);first|(with_reducible first|refine wT ?_|refine wF ?_|(refine wI (fun hq=>?_) (fun hq=>?_) <;> try simp only [zA,zE,zD,zJ,zB,zI,wK,wL] at hq)|refine wA ?_|refine wB ?_|refine wC ?_|refine wD ?_|refine wE ?_)|((with_reducible refine wN ?_ ?_);focus exact needA)|(with_reducible refine wG ?_)|(refine FCall.pure ((within_ok _ _ _)) ⟨Ln.sameB _ rfl,Ln.sameB _ rfl,Ln.sameB _ rfl,True.intro⟩ rfl ?_)|(with_reducible refine wP ?_)))
 all_goals (try conv=>whnf)
 all_goals (try ((refine ⟨⟨_,[],[],Cut.nil _,Ln.sameB _ rfl,?_,rfl⟩⟩);rw [check_head (Bool.eq_false_iff.2 fun h=>by have:=head_d.1 h;omega)];done))
 have hh:s.head = true:=head_d.2 (by omega)
 refine FLoop.of (ACalls.mono _) (X:=Nat) (fun i=>[(1,.ptr 0 0),(3,AI i)]) (fun _=>[.box 3 (cStd f s)]) (fun i=>i ≤ s.sg.length ∧ s.sg.all (Sgn.ok s.times) = (s.sg.drop i).all (Sgn.ok s.times)) (fun i=>s.sg.length - i) 0 ⟨⟨Nat.zero_le _,rfl⟩,[0],Cut.A,allA⟩ ?_
 rintro i ⟨hi,hL⟩
 by_cases hlt:i < s.sg.length
 ·(repeat' ((try conv=>whnf);first|(with_reducible first|refine wT ?_|refine wF ?_|(refine wI (fun hq=>?_) (fun hq=>?_) <;> try simp only [zA,zE,zD,zJ,zB,zI,wK,wL] at hq)|refine wA ?_|refine wB ?_|refine wC ?_|refine wD ?_|refine wE ?_)|((with_reducible refine wN ?_ ?_);focus exact needA)|(with_reducible refine wG ?_)|(refine FCall.pure ((within_ok _ _ _)) ⟨Ln.sameB _ rfl,Ln.sameB _ rfl,Ln.sameB _ rfl,True.intro⟩ rfl ?_)|(with_reducible refine wP ?_)))
  all_goals (try conv=>whnf)
  all_goals (try ((refine ⟨⟨_,[],[],Cut.nil _,Ln.sameB _ rfl,?_,rfl⟩⟩);rw [check_sg (all_no sg0 hlt hL (sgn_no (by omega)))];done))
  (exact ⟨⟨(i + 1),⟨hlt,all_step sg0 hlt hL (sgn_yes (by omega))⟩,by show _ < _;omega,[0],Cut.A,allA⟩⟩)
 ·have hA:=all_end (by omega) hL
  (repeat' ((try conv=>whnf);first|(with_reducible first|refine wT ?_|refine wF ?_|(refine wI (fun hq=>?_) (fun hq=>?_) <;> try simp only [zA,zE,zD,zJ,zB,zI,wK,wL] at hq)|refine wA ?_|refine wB ?_|refine wC ?_|refine wD ?_|refine wE ?_)|((with_reducible refine wN ?_ ?_);focus exact needA)|(with_reducible refine wG ?_)|(with_reducible refine wP ?_)))
  all_goals (try conv=>whnf)
  refine FLoop.of (ACalls.mono _) (X:=Nat) (fun i=>[(1,.ptr 0 0),(5,AI i)]) (fun _=>[.box 3 (cStd f s)]) (fun i=>i ≤ s.rg.length ∧ s.rg.all (Rng.ok s.times) = (s.rg.drop i).all (Rng.ok s.times)) (fun i=>s.rg.length - i) 0 ⟨⟨Nat.zero_le _,rfl⟩,[0],Cut.A,allA⟩ ?_
  rintro i ⟨hi,hL⟩
  by_cases hlt:i < s.rg.length
  ·(repeat' ((try conv=>whnf);first|(with_reducible first|refine wT ?_|refine wF ?_|(refine wI (fun hq=>?_) (fun hq=>?_) <;> try simp only [zA,zE,zD,zJ,zB,zI,wK,wL] at hq)|refine wA ?_|refine wB ?_|refine wC ?_|refine wD ?_|refine wE ?_)|((with_reducible refine wN ?_ ?_);focus exact needA)|(with_reducible refine wG ?_)|(refine FCall.pure ((within_ok _ _ _)) ⟨Ln.sameB _ rfl,Ln.sameB _ rfl,Ln.sameB _ rfl,True.intro⟩ rfl ?_)|(with_reducible refine wP ?_)))
   all_goals (try conv=>whnf)
   all_goals (try ((refine ⟨⟨_,[],[],Cut.nil _,Ln.sameB _ rfl,?_,rfl⟩⟩);rw [check_rg (all_no rg0 hlt hL (rng_no (by omega)))];done))
   (exact ⟨⟨(i + 1),⟨hlt,all_step rg0 hlt hL (rng_yes (by omega))⟩,by show _ < _;omega,[0],Cut.A,allA⟩⟩)
  ·have hB:=all_end (by omega) hL
   (repeat' ((try conv=>whnf);first|(with_reducible first|refine wT ?_|refine wF ?_|(refine wI (fun hq=>?_) (fun hq=>?_) <;> try simp only [zA,zE,zD,zJ,zB,zI,wK,wL] at hq)|refine wA ?_|refine wB ?_|refine wC ?_|refine wD ?_|refine wE ?_)|((with_reducible refine wN ?_ ?_);focus exact needA)|(with_reducible refine wG ?_)|(with_reducible refine wP ?_)))
   all_goals (try conv=>whnf)
   (refine ⟨⟨_,[],[],Cut.nil _,Ln.sameB _ rfl,?_,rfl⟩⟩)
   rw [check_0.2 (by unfold Std.ok;rw [hh,hA,hB];rfl)]
theorem check_ok (f:StF) (s:Std) (hn:NearS s):ACall Try.prog 23 [aStd f s] [] (fun r h=>r = AI (checkS s) ∧ h = []):=by
 have n1:=hn.n
 have n2:=hn.c
 (refine fcall_of mixed Try.func23 rfl (by decide) (hs:={}) ?k (ac:=?ac) ?c (rs:=?rs) ?r ?l ?H;(case k=>kernel_rfl);(case c=>(conv=>(lhs;cbv)));(case r=>(conv=>(lhs;cbv)));(case l=>exact Nat.le_of_ble_eq_true rfl))
 (repeat' ((try conv=>whnf);first|(with_reducible first|refine wT ?_|refine wF ?_|(refine wI (fun hq=>?_) (fun hq=>?_) <;> try simp only [zA,zE,zD,zJ,zB,zI,wK,wL] at hq)|refine wA ?_|refine wB ?_|refine wC ?_|refine wD ?_|refine wE ?_)|((with_reducible refine wN ?_ ?_);focus exact needA)|(with_reducible refine wG ?_)|(with_reducible refine wP ?_)))
 all_goals (try conv=>whnf)
 refine FLoop.of (ACalls.mono _) (X:=Nat) (fun i=>[(1,.ptr 0 0),(3,.fn 34 0 (ofL [])),(9,aSgns f.zs f.es s.sg),(10,AI s.sg.length),(11,AI i)]) (fun _=>[.box 3 (cStd f s)]) (fun i=>i ≤ s.sg.length ∧ s.sg.all (Sgn.ok s.times) = (s.sg.drop i).all (Sgn.ok s.times)) (fun i=>s.sg.length - i) 0 ⟨⟨Nat.zero_le _,rfl⟩,[0],Cut.A,allA⟩ ?_
 rintro i ⟨hi,hL⟩
 by_cases hlt:i < s.sg.length
 ·(repeat' ((try conv=>whnf);first|(with_reducible first|refine wT ?_|refine wF ?_|(refine wI (fun hq=>?_) (fun hq=>?_) <;> try simp only [zA,zE,zD,zJ,zB,zI,wK,wL] at hq)|refine wA ?_|refine wB ?_|refine wC ?_|refine wD ?_|refine wE ?_)|((with_reducible refine wN ?_ ?_);focus exact needA)|(with_reducible refine wG ?_)|(refine FCall.pure ((from_ok _ _ _)) ⟨Ln.sameB _ rfl,Ln.sameB _ rfl,Ln.sameB _ rfl,True.intro⟩ rfl ?_)|(with_reducible refine wP ?_)))
  all_goals (try conv=>whnf)
  all_goals (try ((refine ⟨⟨_,[],[],Cut.nil _,Ln.sameB _ rfl,?_,rfl⟩⟩);rw [check_sg (all_no sg0 hlt hL (sgn_no (by omega)))];done))
  (exact ⟨⟨(i + 1),⟨hlt,all_step sg0 hlt hL (sgn_yes (by omega))⟩,by show _ < _;omega,[0],Cut.A,allA⟩⟩)
 ·have hA:=all_end (by omega) hL
  (repeat' ((try conv=>whnf);first|(with_reducible first|refine wT ?_|refine wF ?_|(refine wI (fun hq=>?_) (fun hq=>?_) <;> try simp only [zA,zE,zD,zJ,zB,zI,wK,wL] at hq)|refine wA ?_|refine wB ?_|refine wC ?_|refine wD ?_|refine wE ?_)|((with_reducible refine wN ?_ ?_);focus exact needA)|(with_reducible refine wG ?_)|(with_reducible refine wP ?_)))
  all_goals (try conv=>whnf)
  by_cases hh:s.head = true
  ·have hd:=head_d.1 hh
   refine FLoop.of (ACalls.mono _) (X:=Nat) (fun i=>[(1,.ptr 0 0),(3,.fn 34 0 (ofL [])),(38,aRngs f.zr f.er s.rg),(39,AI s.rg.length),(40,AI i)]) (fun _=>[.box 3 (cStd f s)]) (fun i=>i ≤ s.rg.length ∧ s.rg.all (Rng.ok s.times) = (s.rg.drop i).all (Rng.ok s.times)) (fun i=>s.rg.length - i) 0 ⟨⟨Nat.zero_le _,rfl⟩,[0],Cut.A,allA⟩ ?_
   rintro i ⟨hi,hL⟩
   by_cases hlt:i < s.rg.length
   ·(repeat' ((try conv=>whnf);first|(with_reducible first|refine wT ?_|refine wF ?_|(refine wI (fun hq=>?_) (fun hq=>?_) <;> try simp only [zA,zE,zD,zJ,zB,zI,wK,wL] at hq)|refine wA ?_|refine wB ?_|refine wC ?_|refine wD ?_|refine wE ?_)|((with_reducible refine wN ?_ ?_);focus exact needA)|(with_reducible refine wG ?_)|(refine FCall.pure ((from_ok _ _ _)) ⟨Ln.sameB _ rfl,Ln.sameB _ rfl,Ln.sameB _ rfl,True.intro⟩ rfl ?_)|(with_reducible refine wP ?_)))
    all_goals (try conv=>whnf)
    all_goals (try ((refine ⟨⟨_,[],[],Cut.nil _,Ln.sameB _ rfl,?_,rfl⟩⟩);rw [check_rg (all_no rg0 hlt hL (rng_no (by omega)))];done))
    (exact ⟨⟨(i + 1),⟨hlt,all_step rg0 hlt hL (rng_yes (by omega))⟩,by show _ < _;omega,[0],Cut.A,allA⟩⟩)
   ·have hB:=all_end (by omega) hL
    (repeat' ((try conv=>whnf);first|(with_reducible first|refine wT ?_|refine wF ?_|(refine wI (fun hq=>?_) (fun hq=>?_) <;> try simp only [zA,zE,zD,zJ,zB,zI,wK,wL] at hq)|refine wA ?_|refine wB ?_|refine wC ?_|refine wD ?_|refine wE ?_)|((with_reducible refine wN ?_ ?_);focus exact needA)|(with_reducible refine wG ?_)|(refine FCall.pure ((from_ok _ _ _)) ⟨Ln.sameB _ rfl,Ln.sameB _ rfl,Ln.sameB _ rfl,True.intro⟩ rfl ?_)|(with_reducible refine wP ?_)))
    all_goals (try conv=>whnf)
    (refine ⟨⟨_,[],[],Cut.nil _,Ln.sameB _ rfl,?_,rfl⟩⟩)
    rw [check_0.2 (by unfold Std.ok;rw [hh,hA,hB];rfl)]
  ·have hd:¬ ((1 ≤ s.times ∧ s.times ≤ 8) ∧ (1 ≤ (s.sg.length:Int) ∧ (s.sg.length:Int) ≤ 4) ∧ (s.rg.length:Int) ≤ 12):=fun h=>hh (head_d.2 h)
   have hk:=check_head (Bool.eq_false_iff.2 hh)
   refine FLoop.of (ACalls.mono _) (X:=Nat) (fun i=>[(1,.ptr 0 0),(3,.fn 34 0 (ofL [])),(38,aRngs f.zr f.er s.rg),(39,AI s.rg.length),(40,AI i)]) (fun _=>[.box 3 (cStd f s)]) (fun i=>i ≤ s.rg.length) (fun i=>s.rg.length - i) 0 ⟨Nat.zero_le _,[0],Cut.A,allA⟩ ?_
   intro i hi
   by_cases hlt:i < s.rg.length
   ·(repeat' ((try conv=>whnf);first|(with_reducible first|refine wT ?_|refine wF ?_|(refine wI (fun hq=>?_) (fun hq=>?_) <;> try simp only [zA,zE,zD,zJ,zB,zI,wK,wL] at hq)|refine wA ?_|refine wB ?_|refine wC ?_|refine wD ?_|refine wE ?_)|((with_reducible refine wN ?_ ?_);focus exact needA)|(with_reducible refine wG ?_)|(refine FCall.pure ((from_ok _ _ _)) ⟨Ln.sameB _ rfl,Ln.sameB _ rfl,Ln.sameB _ rfl,True.intro⟩ rfl ?_)|(refine Fits.any ?_)|(with_reducible refine wP ?_)))
    all_goals (try conv=>whnf)
    all_goals (try ((refine ⟨⟨_,[],[],Cut.nil _,Ln.sameB _ rfl,?_,rfl⟩⟩);rw [hk];done))
    all_goals (exact ⟨⟨(i + 1),hlt,by show _ < _;omega,[0],Cut.A,allA⟩⟩)
   ·(repeat' ((try conv=>whnf);first|(with_reducible first|refine wT ?_|refine wF ?_|(refine wI (fun hq=>?_) (fun hq=>?_) <;> try simp only [zA,zE,zD,zJ,zB,zI,wK,wL] at hq)|refine wA ?_|refine wB ?_|refine wC ?_|refine wD ?_|refine wE ?_)|((with_reducible refine wN ?_ ?_);focus exact needA)|(with_reducible refine wG ?_)|(refine FCall.pure ((from_ok _ _ _)) ⟨Ln.sameB _ rfl,Ln.sameB _ rfl,Ln.sameB _ rfl,True.intro⟩ rfl ?_)|(with_reducible refine wP ?_)))
    all_goals (try conv=>whnf)
    all_goals ((refine ⟨⟨_,[],[],Cut.nil _,Ln.sameB _ rfl,?_,rfl⟩⟩);rw [hk])
/-- The spots up to a time. -/
def spL (T m:Nat):List (Nat × Nat):=(List.range m).map (sp T)
theorem spL_len (T m:Nat):(spL T m).length = m:=by simp [spL]
theorem spL_get {T m k:Nat} (h:k < m):(spL T m).getD k (0,0) = sp T k:=by simp [spL,List.getD,h]
abbrev aSpots (z e:Bool) (T m:Nat):AV:=.sl z e m 2 (fun k=>cSpot ((sp T k).1:Int) ((sp T k).2:Int))
theorem sp_mul {T i t:Nat} (ht:t < T):sp T (i * T + t) = (i,t):=by
 unfold sp
 have hT:0 < T:=by omega
 rw [Nat.mul_comm,Nat.mul_add_div hT,Nat.div_eq_of_lt ht,Nat.add_zero,Nat.mul_add_mod,Nat.mod_eq_of_lt ht]
def gSpot (T:Nat) (k:Nat):Nat → AV:=cSpot ((sp T k).1:Int) ((sp T k).2:Int)
def oSp : Nat → AV
 | 0=>nilS
 | m + 1=>.own 0 (m + 1)
def hSp (T:Nat):Nat → List AB
 | 0=>[]
 | m + 1=>[.row (m + 1) 2 (gSpot T)]
theorem spots_ok (f:StF) (s:Std) (l T:Nat) (hT:T = l + 1) (h8:T ≤ 8) (h1:1 ≤ s.n) (h4:s.n ≤ 4):ACall Try.prog 35 [aStd f s,AI l] [] (fun r h=>r = aSpots false false T (s.n * T) ∧ h = []):=by
 unfold Std.n at h1 h4
 (refine fcall_of mixed Try.func35 rfl (by decide) (hs:={}) ?k (ac:=?ac) ?c (rs:=?rs) ?r ?l ?H;(case k=>kernel_rfl);(case c=>(conv=>(lhs;cbv)));(case r=>(conv=>(lhs;cbv)));(case l=>exact Nat.le_of_ble_eq_true rfl))
 (repeat' ((try conv=>whnf);first|(with_reducible first|refine wT ?_|refine wF ?_|(refine wI (fun hq=>?_) (fun hq=>?_) <;> try simp only [zA,zE,zD,zJ,zB,zI,wK,wL] at hq)|refine wA ?_|refine wB ?_|refine wC ?_|refine wD ?_|refine wE ?_)|((with_reducible refine wN ?_ ?_);focus exact needA)|(with_reducible refine wG ?_)|(with_reducible refine wP ?_)))
 all_goals (try conv=>whnf)
 refine FLoop.of (ACalls.mono _) (X:=Nat × Nat) (fun x=>[(1,AI l),(5,oSp x.2),(11,AI s.sg.length),(12,AI x.1)]) (fun x=>hSp T x.2) (fun x=>x.1 ≤ s.sg.length ∧ x.2 = x.1 * T) (fun x=>s.sg.length - x.1) (0,0) ⟨⟨Nat.zero_le _,(Nat.zero_mul T).symm⟩,[],Cut.A,allA⟩ ?_
 rintro ⟨i,m⟩ ⟨hi,hm⟩
 simp only at hi hm
 by_cases hlt:i < s.sg.length
 ·have hmT:m + T ≤ 4 * T:=by rw [hm,← Nat.succ_mul];exact Nat.mul_le_mul_right _ (by omega)
  cases m
  all_goals
   (repeat' ((try conv=>whnf);first|(with_reducible first|refine wT ?_|refine wF ?_|(refine wI (fun hq=>?_) (fun hq=>?_) <;> try simp only [zA,zE,zD,zJ,zB,zI,wK,wL] at hq)|refine wA ?_|refine wB ?_|refine wC ?_|refine wD ?_|refine wE ?_)|((with_reducible refine wN ?_ ?_);focus exact needA)|(with_reducible refine wG ?_)|(with_reducible refine wP ?_)))
   all_goals (try conv=>whnf)
  case' zero=>refine FLoop.of (ACalls.mono _) (X:=Nat × Nat) (fun x=>[(1,AI l),(5,oSp x.2),(6,AI i),(11,AI s.sg.length),(12,AI i),(16,AI (l + 1)),(17,AI x.1)]) (fun x=>hSp T x.2) (fun x=>x.1 ≤ T ∧ x.2 = i * T + x.1) (fun x=>T - x.1) (0,0) ⟨⟨Nat.zero_le _,by simp only;omega⟩,[],Cut.A,allA⟩ ?_
  case' succ k=>refine FLoop.of (ACalls.mono _) (X:=Nat × Nat) (fun x=>[(1,AI l),(5,oSp x.2),(6,AI i),(11,AI s.sg.length),(12,AI i),(16,AI (l + 1)),(17,AI x.1)]) (fun x=>hSp T x.2) (fun x=>x.1 ≤ T ∧ x.2 = i * T + x.1) (fun x=>T - x.1) (0,k + 1) ⟨⟨Nat.zero_le _,by simp only;omega⟩,[0],Cut.A,allA⟩ ?_
  all_goals
   rintro ⟨t,m'⟩ ⟨ht,hm'⟩
   simp only at ht hm'
   by_cases hlt2:t < T
   ·have hsp:∀ o,o < 2 → gSpot T m' o = elemC (.agg 2 (ofL [AI i,AI t])) o:=fun o _=>by
     unfold gSpot
     rw [hm',sp_mul hlt2];rfl
    cases m'
    ·(repeat' ((try conv=>whnf);first|(with_reducible first|refine wT ?_|refine wF ?_|(refine wI (fun hq=>?_) (fun hq=>?_) <;> try simp only [zA,zE,zD,zJ,zB,zI,wK,wL] at hq)|refine wA ?_|refine wB ?_|refine wC ?_|refine wD ?_|refine wE ?_)|((with_reducible refine wN ?_ ?_);focus exact needA)|(with_reducible refine wG ?_)|(with_reducible refine wP ?_)))
     all_goals (try conv=>whnf)
     (exact ⟨⟨(t + 1,1),⟨hlt2,by simp only;omega⟩,by show _ < _;simp only;omega,[0],(by (refine wO rfl rfl rfl ?_;repeat (first|exact wX|(refine wV rfl (by first|exact LnB.rowS|exact LnB.app (fun k hk=>absurd hk (Nat.not_lt_zero k)) hsp|exact LnB.A) ?_)|(refine CutL.gone (Nat.lt_of_lt_of_le (Nat.lt_succ_self _) (Nat.le_of_ble_eq_true rfl)) ?_)))),allA⟩⟩)
    ·rename_i k'
     (repeat' ((try conv=>whnf);first|(with_reducible first|refine wT ?_|refine wF ?_|(refine wI (fun hq=>?_) (fun hq=>?_) <;> try simp only [zA,zE,zD,zJ,zB,zI,wK,wL] at hq)|refine wA ?_|refine wB ?_|refine wC ?_|refine wD ?_|refine wE ?_)|((with_reducible refine wN ?_ ?_);focus exact needA)|(with_reducible refine wG ?_)|(with_reducible refine wP ?_)))
     all_goals (try conv=>whnf)
     (exact ⟨⟨(t + 1,k' + 2),⟨hlt2,by simp only;omega⟩,by show _ < _;simp only;omega,[1],(by (refine wO rfl rfl rfl ?_;repeat (first|exact wX|(refine wV rfl (by first|exact LnB.rowS|exact LnB.app (fun _ _ _ _=>rfl) hsp|exact LnB.A) ?_)|(refine CutL.gone (Nat.lt_of_lt_of_le (Nat.lt_succ_self _) (Nat.le_of_ble_eq_true rfl)) ?_)))),allA⟩⟩)
   ·have he:m' = (i + 1) * T:=by rw [hm',Nat.succ_mul];omega
    cases m'
    ·have:0 < (i + 1) * T:=Nat.mul_pos (by omega) (by omega)
     omega
    ·rename_i k'
     (repeat' ((try conv=>whnf);first|(with_reducible first|refine wT ?_|refine wF ?_|(refine wI (fun hq=>?_) (fun hq=>?_) <;> try simp only [zA,zE,zD,zJ,zB,zI,wK,wL] at hq)|refine wA ?_|refine wB ?_|refine wC ?_|refine wD ?_|refine wE ?_)|((with_reducible refine wN ?_ ?_);focus exact needA)|(with_reducible refine wG ?_)|(with_reducible refine wP ?_)))
     all_goals (try conv=>whnf)
     (exact ⟨⟨(i + 1,k' + 1),⟨hlt,he⟩,by show _ < _;simp only;omega,[0],Cut.A,allA⟩⟩)
 ·obtain rfl:i = s.sg.length:=by omega
  have hpos:1 ≤ m:=by rw [hm];exact Nat.mul_pos (by omega) (by omega)
  obtain ⟨k,rfl⟩:∃ k,m = k + 1:=⟨m - 1,by omega⟩
  (repeat' ((try conv=>whnf);first|(with_reducible first|refine wT ?_|refine wF ?_|(refine wI (fun hq=>?_) (fun hq=>?_) <;> try simp only [zA,zE,zD,zJ,zB,zI,wK,wL] at hq)|refine wA ?_|refine wB ?_|refine wC ?_|refine wD ?_|refine wE ?_)|((with_reducible refine wN ?_ ?_);focus exact needA)|(with_reducible refine wG ?_)|(with_reducible refine wP ?_)))
  all_goals (try conv=>whnf)
  exact ⟨⟨_,[],[],Cut.nil _,Ln.pubE (goneB rfl) rfl (Nat.le_refl _) hm (fun _ _ _ _=>rfl),rfl,rfl⟩⟩
end Go.Proofs.Ytjfldbkjfaopbaa.Q

namespace Go.Proofs.Ytjfldbkjfaopbaa.Q
open Go.RowKit Go.Shelf

abbrev AU (n:Nat):AV:=.int .u64 n
abbrev cStp (x:Stp):Nat → AV:=ofL [AI x.w.u,AI x.w.o,AI x.call,.bool x.never]
abbrev aSteps (z e:Bool) (n:Nat) (b:Nat → Stp):AV:=.sl z e n 4 (fun k=>cStp (b k))
theorem FBit.lo32 {m:Nat} {K:Int → Prop} (hm:m ≤ 4294967295) (h:K (m:Int)):FBit .and .u64 (m:Int) 4294967295 K:=by
 refine FBit.andI rfl rfl (b:=4294967295) rfl (by omega) (by omega) ?_
 have:m &&& 4294967295 = m:=by
  rw [show (4294967295:Nat) = 2 ^ 32 - 1 by rfl,Nat.and_two_pow_sub_one_eq_mod]
  exact Nat.mod_eq_of_lt (by omega)
 rw [this];exact h
theorem FBit.hi32 {x:Int} {K:Int → Prop} (hm:0 ≤ x ∧ x ≤ 4294967295) (h:K 0):FBit .shr .u64 x 32 K:=by
 refine FBit.shrI rfl hm.1 (by omega) ?_
 have:x.toNat >>> (32:Int).toNat = 0:=by
  rw [Nat.shiftRight_eq_div_pow]
  exact Nat.div_eq_of_lt (by show x.toNat < 4294967296;omega)
 rw [this];exact h
theorem FBit.lo32I {x:Int} {K:Int → Prop} (hm:0 ≤ x ∧ x ≤ 4294967295) (h:K x):FBit .and .u64 x 4294967295 K:=by
 have:=FBit.lo32 (m:=x.toNat) (K:=K) (by omega) (by rwa [Int.toNat_of_nonneg hm.1])
 rwa [Int.toNat_of_nonneg hm.1] at this
set_option maxHeartbeats 4000000
set_option maxRecDepth 100000
theorem mul64_ok (n:Nat) (hn:n ≤ 1000):ACall Try.prog 63 [AU 1,AU n] [] (fun r h=>r = .tup 2 (ofL [.int .u64 0,AU n]) ∧ h = []):=by
 (refine fcall_of mixed Try.func63 rfl (by decide) (hs:={}) ?k (ac:=?ac) ?c (rs:=?rs) ?r ?l ?H;(case k=>kernel_rfl);(case c=>(conv=>(lhs;cbv)));(case r=>(conv=>(lhs;cbv)));(case l=>exact Nat.le_of_ble_eq_true rfl))
 (repeat' ((try conv=>whnf);first|(with_reducible first|refine wT ?_|refine wF ?_|(refine wI (fun hq=>?_) (fun hq=>?_) <;> try simp only [zA,zE,zD,zJ,zB,zI,wK,wL] at hq)|refine wA ?_|refine wB ?_|refine wC ?_|refine wD ?_|refine wE ?_)|((with_reducible refine wN ?_ ?_);focus exact needA)|(with_reducible refine wG ?_)|(with_reducible first|refine FBit.lo32I (by omega) ?_|refine FBit.hi32 (by omega) ?_|refine Fits.inU (by omega) ?_)|(with_reducible refine wP ?_)))
 all_goals (try conv=>whnf)
 refine ⟨⟨_,[],[],Cut.nil _,allA,?_,rfl⟩⟩
 show AV.tup 2 (ofL [AV.int .u64 _,AV.int .u64 (((1:Nat):Int) * (n:Int))]) = _
 rw [show ((1:Nat):Int) * (n:Int) = n by omega];rfl
theorem mul_ok (n:Nat) (hn:n ≤ 1000):ACall Try.prog 49 [AU 1,AU n] [] (fun r h=>r = .tup 2 (ofL [.int .u64 0,AU n]) ∧ h = []):=by
 (refine fcall_of mixed Try.func49 rfl (by decide) (hs:={}) ?k (ac:=?ac) ?c (rs:=?rs) ?r ?l ?H;(case k=>kernel_rfl);(case c=>(conv=>(lhs;cbv)));(case r=>(conv=>(lhs;cbv)));(case l=>exact Nat.le_of_ble_eq_true rfl))
 (repeat' ((try conv=>whnf);first|(with_reducible first|refine wT ?_|refine wF ?_|(refine wI (fun hq=>?_) (fun hq=>?_) <;> try simp only [zA,zE,zD,zJ,zB,zI,wK,wL] at hq)|refine wA ?_|refine wB ?_|refine wC ?_|refine wD ?_|refine wE ?_)|((with_reducible refine wN ?_ ?_);focus exact needA)|(with_reducible refine wG ?_)|(refine FCall.pure ((mul64_ok n hn)) ⟨Ln.sameB _ rfl,Ln.sameB _ rfl,True.intro⟩ rfl ?_)|(with_reducible refine wP ?_)))
 all_goals (try conv=>whnf)
 (refine ⟨⟨_,[],[],Cut.nil _,Ln.sameB _ rfl,?_,rfl⟩⟩)
 rfl
/-- A row of answers. -/
def rowA (C:Nat) (a:Nat → Anr):AB:=.row C 2 (fun k=>cAn (a k))
theorem repeat_ok (c:Nat → Nat → AV) (n:Nat) (hc:∀ o,o < 2 → c 0 o = cAn na o) (hn:n ≤ 1000):ACall Try.prog 40 [.sl false true 1 2 c,AI n] [] (fun r h=>r = .own 0 n ∧ h = [rowA n (fun _=>na)]):=by
 (refine fcall_of mixed Try.func40 rfl (by decide) (hs:={}) ?k (ac:=?ac) ?c (rs:=?rs) ?r ?l ?H;(case k=>kernel_rfl);(case c=>(conv=>(lhs;cbv)));(case r=>(conv=>(lhs;cbv)));(case l=>exact Nat.le_of_ble_eq_true rfl))
 (repeat' ((try conv=>whnf);first|(with_reducible first|refine wT ?_|refine wF ?_|(refine wI (fun hq=>?_) (fun hq=>?_) <;> try simp only [zA,zE,zD,zJ,zB,zI,wK,wL] at hq)|refine wA ?_|refine wB ?_|refine wC ?_|refine wD ?_|refine wE ?_)|((with_reducible refine wN ?_ ?_);focus exact needA)|(with_reducible refine wG ?_)|(refine FCall.pure ((mul_ok n hn)) ⟨Ln.sameB _ rfl,Ln.sameB _ rfl,True.intro⟩ rfl ?_)|(with_reducible refine Fits.inU (by omega) ?_)|(with_reducible refine wP ?_)))
 all_goals (try conv=>whnf)
 refine FLoop.of (ACalls.mono _) (X:=Nat) (fun m=>[(7,.own 0 n),(8,AI m)]) (fun m=>[.row n 2 (fun k=>if k < m then cAn na else ofL [AI 0,AI 0])]) (fun m=>m ≤ n ∧ (0 < m ∨ n = 0)) (fun m=>n - m) (min 1 n) ⟨⟨by omega,by omega⟩,[0],?c0,allA⟩ ?_
 case c0 =>
  refine wO rfl rfl rfl (wV rfl (LnB.rowE (by omega) fun k hk o ho=>?_) wX)
  simp only [cpc]
  by_cases h:k < min 1 n
  ·rw [if_pos h,if_pos ⟨Nat.zero_le _,by omega⟩,show k - 0 = 0 by omega];exact (hc o ho).symm
  ·rw [if_neg h,if_neg (by omega)]
 rintro m ⟨hm,h0⟩
 by_cases hlt:m < n
 ·(repeat' ((try conv=>whnf);first|(with_reducible first|refine wT ?_|refine wF ?_|(refine wI (fun hq=>?_) (fun hq=>?_) <;> try simp only [zA,zE,zD,zJ,zB,zI,wK,wL] at hq)|refine wA ?_|refine wB ?_|refine wC ?_|refine wD ?_|refine wE ?_)|((with_reducible refine wN ?_ ?_);focus exact needA)|(with_reducible refine wG ?_)|(with_reducible refine wP ?_)))
  all_goals (try conv=>whnf)
  refine ⟨⟨m + min m (n - m),⟨by omega,by omega⟩,by omega,[0],?_,⟨Ln.A,Ln.int (by omega),True.intro⟩⟩⟩
  refine wO rfl rfl rfl (wV rfl (LnB.rowE (by omega) fun k hk o ho=>?_) wX)
  simp only [cpc]
  by_cases h:k < m
  ·rw [if_pos (by omega),if_neg (by omega),if_pos h]
  ·by_cases h2:k < m + min m (n - m)
   ·rw [if_pos h2,if_pos (by omega),if_pos (by omega)]
   ·rw [if_neg h2,if_neg (by omega),if_neg h]
 ·obtain rfl:m = n:=by omega
  (repeat' ((try conv=>whnf);first|(with_reducible first|refine wT ?_|refine wF ?_|(refine wI (fun hq=>?_) (fun hq=>?_) <;> try simp only [zA,zE,zD,zJ,zB,zI,wK,wL] at hq)|refine wA ?_|refine wB ?_|refine wC ?_|refine wD ?_|refine wE ?_)|((with_reducible refine wN ?_ ?_);focus exact needA)|(with_reducible refine wG ?_)|(with_reducible refine wP ?_)))
  all_goals (try conv=>whnf)
  refine ⟨⟨.own 0 m,[rowA m (fun _=>na)],[0],?_,Ln.A,rfl,rfl⟩⟩
  exact wO rfl rfl rfl (wV rfl (LnB.rowE (by omega) fun k hk o ho=>by rw [if_pos hk]) wX)
theorem cloneS_ok (n:Nat) (b:Nat → Stp) (hn:0 < n ∧ n ≤ 100000):ACall Try.prog 36 [aSteps false false n b] [] (fun v h=>v = .own 0 n ∧ h = [.row n 4 (fun k=>cStp (b k))]):=by
 obtain ⟨m,rfl⟩:∃ m,n = m + 1:=⟨n - 1,by omega⟩
 (refine fcall_of mixed Try.func36 rfl (by decide) (hs:={}) ?k (ac:=?ac) ?c (rs:=?rs) ?r ?l ?H;(case k=>kernel_rfl);(case c=>(conv=>(lhs;cbv)));(case r=>(conv=>(lhs;cbv)));(case l=>exact Nat.le_of_ble_eq_true rfl))
 (repeat' ((try conv=>whnf);first|(with_reducible first|refine wT ?_|refine wF ?_|(refine wI (fun hq=>?_) (fun hq=>?_) <;> try simp only [zA,zE,zD,zJ,zB,zI,wK,wL] at hq)|refine wA ?_|refine wB ?_|refine wC ?_|refine wD ?_|refine wE ?_)|((with_reducible refine wN ?_ ?_);focus exact needA)|(with_reducible refine wG ?_)|(with_reducible refine wP ?_)))
 all_goals (try conv=>whnf)
 refine ⟨⟨.own 0 (m + 1),[.row (m + 1) 4 (fun k=>cStp (b k))],[0],?_,Ln.ownE rfl (by omega),rfl,rfl⟩⟩
 exact wO rfl rfl rfl (wV rfl (LnB.rowE (by omega) fun k hk o ho=>by simp [appc]) wX)
end Go.Proofs.Ytjfldbkjfaopbaa.Q
