/- Signs: the program's order of forms, mirror forms, canons. / Signs: the program's mirror forms, canons, alike. / Signs: the reference's entries, Alike, books, Check; Far of the law. / Signs: what was seen agrees with an entry, in the program. / Signs: shows and agrees of the program. / Signs: a book of entries in the program. / Signs: open and look of the program, for books and sights that are in order. / Signs: slices.Sorted of the keys of an own map, by the library's contracts. / Signs: slices.Sorted(maps.Keys(m)) of an own map m, in the abstract reading. / Signs: find of the program. -/
import Derived.Test.YtodpjdmdmmnlpaaGreatBt1
import Derived.Shelf.SlIterI.Nil
import Derived.Shelf.SortM.Plain
import Derived.Shelf.SortM.SortNone
import Derived.Ground.GgzProg
import Derived.Ground.SlgmProg
set_option linter.unusedSimpArgs false
set_option linter.unusedVariables false
namespace Go.Proofs.YtodpjdmdmmnlpaaGreat
open Go.RowKit

theorem ACall.void {P:Program} {f:FuncId} {ys xs:List AV} {hh h:List AB} {KK K:AV → List AB → Prop} (con:ACall P f ys hh KK) {i:Nat} {x:AV} (hi:xs[i]? = some x) (hx:∀ M w g u,¬ rep M w x g u):ACall P f xs h K :=
 ⟨con.1,fun F g w vs _ _ hv=>absurd (hv i x hi) (hx _ _ _ _)⟩
theorem sl_void {e:Bool} {n sz:Nat} {c:Nat → Nat → AV} (hn:0 < n) (M:Nat → Prop) (w:World) (g:GM) (u:Value):¬ rep M w (.sl true e n sz c) g u:=by
 rintro ⟨A,cap,_,hz,hnil,_⟩
 have:=(hnil (hz.1 rfl)).1
 omega
theorem Need.in64 {a:Int} {K:Prop} (h:-9223372036854775808 ≤ a ∧ a ≤ 9223372036854775807) (k:K):Need (in64 a) K:=⟨h,k⟩
/-- The first number that is not 0, of k that are left from i on. -/
def orV (v:Nat → Int):Nat → Nat → Int
 | 0,_=>0
 | n + 1,k=>if v k = 0 then orV v n (k + 1) else v k
section
variable {σ:Nat → Nat → Prop} {Bp:Nat → Prop} {H:List AB}
theorem Ln.row6 {c c':Nat → Nat → AV} (h0:c' 0 0 = c 0 0) (h1:c' 1 0 = c 1 0) (h2:c' 2 0 = c 2 0) (h3:c' 3 0 = c 3 0) (h4:c' 4 0 = c 4 0) (h5:c' 5 0 = c 5 0):Ln σ Bp H (.sl false true 6 1 c) (.sl false true 6 1 c') :=
 Ln.sl _ _ _ _ _ _ _ (fun h=>h) fun k hk o ho=>by
  obtain rfl:o = 0:=by omega
  rcases (show k = 0 ∨ k = 1 ∨ k = 2 ∨ k = 3 ∨ k = 4 ∨ k = 5 by omega) with rfl|rfl|rfl|rfl|rfl|rfl <;> assumption
theorem Ln.row2 {c c':Nat → Nat → AV} (h0:c' 0 0 = c 0 0) (h1:c' 1 0 = c 1 0):Ln σ Bp H (.sl false true 2 1 c) (.sl false true 2 1 c') :=
 Ln.sl _ _ _ _ _ _ _ (fun h=>h) fun k hk o ho=>by
  obtain rfl:o = 0:=by omega
  rcases (show k = 0 ∨ k = 1 by omega) with rfl|rfl <;> assumption
end
def ordV (a b:Form):Nat → Int
 | 0=>cmpI a.w b.w
 | 1=>cmpI a.c b.c
 | 2=>cmpI a.r b.r
 | 3=>cmpI a.l b.l
 | 4=>cmpI a.f b.f
 | _=>cmpL a.mv b.mv
theorem ordV_eq (a b:Form):orV (ordV a b) 6 0 = cmpF a b:=by
 unfold cmpF orI
 simp only [orV,ordV]
 split <;> try rfl
 split <;> try rfl
 split <;> try rfl
 split <;> try rfl
 split <;> try rfl
 split
 ·rename_i h;exact h.symm
 ·rfl
theorem or_v2 (v:Nat → Int):orV v 2 0 = orI (v 0) (v 1):=by
 unfold orI
 simp only [orV]
 split <;> try rfl
 split
 ·rename_i h;exact h.symm
 ·rfl
set_option maxHeartbeats 8000000
set_option maxRecDepth 100000
theorem or_ok (n:Nat) (v:Nat → Int) (hn:n ≤ 1000):ACall Tryz.prog 103 [.sl false true n 1 (fun k _=>AI (v k))] [] (fun r h=>r = AI (orV v n 0) ∧ h = []):=by
 (refine fcall_of mixed Tryz.func103 rfl (by decide) (hs:={}) ?k (ac:=?ac) ?c (rs:=?rs) ?r ?l ?H;(case k=>kernel_rfl);(case c=>(conv=>(lhs;cbv)));(case r=>(conv=>(lhs;cbv)));(case l=>exact Nat.le_of_ble_eq_true rfl))
 (repeat' ((try conv=>whnf);first|(with_reducible first|refine wT ?_|refine wF ?_|(refine wI (fun hq=>?_) (fun hq=>?_) <;> try simp only [zA,zE,zD,zJ,zB,zI,wK,wL] at hq)|refine wA ?_|refine wB ?_|refine wC ?_|refine wD ?_|refine wE ?_)|((with_reducible refine wN ?_ ?_);focus exact needA)|(with_reducible refine wG ?_)|(with_reducible refine wP ?_)))
 all_goals (try conv=>whnf)
 refine FLoop.of (ACalls.mono _) (X:=Nat) (fun k=>[(3,AI 0),(6,.sl false true n 1 (fun k _=>AI (v k))),(7,AI n),(8,AI k)]) (fun _=>[]) (fun k=>k ≤ n ∧ orV v n 0 = orV v (n - k) k) (fun k=>n - k) 0 ⟨⟨Nat.zero_le _,rfl⟩,[],Cut.A,allA⟩ ?_
 rintro k ⟨hk,hL⟩
 by_cases hlt:k < n
 ·obtain ⟨m,hm⟩:∃ m,n - k = m + 1:=⟨n - k - 1,by omega⟩
  rw [hm,orV] at hL
  by_cases h:v k = 0
  ·rw [if_pos h] at hL
   (repeat' ((try conv=>whnf);first|(with_reducible first|refine wT ?_|refine wF ?_|(refine wI (fun hq=>?_) (fun hq=>?_) <;> try simp only [zA,zE,zD,zJ,zB,zI,wK,wL] at hq)|refine wA ?_|refine wB ?_|refine wC ?_|refine wD ?_|refine wE ?_)|((with_reducible refine wN ?_ ?_);focus exact needA)|(with_reducible refine wG ?_)|(with_reducible refine wP ?_)))
   all_goals (try conv=>whnf)
   exact ⟨⟨k + 1,⟨hlt,by rw [hL,show n - (k + 1) = m by omega]⟩,by show _ < _;omega,[],Cut.nil _,allA⟩⟩
  ·rw [if_neg h] at hL
   rw [hL]
   (repeat' ((try conv=>whnf);first|(with_reducible first|refine wT ?_|refine wF ?_|(refine wI (fun hq=>?_) (fun hq=>?_) <;> try simp only [zA,zE,zD,zJ,zB,zI,wK,wL] at hq)|refine wA ?_|refine wB ?_|refine wC ?_|refine wD ?_|refine wE ?_)|((with_reducible refine wN ?_ ?_);focus exact needA)|(with_reducible refine wG ?_)|(with_reducible refine wP ?_)))
   all_goals (try conv=>whnf)
   (refine ⟨⟨_,[],[],Cut.nil _,Ln.sameB _ rfl,?_,rfl⟩⟩)
   rfl
 ·rw [show n - k = 0 by omega,orV] at hL
  rw [hL]
  (repeat' ((try conv=>whnf);first|(with_reducible first|refine wT ?_|refine wF ?_|(refine wI (fun hq=>?_) (fun hq=>?_) <;> try simp only [zA,zE,zD,zJ,zB,zI,wK,wL] at hq)|refine wA ?_|refine wB ?_|refine wC ?_|refine wD ?_|refine wE ?_)|((with_reducible refine wN ?_ ?_);focus exact needA)|(with_reducible refine wG ?_)|(with_reducible refine wP ?_)))
  all_goals (try conv=>whnf)
  (refine ⟨⟨_,[],[],Cut.nil _,Ln.sameB _ rfl,?_,rfl⟩⟩)
  rfl
theorem nan_ok (x:Int):ACall Tryz.prog 137 [AI x] [] (fun r h=>r = .bool false ∧ h = []):=by
 (refine fcall_of mixed Tryz.func137 rfl (by decide) (hs:={}) ?k (ac:=?ac) ?c (rs:=?rs) ?r ?l ?H;(case k=>kernel_rfl);(case c=>(conv=>(lhs;cbv)));(case r=>(conv=>(lhs;cbv)));(case l=>exact Nat.le_of_ble_eq_true rfl))
 (repeat' ((try conv=>whnf);first|(with_reducible first|refine wT ?_|refine wF ?_|(refine wI (fun hq=>?_) (fun hq=>?_) <;> try simp only [zA,zE,zD,zJ,zB,zI,wK,wL] at hq)|refine wA ?_|refine wB ?_|refine wC ?_|refine wD ?_|refine wE ?_)|((with_reducible refine wN ?_ ?_);focus exact needA)|(with_reducible refine wG ?_)|(with_reducible refine wP ?_)))
 all_goals (try conv=>whnf)
 all_goals ((refine ⟨⟨_,[],[],Cut.nil _,Ln.sameB _ rfl,?_,rfl⟩⟩);first|rfl|simp)
theorem cmp_ok (a b:Int):ACall Tryz.prog 130 [AI a,AI b] [] (fun r h=>r = AI (cmpI a b) ∧ h = []):=by
 unfold cmpI
 (refine fcall_of mixed Tryz.func130 rfl (by decide) (hs:={}) ?k (ac:=?ac) ?c (rs:=?rs) ?r ?l ?H;(case k=>kernel_rfl);(case c=>(conv=>(lhs;cbv)));(case r=>(conv=>(lhs;cbv)));(case l=>exact Nat.le_of_ble_eq_true rfl))
 by_cases h1:a < b
 ·rw [if_pos h1]
  (repeat' ((try conv=>whnf);first|(with_reducible first|refine wT ?_|refine wF ?_|(refine wI (fun hq=>?_) (fun hq=>?_) <;> try simp only [zA,zE,zD,zJ,zB,zI,wK,wL] at hq)|refine wA ?_|refine wB ?_|refine wC ?_|refine wD ?_|refine wE ?_)|((with_reducible refine wN ?_ ?_);focus exact needA)|(with_reducible refine wG ?_)|(refine FCall.pure ((nan_ok a)) ⟨Ln.sameB _ rfl,True.intro⟩ rfl ?_)|(refine FCall.pure ((nan_ok b)) ⟨Ln.sameB _ rfl,True.intro⟩ rfl ?_)|(with_reducible refine wP ?_)))
  all_goals (try conv=>whnf)
  all_goals ((refine ⟨⟨_,[],[],Cut.nil _,Ln.sameB _ rfl,?_,rfl⟩⟩);rfl)
 ·rw [if_neg h1]
  by_cases h2:b < a
  ·rw [if_pos h2]
   (repeat' ((try conv=>whnf);first|(with_reducible first|refine wT ?_|refine wF ?_|(refine wI (fun hq=>?_) (fun hq=>?_) <;> try simp only [zA,zE,zD,zJ,zB,zI,wK,wL] at hq)|refine wA ?_|refine wB ?_|refine wC ?_|refine wD ?_|refine wE ?_)|((with_reducible refine wN ?_ ?_);focus exact needA)|(with_reducible refine wG ?_)|(refine FCall.pure ((nan_ok a)) ⟨Ln.sameB _ rfl,True.intro⟩ rfl ?_)|(refine FCall.pure ((nan_ok b)) ⟨Ln.sameB _ rfl,True.intro⟩ rfl ?_)|(with_reducible refine wP ?_)))
   all_goals (try conv=>whnf)
   all_goals ((refine ⟨⟨_,[],[],Cut.nil _,Ln.sameB _ rfl,?_,rfl⟩⟩);rfl)
  ·rw [if_neg h2]
   (repeat' ((try conv=>whnf);first|(with_reducible first|refine wT ?_|refine wF ?_|(refine wI (fun hq=>?_) (fun hq=>?_) <;> try simp only [zA,zE,zD,zJ,zB,zI,wK,wL] at hq)|refine wA ?_|refine wB ?_|refine wC ?_|refine wD ?_|refine wE ?_)|((with_reducible refine wN ?_ ?_);focus exact needA)|(with_reducible refine wG ?_)|(refine FCall.pure ((nan_ok a)) ⟨Ln.sameB _ rfl,True.intro⟩ rfl ?_)|(refine FCall.pure ((nan_ok b)) ⟨Ln.sameB _ rfl,True.intro⟩ rfl ?_)|(with_reducible refine wP ?_)))
   all_goals (try conv=>whnf)
   all_goals ((refine ⟨⟨_,[],[],Cut.nil _,Ln.sameB _ rfl,?_,rfl⟩⟩);rfl)
theorem compare_ok (z e z2 e2:Bool) (a b:List Int) (ha:a.length ≤ 1000) (hb:b.length ≤ 1000):ACall Tryz.prog 131 [aInts z e a,aInts z2 e2 b] [] (fun r h=>r = AI (cmpL a b) ∧ h = []):=by
 (refine fcall_of mixed Tryz.func131 rfl (by decide) (hs:={}) ?k (ac:=?ac) ?c (rs:=?rs) ?r ?l ?H;(case k=>kernel_rfl);(case c=>(conv=>(lhs;cbv)));(case r=>(conv=>(lhs;cbv)));(case l=>exact Nat.le_of_ble_eq_true rfl))
 (repeat' ((try conv=>whnf);first|(with_reducible first|refine wT ?_|refine wF ?_|(refine wI (fun hq=>?_) (fun hq=>?_) <;> try simp only [zA,zE,zD,zJ,zB,zI,wK,wL] at hq)|refine wA ?_|refine wB ?_|refine wC ?_|refine wD ?_|refine wE ?_)|((with_reducible refine wN ?_ ?_);focus exact needA)|(with_reducible refine wG ?_)|(with_reducible refine wP ?_)))
 all_goals (try conv=>whnf)
 refine FLoop.of (ACalls.mono _) (X:=Nat) (fun k=>[(0,aInts z e a),(1,aInts z2 e2 b),(9,aInts z e a),(10,AI a.length),(11,AI k)]) (fun _=>[]) (fun k=>(k ≤ a.length ∧ k ≤ b.length) ∧ cmpL a b = cmpL (a.drop k) (b.drop k)) (fun k=>a.length - k) 0 ⟨⟨⟨Nat.zero_le _,Nat.zero_le _⟩,rfl⟩,[],Cut.A,allA⟩ ?_
 rintro k ⟨⟨h1,h2⟩,hL⟩
 by_cases hlt:k < a.length
 ·by_cases hlt2:k < b.length
  ·rw [cmpL_step hlt hlt2] at hL
   have cC:=cmp_ok (a.getD k 0) (b.getD k 0)
   by_cases he:a.getD k 0 = b.getD k 0
   ·rw [if_pos he] at hL
    rw [cmpI_zero.2 he] at cC
    (repeat' ((try conv=>whnf);first|(with_reducible first|refine wT ?_|refine wF ?_|(refine wI (fun hq=>?_) (fun hq=>?_) <;> try simp only [zA,zE,zD,zJ,zB,zI,wK,wL] at hq)|refine wA ?_|refine wB ?_|refine wC ?_|refine wD ?_|refine wE ?_)|((with_reducible refine wN ?_ ?_);focus exact needA)|(with_reducible refine wG ?_)|(refine FCall.pure (cC) ⟨Ln.sameB _ rfl,Ln.sameB _ rfl,True.intro⟩ rfl ?_)|(with_reducible refine wP ?_)))
    all_goals (try conv=>whnf)
    exact ⟨⟨k + 1,⟨⟨hlt,hlt2⟩,hL⟩,by show _ < _;omega,[],Cut.nil _,allA⟩⟩
   ·rw [if_neg he] at hL
    rw [hL]
    have hz:¬ cmpI (a.getD k 0) (b.getD k 0) = 0:=fun h=>he (cmpI_zero.1 h)
    (repeat' ((try conv=>whnf);first|(with_reducible first|refine wT ?_|refine wF ?_|(refine wI (fun hq=>?_) (fun hq=>?_) <;> try simp only [zA,zE,zD,zJ,zB,zI,wK,wL] at hq)|refine wA ?_|refine wB ?_|refine wC ?_|refine wD ?_|refine wE ?_)|((with_reducible refine wN ?_ ?_);focus exact needA)|(with_reducible refine wG ?_)|(refine FCall.pure (cC) ⟨Ln.sameB _ rfl,Ln.sameB _ rfl,True.intro⟩ rfl ?_)|(with_reducible refine wP ?_)))
    all_goals (try conv=>whnf)
    (refine ⟨⟨_,[],[],Cut.nil _,Ln.sameB _ rfl,?_,rfl⟩⟩)
    rfl
  ·rw [cmpL_end h1 h2 (fun h=>hlt2 h.2)] at hL
   rw [hL,show cmpI (a.length:Int) b.length = 1 by unfold cmpI;rw [if_neg (by omega),if_pos (by omega)]]
   (repeat' ((try conv=>whnf);first|(with_reducible first|refine wT ?_|refine wF ?_|(refine wI (fun hq=>?_) (fun hq=>?_) <;> try simp only [zA,zE,zD,zJ,zB,zI,wK,wL] at hq)|refine wA ?_|refine wB ?_|refine wC ?_|refine wD ?_|refine wE ?_)|((with_reducible refine wN ?_ ?_);focus exact needA)|(with_reducible refine wG ?_)|(with_reducible refine wP ?_)))
   all_goals (try conv=>whnf)
   (refine ⟨⟨_,[],[],Cut.nil _,Ln.sameB _ rfl,?_,rfl⟩⟩)
   rfl
 ·rw [cmpL_end h1 h2 (fun h=>hlt h.1)] at hL
  rw [hL]
  by_cases h3:a.length < b.length
  ·rw [show cmpI (a.length:Int) b.length = -1 by unfold cmpI;rw [if_pos (by omega)]]
   (repeat' ((try conv=>whnf);first|(with_reducible first|refine wT ?_|refine wF ?_|(refine wI (fun hq=>?_) (fun hq=>?_) <;> try simp only [zA,zE,zD,zJ,zB,zI,wK,wL] at hq)|refine wA ?_|refine wB ?_|refine wC ?_|refine wD ?_|refine wE ?_)|((with_reducible refine wN ?_ ?_);focus exact needA)|(with_reducible refine wG ?_)|(with_reducible refine wP ?_)))
   all_goals (try conv=>whnf)
   all_goals ((refine ⟨⟨_,[],[],Cut.nil _,Ln.sameB _ rfl,?_,rfl⟩⟩);rfl)
  ·rw [show cmpI (a.length:Int) b.length = 0 by unfold cmpI;rw [if_neg (by omega),if_neg (by omega)]]
   (repeat' ((try conv=>whnf);first|(with_reducible first|refine wT ?_|refine wF ?_|(refine wI (fun hq=>?_) (fun hq=>?_) <;> try simp only [zA,zE,zD,zJ,zB,zI,wK,wL] at hq)|refine wA ?_|refine wB ?_|refine wC ?_|refine wD ?_|refine wE ?_)|((with_reducible refine wN ?_ ?_);focus exact needA)|(with_reducible refine wG ?_)|(with_reducible refine wP ?_)))
   all_goals (try conv=>whnf)
   all_goals ((refine ⟨⟨_,[],[],Cut.nil _,Ln.sameB _ rfl,?_,rfl⟩⟩);rfl)
theorem order_ok (z e z2 e2:Bool) (a b:Form) (ha:a.mv.length ≤ 1000) (hb:b.mv.length ≤ 1000):ACall Tryz.prog 107 [aForm z e a,aForm z2 e2 b] [] (fun r h=>r = AI (cmpF a b) ∧ h = []):=by
 have cO:=or_ok 6 (ordV a b) (by omega)
 rw [ordV_eq] at cO
 have cL:=compare_ok z e z2 e2 a.mv b.mv ha hb
 (refine fcall_of mixed Tryz.func107 rfl (by decide) (hs:={ ord:=[(1,[(0,[]),(1,[]),(2,[]),(3,[]),(5,[]),(6,[]),(7,[]),(8,[]),(10,[]),(11,[]),(12,[]),(13,[]),(15,[]),(16,[]),(17,[]),(18,[]),(20,[]),(21,[]),(22,[]),(23,[]),(25,[]),(26,[]),(27,[]),(28,[]),(4,[6,8,11,13,16,18,21,23,26,28]),(9,[11,13,16,18,21,23,26,28]),(14,[16,18,21,23,26,28]),(19,[21,23,26,28]),(24,[26,28]),(29,[]),(30,[]),(31,[]),(32,[])])] }) ?k (ac:=?ac) ?c (rs:=?rs) ?r ?l ?H;(case k=>kernel_rfl);(case c=>(conv=>(lhs;cbv)));(case r=>(conv=>(lhs;cbv)));(case l=>exact Nat.le_of_ble_eq_true rfl))
 (repeat' ((try conv=>whnf);first|(with_reducible first|refine wT ?_|refine wF ?_|(refine wI (fun hq=>?_) (fun hq=>?_) <;> try simp only [zA,zE,zD,zJ,zB,zI,wK,wL] at hq)|refine wA ?_|refine wB ?_|refine wC ?_|refine wD ?_|refine wE ?_)|((with_reducible refine wN ?_ ?_);focus exact needA)|(with_reducible refine wG ?_)|(refine FCall.pure ((cmp_ok _ _)) ⟨Ln.sameB _ rfl,Ln.sameB _ rfl,True.intro⟩ rfl ?_)|(refine FCall.pure (cL) ⟨Ln.sameB _ rfl,Ln.sameB _ rfl,True.intro⟩ rfl ?_)|(refine FCall.pure cO ⟨Ln.row6 rfl rfl rfl rfl rfl rfl,True.intro⟩ rfl ?_)|(with_reducible refine wP ?_)))
 all_goals (try conv=>whnf)
 (refine ⟨⟨_,[],[],Cut.nil _,Ln.sameB _ rfl,?_,rfl⟩⟩)
 rfl
end Go.Proofs.YtodpjdmdmmnlpaaGreat

namespace Go.Proofs.YtodpjdmdmmnlpaaGreat
open Go.RowKit

/-- A form with a flag, of which the end is that of its row if there are no moves. -/
abbrev aFormZ (z:Bool) (f:Form):AV:=aForm z (decide (f.mv.length = 0)) f
theorem form_void {e:Bool} {f:Form} (hn:0 < f.mv.length) (M:Nat → Prop) (w:World) (g:GM) (u:Value):¬ rep M w (aForm true e f) g u:=by
 rintro ⟨vs,-,-,hc⟩
 obtain ⟨v,-,h⟩:=hc 5 (by omega)
 exact sl_void hn M w g v h.2
set_option maxHeartbeats 8000000
set_option maxRecDepth 100000
abbrev rowI (n:Nat) (c:Nat → Int):AB:=.row n 1 (fun k _=>AI (c k))
theorem clone_nil (e:Bool):ACall Tryz.prog 97 [aInts true e []] [] (fun r h=>r = nilS ∧ h = []):=by
 (refine fcall_of mixed Tryz.func97 rfl (by decide) (hs:={}) ?k (ac:=?ac) ?c (rs:=?rs) ?r ?l ?H;(case k=>kernel_rfl);(case c=>(conv=>(lhs;cbv)));(case r=>(conv=>(lhs;cbv)));(case l=>exact Nat.le_of_ble_eq_true rfl))
 (repeat' ((try conv=>whnf);first|(with_reducible first|refine wT ?_|refine wF ?_|(refine wI (fun hq=>?_) (fun hq=>?_) <;> try simp only [zA,zE,zD,zJ,zB,zI,wK,wL] at hq)|refine wA ?_|refine wB ?_|refine wC ?_|refine wD ?_|refine wE ?_)|((with_reducible refine wN ?_ ?_);focus exact needA)|(with_reducible refine wG ?_)|(with_reducible refine wP ?_)))
 all_goals (try conv=>whnf)
 all_goals ((refine ⟨⟨_,[],[],Cut.nil _,Ln.sameB _ rfl,?_,rfl⟩⟩);rfl)
theorem clone_0 (e:Bool):ACall Tryz.prog 97 [aInts false e []] [] (fun r h=>r = aInts false true [] ∧ h = []):=by
 have h0:([]:List Int).length ≤ 0:=Nat.le_refl _
 (refine fcall_of mixed Tryz.func97 rfl (by decide) (hs:={}) ?k (ac:=?ac) ?c (rs:=?rs) ?r ?l ?H;(case k=>kernel_rfl);(case c=>(conv=>(lhs;cbv)));(case r=>(conv=>(lhs;cbv)));(case l=>exact Nat.le_of_ble_eq_true rfl))
 (repeat' ((try conv=>whnf);first|(with_reducible first|refine wT ?_|refine wF ?_|(refine wI (fun hq=>?_) (fun hq=>?_) <;> try simp only [zA,zE,zD,zJ,zB,zI,wK,wL] at hq)|refine wA ?_|refine wB ?_|refine wC ?_|refine wD ?_|refine wE ?_)|((with_reducible refine wN ?_ ?_);focus exact needA)|(with_reducible refine wG ?_)|(with_reducible refine wP ?_)))
 all_goals (try conv=>whnf)
 exact ⟨⟨aInts false true [],[],[],Cut.nil _,Ln.slz _ _ _ _ _ _ _ (fun h=>h),rfl,rfl⟩⟩
theorem clone_s (e:Bool) (l:List Int) (C:Nat) (hl:l.length = C + 1) (hC:C ≤ 1000):ACall Tryz.prog 97 [aInts false e l] [] (fun v h=>v = .own 0 (C + 1) ∧ h = [rowI (C + 1) (fun k=>l.getD k 0)]):=by
 show ACall Tryz.prog _ [.sl false e l.length 1 (fun k _=>AI (l.getD k 0))] [] _
 rw [hl]
 (refine fcall_of mixed Tryz.func97 rfl (by decide) (hs:={}) ?k (ac:=?ac) ?c (rs:=?rs) ?r ?l ?H;(case k=>kernel_rfl);(case c=>(conv=>(lhs;cbv)));(case r=>(conv=>(lhs;cbv)));(case l=>exact Nat.le_of_ble_eq_true rfl))
 (repeat' ((try conv=>whnf);first|(with_reducible first|refine wT ?_|refine wF ?_|(refine wI (fun hq=>?_) (fun hq=>?_) <;> try simp only [zA,zE,zD,zJ,zB,zI,wK,wL] at hq)|refine wA ?_|refine wB ?_|refine wC ?_|refine wD ?_|refine wE ?_)|((with_reducible refine wN ?_ ?_);focus exact needA)|(with_reducible refine wG ?_)|(with_reducible refine wP ?_)))
 all_goals (try conv=>whnf)
 refine ⟨⟨.own 0 (C + 1),[rowI (C + 1) (fun k=>l.getD k 0)],[0],?_,Ln.ownE rfl (by omega),rfl,rfl⟩⟩
 exact wO rfl rfl rfl (wV rfl (LnB.rowE (by omega) fun k hk o ho=>by simp [appc]) wX)
theorem pmirror_0 (z e:Bool) (f:Form) (hc:-1000 ≤ f.c ∧ f.c ≤ 1000) (h0:f.mv = []):ACall Tryz.prog 72 [aForm z e f] [] (fun r h=>r = aFormZ z (mirF f) ∧ h = []):=by
 obtain ⟨fr,fl,fc,fw,ff,mv⟩:=f
 obtain rfl:mv = []:=h0
 (refine fcall_of mixed Tryz.func72 rfl (by decide) (hs:={}) ?k (ac:=?ac) ?c (rs:=?rs) ?r ?l ?H;(case k=>kernel_rfl);(case c=>(conv=>(lhs;cbv)));(case r=>(conv=>(lhs;cbv)));(case l=>exact Nat.le_of_ble_eq_true rfl))
 cases z
 ·(repeat' ((try conv=>whnf);first|(with_reducible first|refine wT ?_|refine wF ?_|(refine wI (fun hq=>?_) (fun hq=>?_) <;> try simp only [zA,zE,zD,zJ,zB,zI,wK,wL] at hq)|refine wA ?_|refine wB ?_|refine wC ?_|refine wD ?_|refine wE ?_)|((with_reducible refine wN ?_ ?_);focus exact needA)|(with_reducible refine wG ?_)|(refine FCall.pure ((clone_0 e)) ⟨Ln.sameB _ rfl,True.intro⟩ rfl ?_)|(with_reducible refine wP ?_)))
  all_goals (try conv=>whnf)
  refine FLoop.of (ACalls.mono _) (X:=Unit) (fun _=>[(1,.ptr 0 0),(2,.ptr 1 0),(20,aInts false true []),(21,AI 0),(22,AI 0)]) (fun _=>[.box 6 (ofL [AI fl,AI fr,AI (0 - fc),AI fw,AI ff,aInts false true []]),.box 6 (ofL [AI 0,AI 0,AI 0,AI 0,AI 0,nilS])]) (fun _=>True) (fun _=>0) () ⟨True.intro,[0,1],Cut.A,allA⟩ ?_
  rintro _ _
  (repeat' ((try conv=>whnf);first|(with_reducible first|refine wT ?_|refine wF ?_|(refine wI (fun hq=>?_) (fun hq=>?_) <;> try simp only [zA,zE,zD,zJ,zB,zI,wK,wL] at hq)|refine wA ?_|refine wB ?_|refine wC ?_|refine wD ?_|refine wE ?_)|((with_reducible refine wN ?_ ?_);focus exact needA)|(with_reducible refine wG ?_)|(with_reducible refine wP ?_)))
  all_goals (try conv=>whnf)
  exact ⟨⟨aFormZ false (mirF ⟨fr,fl,fc,fw,ff,[]⟩),[],[],Cut.nil _,Ln.aggN ⟨⟨⟨⟨⟨⟨True.intro,Ln.A⟩,Ln.A⟩,Ln.A⟩,Ln.A⟩,Ln.A⟩,Ln.slz _ _ _ _ _ _ _ (fun h=>h)⟩,rfl,rfl⟩⟩
 ·(repeat' ((try conv=>whnf);first|(with_reducible first|refine wT ?_|refine wF ?_|(refine wI (fun hq=>?_) (fun hq=>?_) <;> try simp only [zA,zE,zD,zJ,zB,zI,wK,wL] at hq)|refine wA ?_|refine wB ?_|refine wC ?_|refine wD ?_|refine wE ?_)|((with_reducible refine wN ?_ ?_);focus exact needA)|(with_reducible refine wG ?_)|(refine FCall.pure ((clone_nil e)) ⟨Ln.sameB _ rfl,True.intro⟩ rfl ?_)|(with_reducible refine wP ?_)))
  all_goals (try conv=>whnf)
  refine FLoop.of (ACalls.mono _) (X:=Unit) (fun _=>[(1,.ptr 0 0),(2,.ptr 1 0),(20,nilS),(21,AI 0),(22,AI 0)]) (fun _=>[.box 6 (ofL [AI fl,AI fr,AI (0 - fc),AI fw,AI ff,nilS]),.box 6 (ofL [AI 0,AI 0,AI 0,AI 0,AI 0,nilS])]) (fun _=>True) (fun _=>0) () ⟨True.intro,[0,1],Cut.A,allA⟩ ?_
  rintro _ _
  (repeat' ((try conv=>whnf);first|(with_reducible first|refine wT ?_|refine wF ?_|(refine wI (fun hq=>?_) (fun hq=>?_) <;> try simp only [zA,zE,zD,zJ,zB,zI,wK,wL] at hq)|refine wA ?_|refine wB ?_|refine wC ?_|refine wD ?_|refine wE ?_)|((with_reducible refine wN ?_ ?_);focus exact needA)|(with_reducible refine wG ?_)|(with_reducible refine wP ?_)))
  all_goals (try conv=>whnf)
  exact ⟨⟨aFormZ true (mirF ⟨fr,fl,fc,fw,ff,[]⟩),[],[],Cut.nil _,Ln.aggN ⟨⟨⟨⟨⟨⟨True.intro,Ln.A⟩,Ln.A⟩,Ln.A⟩,Ln.A⟩,Ln.A⟩,Ln.slz _ _ _ _ _ _ _ (fun h=>h)⟩,rfl,rfl⟩⟩
/-- The moves, of which the first k are turned. -/
def mixD (l:List Int) (k j:Nat):Int:=if j < k then mirD (l.getD j 0) else l.getD j 0
theorem pmirror_s (e:Bool) (f:Form) (C:Nat) (hC:f.mv.length = C + 1) (hn:C ≤ 1000) (hc:-1000 ≤ f.c ∧ f.c ≤ 1000) (hm:∀ k,k < f.mv.length → 0 ≤ f.mv.getD k 0 ∧ f.mv.getD k 0 ≤ 7):ACall Tryz.prog 72 [aForm false e f] [] (fun r h=>r = aFormZ false (mirF f) ∧ h = []):=by
 have cC:=clone_s e f.mv C hC hn
 (refine fcall_of mixed Tryz.func72 rfl (by decide) (hs:={}) ?k (ac:=?ac) ?c (rs:=?rs) ?r ?l ?H;(case k=>kernel_rfl);(case c=>(conv=>(lhs;cbv)));(case r=>(conv=>(lhs;cbv)));(case l=>exact Nat.le_of_ble_eq_true rfl))
 (repeat' ((try conv=>whnf);first|(with_reducible first|refine wT ?_|refine wF ?_|(refine wI (fun hq=>?_) (fun hq=>?_) <;> try simp only [zA,zE,zD,zJ,zB,zI,wK,wL] at hq)|refine wA ?_|refine wB ?_|refine wC ?_|refine wD ?_|refine wE ?_)|((with_reducible refine wN ?_ ?_);focus exact needA)|(with_reducible refine wG ?_)|((refine FCall.give [] [] (cC) rfl rfl True.intro ⟨Ln.A,True.intro⟩ ?_);rintro _ _ ⟨rfl,rfl⟩;(refine ⟨by first|exact Nat.le_of_ble_eq_true rfl|omega,.inl rfl,?_⟩))|(with_reducible refine wP ?_)))
 all_goals (try conv=>whnf)
 refine FLoop.of (ACalls.mono _) (X:=Nat) (fun k=>[(1,.ptr 0 0),(2,.ptr 1 0),(20,.own 2 (C + 1)),(21,AI (C + 1:Nat)),(22,AI k)]) (fun k=>[.box 6 (ofL [AI f.l,AI f.r,AI (0 - f.c),AI f.w,AI f.f,.own 2 (C + 1)]),.box 6 (ofL [AI 0,AI 0,AI 0,AI 0,AI 0,nilS]),rowI (C + 1) (mixD f.mv k)]) (fun k=>k ≤ C + 1) (fun k=>C + 1 - k) 0 ⟨Nat.zero_le _,[0,1,2],wO rfl rfl rfl (wV rfl LnB.A (wV rfl LnB.A (wV rfl (LnB.rowE (Nat.le_refl _) (fun k hk o ho=>rfl)) wX))),allA⟩ ?_
 intro k hk
 by_cases hlt:k < C + 1
 ·have hmk:=hm k (by omega)
  have hx:mixD f.mv k k = f.mv.getD k 0:=if_neg (by omega)
  (repeat' ((try conv=>whnf);first|(with_reducible first|refine wT ?_|refine wF ?_|(refine wI (fun hq=>?_) (fun hq=>?_) <;> try simp only [zA,zE,zD,zJ,zB,zI,wK,wL] at hq)|refine wA ?_|refine wB ?_|refine wC ?_|refine wD ?_|refine wE ?_)|((with_reducible refine wN ?_ ?_);focus exact needA)|(with_reducible refine wG ?_)|(with_reducible refine wP ?_)))
  all_goals (try conv=>whnf)
  exact ⟨⟨k + 1,hlt,by show _ < _;omega,[0,1,2],wO rfl rfl rfl (wV rfl LnB.A (wV rfl LnB.A (wV rfl (LnB.rowE (Nat.le_refl _) (fun j hj o ho=>by
   show AI (mixD f.mv (k + 1) j) = _
   simp only [updRm]
   by_cases e:j = k
   ·subst e;rw [if_pos rfl];exact int_eq (by unfold mixD;rw [if_pos (by omega),if_neg (by omega)];rfl)
   ·rw [if_neg e];exact int_eq (by unfold mixD;by_cases h:j < k;rw [if_pos h,if_pos (by omega)];rw [if_neg h,if_neg (by omega)]))) wX))),allA⟩⟩
 ·obtain rfl:k = C + 1:=by omega
  (repeat' ((try conv=>whnf);first|(with_reducible first|refine wT ?_|refine wF ?_|(refine wI (fun hq=>?_) (fun hq=>?_) <;> try simp only [zA,zE,zD,zJ,zB,zI,wK,wL] at hq)|refine wA ?_|refine wB ?_|refine wC ?_|refine wD ?_|refine wE ?_)|((with_reducible refine wN ?_ ?_);focus exact needA)|(with_reducible refine wG ?_)|(with_reducible refine wP ?_)))
  all_goals (try conv=>whnf)
  exact ⟨⟨aFormZ false (mirF f),[],[],Cut.nil _,Ln.aggN ⟨⟨⟨⟨⟨⟨True.intro,Ln.A⟩,Ln.A⟩,Ln.A⟩,Ln.A⟩,Ln.A⟩,Ln.pubD (by rw [mir_len];omega) (goneB rfl) rfl (Nat.le_refl _) (by rw [mir_len];exact hC.symm) (fun k hk o ho=>int_eq (by rw [mir_get (by omega)];unfold mixD;rw [if_pos hk]))⟩,rfl,rfl⟩⟩
theorem pmirror_ok (z e:Bool) (f:Form) (h:Mid f):ACall Tryz.prog 72 [aForm z e f] [] (fun r h=>r = aFormZ z (mirF f) ∧ h = []):=by
 by_cases h0:f.mv = []
 ·exact pmirror_0 z e f h.c h0
 ·have hl:0 < f.mv.length:=List.length_pos_iff.2 h0
  obtain ⟨C,hC⟩:∃ C,f.mv.length = C + 1:=⟨f.mv.length - 1,by omega⟩
  have:=h.n
  have cN:=pmirror_s e f C hC (by omega) h.c h.mv
  cases z
  ·exact cN
  ·exact ACall.void cN (i:=0) rfl (form_void hl)
theorem pcanon_ok (z e:Bool) (f:Form) (h:FormOk f):ACall Tryz.prog 90 [aForm z e f] [] (fun r h=>r = aFormZ z (canF f) ∧ h = []):=by
 have hm:=mid_of h
 have hm2:=mid_of (mir_ok h)
 have c1:=pmirror_ok z e f hm
 have c2:=order_ok z (decide ((mirF f).mv.length = 0)) z e (mirF f) f hm2.n hm.n
 have c3:=pmirror_ok z (decide ((mirF f).mv.length = 0)) (mirF f) hm2
 rw [mir_mir h] at c3
 unfold canF
 (refine fcall_of mixed Tryz.func90 rfl (by decide) (hs:={}) ?k (ac:=?ac) ?c (rs:=?rs) ?r ?l ?H;(case k=>kernel_rfl);(case c=>(conv=>(lhs;cbv)));(case r=>(conv=>(lhs;cbv)));(case l=>exact Nat.le_of_ble_eq_true rfl))
 by_cases hlt:cmpF (mirF f) f < 0
 ·rw [if_pos hlt]
  (repeat' ((try conv=>whnf);first|(with_reducible first|refine wT ?_|refine wF ?_|(refine wI (fun hq=>?_) (fun hq=>?_) <;> try simp only [zA,zE,zD,zJ,zB,zI,wK,wL] at hq)|refine wA ?_|refine wB ?_|refine wC ?_|refine wD ?_|refine wE ?_)|((with_reducible refine wN ?_ ?_);focus exact needA)|(with_reducible refine wG ?_)|(refine FCall.pure (c1) ⟨Ln.sameB _ rfl,True.intro⟩ rfl ?_)|(refine FCall.pure (c2) ⟨Ln.sameB _ rfl,Ln.sameB _ rfl,True.intro⟩ rfl ?_)|(refine FCall.pure (c3) ⟨Ln.sameB _ rfl,True.intro⟩ rfl ?_)|(with_reducible refine wP ?_)))
  all_goals (try conv=>whnf)
  all_goals first|(exfalso;omega)|((refine ⟨⟨_,[],[],Cut.nil _,Ln.sameB _ rfl,?_,rfl⟩⟩);rfl)
 ·rw [if_neg hlt]
  (repeat' ((try conv=>whnf);first|(with_reducible first|refine wT ?_|refine wF ?_|(refine wI (fun hq=>?_) (fun hq=>?_) <;> try simp only [zA,zE,zD,zJ,zB,zI,wK,wL] at hq)|refine wA ?_|refine wB ?_|refine wC ?_|refine wD ?_|refine wE ?_)|((with_reducible refine wN ?_ ?_);focus exact needA)|(with_reducible refine wG ?_)|(refine FCall.pure (c1) ⟨Ln.sameB _ rfl,True.intro⟩ rfl ?_)|(refine FCall.pure (c2) ⟨Ln.sameB _ rfl,Ln.sameB _ rfl,True.intro⟩ rfl ?_)|(refine FCall.pure (c3) ⟨Ln.sameB _ rfl,True.intro⟩ rfl ?_)|(with_reducible refine wP ?_)))
  all_goals (try conv=>whnf)
  all_goals first|(exfalso;omega)|((refine ⟨⟨_,[],[],Cut.nil _,Ln.sameB _ rfl,?_,rfl⟩⟩);rfl)
def palikeB (a b:Ent):Bool:=decide (a.sg = b.sg) && decide (a.rg = b.rg) && decide (a.lo = b.lo ∧ a.hi = b.hi) && decide (cmpF a.fm b.fm = 0)
theorem palike_ok (z e z2 e2:Bool) (a b:Ent) (ha:a.fm.mv.length ≤ 1000) (hb:b.fm.mv.length ≤ 1000):ACall Tryz.prog 91 [aEnt z e a,aEnt z2 e2 b] [] (fun r h=>r = .bool (palikeB a b) ∧ h = []):=by
 have c3:=order_ok z e z2 e2 a.fm b.fm ha hb
 unfold palikeB
 (refine fcall_of mixed Tryz.func91 rfl (by decide) (hs:={}) ?k (ac:=?ac) ?c (rs:=?rs) ?r ?l ?H;(case k=>kernel_rfl);(case c=>(conv=>(lhs;cbv)));(case r=>(conv=>(lhs;cbv)));(case l=>exact Nat.le_of_ble_eq_true rfl))
 by_cases h4:a.lo = b.lo ∧ a.hi = b.hi
 ·have e4:(decide (a.lo = b.lo) && (decide (a.hi = b.hi) && true)) = true:=by rw [decide_eq_true h4.1,decide_eq_true h4.2];rfl
  (repeat' ((try conv=>whnf);first|(with_reducible refine And.intro rfl ?_)|(with_reducible first|refine wT ?_|refine wF ?_|(refine wI (fun hq=>?_) (fun hq=>?_) <;> try simp only [zA,zE,zD,zJ,zB,zI,wK,wL] at hq)|refine wA ?_|refine wB ?_|refine wC ?_|refine wD ?_|refine wE ?_)|((with_reducible refine wN ?_ ?_);focus exact needA)|(with_reducible refine wG ?_)|(refine FCall.pure (c3) ⟨Ln.sameB _ rfl,Ln.sameB _ rfl,True.intro⟩ rfl ?_)|(with_reducible refine wP ?_)))
  all_goals (try conv=>whnf)
  all_goals ((refine ⟨⟨_,[],[],Cut.nil _,Ln.sameB _ rfl,?_,rfl⟩⟩);first|(simp_all;done)|skip)
 ·(repeat' ((try conv=>whnf);first|(with_reducible refine And.intro rfl ?_)|(with_reducible first|refine wT ?_|refine wF ?_|(refine wI (fun hq=>?_) (fun hq=>?_) <;> try simp only [zA,zE,zD,zJ,zB,zI,wK,wL] at hq)|refine wA ?_|refine wB ?_|refine wC ?_|refine wD ?_|refine wE ?_)|((with_reducible refine wN ?_ ?_);focus exact needA)|(with_reducible refine wG ?_)|(refine FCall.pure (c3) ⟨Ln.sameB _ rfl,Ln.sameB _ rfl,True.intro⟩ rfl ?_)|(with_reducible refine wP ?_)))
  all_goals (try conv=>whnf)
  all_goals ((refine ⟨⟨_,[],[],Cut.nil _,Ln.sameB _ rfl,?_,rfl⟩⟩);first|(simp_all;done)|skip)
end Go.Proofs.YtodpjdmdmmnlpaaGreat

namespace Go.Proofs.YtodpjdmdmmnlpaaGreat
open Go.RowKit

theorem ent_no {x:Ent} (h:¬ EntOk x):entB x = false:=Bool.eq_false_iff.2 fun e=>h (ent_d e)
theorem ent_b {x:Ent} (h:EntOk x):entB x = true:=by
 unfold entB
 simp only [Bool.and_eq_true,decide_eq_true_eq]
 exact ⟨⟨⟨⟨h.id,h.sg⟩,form_b h.fm⟩,h.rg⟩,h.ag⟩
/-- Not far too long. -/
def NearB (l:List Ent):Prop:=l.length ≤ 1000 ∧ ∀ i,i < l.length → (l.getD i en0).fm.mv.length ≤ 1000
set_option maxHeartbeats 8000000
set_option maxRecDepth 100000
theorem isEntry_ok (z e:Bool) (x:Ent) (hn:x.fm.mv.length ≤ 1000):ACall Tryz.prog 33 [aEnt z e x] [] (fun r h=>r = .bool (entB x) ∧ h = []):=by
 have cF:=isForm_ok z e x.fm hn
 (refine fcall_of mixed Tryz.func33 rfl (by decide) (hs:={}) ?k (ac:=?ac) ?c (rs:=?rs) ?r ?l ?H;(case k=>kernel_rfl);(case c=>(conv=>(lhs;cbv)));(case r=>(conv=>(lhs;cbv)));(case l=>exact Nat.le_of_ble_eq_true rfl))
 by_cases hf:formB x.fm = true
 ·rw [hf] at cF
  by_cases h6:x.hi ≤ 120
  ·(repeat' ((try conv=>whnf);first|(with_reducible first|refine wT ?_|refine wF ?_|(refine wI (fun hq=>?_) (fun hq=>?_) <;> try simp only [zA,zE,zD,zJ,zB,zI,wK,wL] at hq)|refine wA ?_|refine wB ?_|refine wC ?_|refine wD ?_|refine wE ?_)|((with_reducible refine wN ?_ ?_);focus exact needA)|(with_reducible refine wG ?_)|(refine FCall.pure ((within_ok _ _ _)) ⟨Ln.sameB _ rfl,Ln.sameB _ rfl,Ln.sameB _ rfl,True.intro⟩ rfl ?_)|(refine FCall.pure (cF) ⟨Ln.sameB _ rfl,True.intro⟩ rfl ?_)|(with_reducible refine wP ?_)))
   all_goals (try conv=>whnf)
   all_goals (refine ⟨⟨_,[],[],Cut.nil _,Ln.sameB _ rfl,?_,rfl⟩⟩)
   all_goals first
    | (rw [ent_no fun h=>by have:=h.id;have:=h.sg;have:=h.rg;have:=h.ag;omega];done)
    | (rw [ent_b ⟨by omega,by omega,form_d hf,by omega,by omega⟩];exact bool_eq (decide_eq_true (by omega)))
  ·(repeat' ((try conv=>whnf);first|(with_reducible first|refine wT ?_|refine wF ?_|(refine wI (fun hq=>?_) (fun hq=>?_) <;> try simp only [zA,zE,zD,zJ,zB,zI,wK,wL] at hq)|refine wA ?_|refine wB ?_|refine wC ?_|refine wD ?_|refine wE ?_)|((with_reducible refine wN ?_ ?_);focus exact needA)|(with_reducible refine wG ?_)|(refine FCall.pure ((within_ok _ _ _)) ⟨Ln.sameB _ rfl,Ln.sameB _ rfl,Ln.sameB _ rfl,True.intro⟩ rfl ?_)|(refine FCall.pure (cF) ⟨Ln.sameB _ rfl,True.intro⟩ rfl ?_)|(with_reducible refine wP ?_)))
   all_goals (try conv=>whnf)
   all_goals (refine ⟨⟨_,[],[],Cut.nil _,Ln.sameB _ rfl,?_,rfl⟩⟩)
   all_goals (rw [ent_no fun h=>by have:=h.ag;omega];first|done|exact bool_eq (decide_eq_false (by omega)))
 ·have hf':formB x.fm = false:=by simpa using hf
  rw [hf'] at cF
  (repeat' ((try conv=>whnf);first|(with_reducible first|refine wT ?_|refine wF ?_|(refine wI (fun hq=>?_) (fun hq=>?_) <;> try simp only [zA,zE,zD,zJ,zB,zI,wK,wL] at hq)|refine wA ?_|refine wB ?_|refine wC ?_|refine wD ?_|refine wE ?_)|((with_reducible refine wN ?_ ?_);focus exact needA)|(with_reducible refine wG ?_)|(refine FCall.pure ((within_ok _ _ _)) ⟨Ln.sameB _ rfl,Ln.sameB _ rfl,Ln.sameB _ rfl,True.intro⟩ rfl ?_)|(refine FCall.pure (cF) ⟨Ln.sameB _ rfl,True.intro⟩ rfl ?_)|(with_reducible refine wP ?_)))
  all_goals (try conv=>whnf)
  all_goals (refine ⟨⟨_,[],[],Cut.nil _,Ln.sameB _ rfl,?_,rfl⟩⟩)
  all_goals (rw [ent_no fun h=>hf (form_b h.fm)])
theorem alike_ok (z e z2 e2:Bool) (a b:Ent) (ha:FormOk a.fm) (hb:FormOk b.fm):ACall Tryz.prog 34 [aEnt z e a,aEnt z2 e2 b] [] (fun r h=>r = .bool (alikeB a b) ∧ h = []):=by
 have c1:=canon_ok z e a.fm ha
 have c2:=canon_ok z2 e2 b.fm hb
 have c3:=first_ok (canZ a.fm) (decide (a.fm.mv.length = 0)) (canZ b.fm) (decide (b.fm.mv.length = 0)) (canF a.fm) (canF b.fm) (mid_of (can_ok ha)) (mid_of (can_ok hb))
 unfold alikeB
 (refine fcall_of mixed Tryz.func34 rfl (by decide) (hs:={ ord:=[(1,[(0,[]),(1,[]),(2,[]),(3,[]),(4,[]),(5,[]),(6,[]),(7,[]),(8,[]),(9,[]),(10,[]),(11,[]),(12,[]),(13,[]),(14,[]),(15,[]),(16,[]),(17,[]),(18,[]),(19,[]),(20,[]),(21,[]),(22,[]),(23,[]),(24,[]),(25,[]),(26,[]),(27,[]),(28,[]),(30,[]),(31,[]),(29,[31]),(32,[]),(33,[]),(34,[]),(35,[]),(36,[])])] }) ?k (ac:=?ac) ?c (rs:=?rs) ?r ?l ?H;(case k=>kernel_rfl);(case c=>(conv=>(lhs;cbv)));(case r=>(conv=>(lhs;cbv)));(case l=>exact Nat.le_of_ble_eq_true rfl))
 by_cases h4:a.lo = b.lo ∧ a.hi = b.hi
 ·have e4:(decide (a.lo = b.lo) && (decide (a.hi = b.hi) && true)) = true:=by rw [decide_eq_true h4.1,decide_eq_true h4.2];rfl
  (repeat' ((try conv=>whnf);first|(with_reducible refine And.intro rfl ?_)|(with_reducible first|refine wT ?_|refine wF ?_|(refine wI (fun hq=>?_) (fun hq=>?_) <;> try simp only [zA,zE,zD,zJ,zB,zI,wK,wL] at hq)|refine wA ?_|refine wB ?_|refine wC ?_|refine wD ?_|refine wE ?_)|((with_reducible refine wN ?_ ?_);focus exact needA)|(with_reducible refine wG ?_)|(refine FCall.pure (c1) ⟨Ln.sameB _ rfl,True.intro⟩ rfl ?_)|(refine FCall.pure (c2) ⟨Ln.sameB _ rfl,True.intro⟩ rfl ?_)|(refine FCall.pure (c3) ⟨Ln.sameB _ rfl,Ln.sameB _ rfl,True.intro⟩ rfl ?_)|(with_reducible refine wP ?_)))
  all_goals (try conv=>whnf)
  all_goals ((refine ⟨⟨_,[],[],Cut.nil _,Ln.sameB _ rfl,?_,rfl⟩⟩);first|(simp_all;done)|skip)
 ·(repeat' ((try conv=>whnf);first|(with_reducible refine And.intro rfl ?_)|(with_reducible first|refine wT ?_|refine wF ?_|(refine wI (fun hq=>?_) (fun hq=>?_) <;> try simp only [zA,zE,zD,zJ,zB,zI,wK,wL] at hq)|refine wA ?_|refine wB ?_|refine wC ?_|refine wD ?_|refine wE ?_)|((with_reducible refine wN ?_ ?_);focus exact needA)|(with_reducible refine wG ?_)|(refine FCall.pure (c1) ⟨Ln.sameB _ rfl,True.intro⟩ rfl ?_)|(refine FCall.pure (c2) ⟨Ln.sameB _ rfl,True.intro⟩ rfl ?_)|(refine FCall.pure (c3) ⟨Ln.sameB _ rfl,Ln.sameB _ rfl,True.intro⟩ rfl ?_)|(with_reducible refine wP ?_)))
  all_goals (try conv=>whnf)
  all_goals ((refine ⟨⟨_,[],[],Cut.nil _,Ln.sameB _ rfl,?_,rfl⟩⟩);first|(simp_all;done)|skip)
end Go.Proofs.YtodpjdmdmmnlpaaGreat

namespace Go.Proofs.YtodpjdmdmmnlpaaGreat
open Go.RowKit

section
variable {σ:Nat → Nat → Prop} {Bp:Nat → Prop} {H:List AB}
theorem Ln.slE {z e e':Bool} {n n' sz:Nat} {c c':Nat → Nat → AV} (hn:n = n') (he:e' = true → e = true) (hc:∀ k,k < n → ∀ o,o < sz → c' k o = c k o):Ln σ Bp H (.sl z e n sz c) (.sl z e' n' sz c'):=by
 subst hn;exact Ln.sl _ _ _ _ _ _ _ he hc
end
/-- What IndexFunc finds, and what is left behind it. -/
theorem drop_idx {s:Int} {R:List Int}:∀ (k i:Nat),i + k = R.length →
  (idxP R.length (fun k=>bitI s (R.getD k 0)) k i = -1 ∧ dropTo s (R.drop i) = none) ∨ ∃ j:Nat,i ≤ j ∧ j < R.length ∧ idxP R.length (fun k=>bitI s (R.getD k 0)) k i = (j:Int) ∧ dropTo s (R.drop i) = some (R.drop (j + 1))
 | 0,i,h=>.inl ⟨rfl,by rw [List.drop_eq_nil_of_le (by omega)];rfl⟩
 | k + 1,i,h=>by
  have hi:i < R.length:=by omega
  rw [drop_eq 0 hi]
  simp only [idxP,dropTo]
  by_cases hb:bitI s (R.getD i 0) = true
  ·rw [if_pos hb,if_pos hb]
   exact .inr ⟨i,Nat.le_refl _,hi,rfl,rfl⟩
  ·rw [if_neg hb,if_neg hb]
   rcases drop_idx (s:=s) (R:=R) k (i + 1) (by omega) with h|⟨j,h1,h2,h3,h4⟩
   ·exact .inl h
   ·exact .inr ⟨j,by omega,h2,h3,h4⟩
abbrev aSpX (x:Int × Int):AV:=aSp x
set_option maxHeartbeats 8000000
set_option maxRecDepth 100000
theorem ev1_sp (F:FuncId) (x:Int × Int) (b:Bool) (hG:ACall Tryz.prog F [aSp x] [] (fun r h=>r = .bool b ∧ h = [])):ACall Tryz.prog 93 [aSp x,iFn (.fn F 0 (ofL []))] [] (fun r h=>r = .bool (!b) ∧ h = []):=by
 (refine fcall_of mixed Tryz.func93 rfl (by decide) (hs:={}) ?k (ac:=?ac) ?c (rs:=?rs) ?r ?l ?H;(case k=>kernel_rfl);(case c=>(conv=>(lhs;cbv)));(case r=>(conv=>(lhs;cbv)));(case l=>exact Nat.le_of_ble_eq_true rfl))
 (repeat' ((try conv=>whnf);first|(with_reducible first|refine wT ?_|refine wF ?_|(refine wI (fun hq=>?_) (fun hq=>?_) <;> try simp only [zA,zE,zD,zJ,zB,zI,wK,wL] at hq)|refine wA ?_|refine wB ?_|refine wC ?_|refine wD ?_|refine wE ?_)|((with_reducible refine wN ?_ ?_);focus exact needA)|(with_reducible refine wG ?_)|(refine FCall.pure (hG) ⟨Ln.sameB _ rfl,True.intro⟩ rfl ?_)|(with_reducible refine wP ?_)))
 all_goals (try conv=>whnf)
 (refine ⟨⟨_,[],[],Cut.nil _,Ln.sameB _ rfl,?_,rfl⟩⟩)
 rfl
theorem every_sp (F:FuncId) (z e:Bool) (l:List (Int × Int)) (q:Int × Int → Bool) (hl:l.length ≤ 1000) (hG:∀ k,k < l.length → ACall Tryz.prog F [aSp (l.getD k (0,0))] [] (fun r h=>r = .bool (q (l.getD k (0,0))) ∧ h = [])):ACall Tryz.prog 68 [aSps z e l,.fn F 0 (ofL [])] [] (fun r h=>r = .bool (l.all q) ∧ h = []):=by
 have hC:=cont_sp 93 1 (ofL [.fn F 0 (ofL [])]) rfl z e l (fun x=>!q x) hl fun k hk=>ev1_sp F _ _ (hG k hk)
 rw [← all_any l q]
 (refine fcall_of mixed Tryz.func68 rfl (by decide) (hs:={}) ?k (ac:=?ac) ?c (rs:=?rs) ?r ?l ?H;(case k=>kernel_rfl);(case c=>(conv=>(lhs;cbv)));(case r=>(conv=>(lhs;cbv)));(case l=>exact Nat.le_of_ble_eq_true rfl))
 (repeat' ((try conv=>whnf);first|(with_reducible first|refine wT ?_|refine wF ?_|(refine wI (fun hq=>?_) (fun hq=>?_) <;> try simp only [zA,zE,zD,zJ,zB,zI,wK,wL] at hq)|refine wA ?_|refine wB ?_|refine wC ?_|refine wD ?_|refine wE ?_)|((with_reducible refine wN ?_ ?_);focus exact needA)|(with_reducible refine wG ?_)|(refine FCall.lend [0] (hC) ⟨Ln.sameB _ rfl,Ln.fnN ⟨True.intro,Ln.box1 (by decide) rfl (Ln.sameB _ rfl) rfl⟩,True.intro⟩ rfl trivial ?_)|(with_reducible refine wP ?_)))
 all_goals (try conv=>whnf)
 (refine ⟨⟨_,[],[],Cut.nil _,Ln.sameB _ rfl,?_,rfl⟩⟩)
 rfl
abbrev fSet : AV:=.fn 65 0 (ofL [])
abbrev fFaces : AV:=.fn 66 1 (ofL [iFn fSet])
theorem set_ok (n m:Int):ACall Tryz.prog 65 [AI n,AI m] [] (fun r h=>r = .bool (inB n 1 m) ∧ h = []):=by
 (refine fcall_of mixed Tryz.func65 rfl (by decide) (hs:={}) ?k (ac:=?ac) ?c (rs:=?rs) ?r ?l ?H;(case k=>kernel_rfl);(case c=>(conv=>(lhs;cbv)));(case r=>(conv=>(lhs;cbv)));(case l=>exact Nat.le_of_ble_eq_true rfl))
 (repeat' ((try conv=>whnf);first|(with_reducible first|refine wT ?_|refine wF ?_|(refine wI (fun hq=>?_) (fun hq=>?_) <;> try simp only [zA,zE,zD,zJ,zB,zI,wK,wL] at hq)|refine wA ?_|refine wB ?_|refine wC ?_|refine wD ?_|refine wE ?_)|((with_reducible refine wN ?_ ?_);focus exact needA)|(with_reducible refine wG ?_)|(refine FCall.pure ((pwithin_ok _ _ _)) ⟨Ln.sameB _ rfl,Ln.sameB _ rfl,Ln.sameB _ rfl,True.intro⟩ rfl ?_)|(with_reducible refine wP ?_)))
 all_goals (try conv=>whnf)
 (refine ⟨⟨_,[],[],Cut.nil _,Ln.sameB _ rfl,?_,rfl⟩⟩)
 rfl
theorem faces_ok (n:Int):ACall Tryz.prog 66 [AI n,iFn fSet] [] (fun r h=>r = .bool (inB n 1 255) ∧ h = []):=by
 (refine fcall_of mixed Tryz.func66 rfl (by decide) (hs:={}) ?k (ac:=?ac) ?c (rs:=?rs) ?r ?l ?H;(case k=>kernel_rfl);(case c=>(conv=>(lhs;cbv)));(case r=>(conv=>(lhs;cbv)));(case l=>exact Nat.le_of_ble_eq_true rfl))
 (repeat' ((try conv=>whnf);first|(with_reducible first|refine wT ?_|refine wF ?_|(refine wI (fun hq=>?_) (fun hq=>?_) <;> try simp only [zA,zE,zD,zJ,zB,zI,wK,wL] at hq)|refine wA ?_|refine wB ?_|refine wC ?_|refine wD ?_|refine wE ?_)|((with_reducible refine wN ?_ ?_);focus exact needA)|(with_reducible refine wG ?_)|(refine FCall.pure ((set_ok _ _)) ⟨Ln.sameB _ rfl,Ln.sameB _ rfl,True.intro⟩ rfl ?_)|(with_reducible refine wP ?_)))
 all_goals (try conv=>whnf)
 (refine ⟨⟨_,[],[],Cut.nil _,Ln.sameB _ rfl,?_,rfl⟩⟩)
 rfl
theorem ordered_ok (x:Int × Int):ACall Tryz.prog 67 [aSp x] [] (fun r h=>r = .bool (decide (x.1 ≤ x.2)) ∧ h = []):=by
 (refine fcall_of mixed Tryz.func67 rfl (by decide) (hs:={}) ?k (ac:=?ac) ?c (rs:=?rs) ?r ?l ?H;(case k=>kernel_rfl);(case c=>(conv=>(lhs;cbv)));(case r=>(conv=>(lhs;cbv)));(case l=>exact Nat.le_of_ble_eq_true rfl))
 (repeat' ((try conv=>whnf);first|(with_reducible first|refine wT ?_|refine wF ?_|(refine wI (fun hq=>?_) (fun hq=>?_) <;> try simp only [zA,zE,zD,zJ,zB,zI,wK,wL] at hq)|refine wA ?_|refine wB ?_|refine wC ?_|refine wD ?_|refine wE ?_)|((with_reducible refine wN ?_ ?_);focus exact needA)|(with_reducible refine wG ?_)|(with_reducible refine wP ?_)))
 all_goals (try conv=>whnf)
 (refine ⟨⟨_,[],[],Cut.nil _,Ln.sameB _ rfl,?_,rfl⟩⟩)
 rfl
theorem ev1_faces (x:Int):ACall Tryz.prog 95 [AI x,iFn fFaces] [] (fun r h=>r = .bool (!inB x 1 255) ∧ h = []):=by
 (refine fcall_of mixed Tryz.func95 rfl (by decide) (hs:={}) ?k (ac:=?ac) ?c (rs:=?rs) ?r ?l ?H;(case k=>kernel_rfl);(case c=>(conv=>(lhs;cbv)));(case r=>(conv=>(lhs;cbv)));(case l=>exact Nat.le_of_ble_eq_true rfl))
 (repeat' ((try conv=>whnf);first|(with_reducible first|refine wT ?_|refine wF ?_|(refine wI (fun hq=>?_) (fun hq=>?_) <;> try simp only [zA,zE,zD,zJ,zB,zI,wK,wL] at hq)|refine wA ?_|refine wB ?_|refine wC ?_|refine wD ?_|refine wE ?_)|((with_reducible refine wN ?_ ?_);focus exact needA)|(with_reducible refine wG ?_)|(refine FCall.pure ((faces_ok _)) ⟨Ln.sameB _ rfl,Ln.sameB _ rfl,True.intro⟩ rfl ?_)|(with_reducible refine wP ?_)))
 all_goals (try conv=>whnf)
 (refine ⟨⟨_,[],[],Cut.nil _,Ln.sameB _ rfl,?_,rfl⟩⟩)
 rfl
theorem every_faces (z e:Bool) (l:List Int) (hl:l.length ≤ 1000):ACall Tryz.prog 69 [aInts z e l,fFaces] [] (fun r h=>r = .bool (l.all fun x=>inB x 1 255) ∧ h = []):=by
 have hC:=cont_int 95 1 (ofL [fFaces]) rfl z e l (fun x=>!inB x 1 255) hl fun k hk=>ev1_faces _
 rw [← all_any l (fun x=>inB x 1 255)]
 (refine fcall_of mixed Tryz.func69 rfl (by decide) (hs:={}) ?k (ac:=?ac) ?c (rs:=?rs) ?r ?l ?H;(case k=>kernel_rfl);(case c=>(conv=>(lhs;cbv)));(case r=>(conv=>(lhs;cbv)));(case l=>exact Nat.le_of_ble_eq_true rfl))
 (repeat' ((try conv=>whnf);first|(with_reducible first|refine wT ?_|refine wF ?_|(refine wI (fun hq=>?_) (fun hq=>?_) <;> try simp only [zA,zE,zD,zJ,zB,zI,wK,wL] at hq)|refine wA ?_|refine wB ?_|refine wC ?_|refine wD ?_|refine wE ?_)|((with_reducible refine wN ?_ ?_);focus exact needA)|(with_reducible refine wG ?_)|(refine FCall.lend [0] (hC) ⟨Ln.sameB _ rfl,Ln.fnN ⟨True.intro,Ln.box1 (by decide) rfl (Ln.sameB _ rfl) rfl⟩,True.intro⟩ rfl trivial ?_)|(with_reducible refine wP ?_)))
 all_goals (try conv=>whnf)
 (refine ⟨⟨_,[],[],Cut.nil _,Ln.sameB _ rfl,?_,rfl⟩⟩)
 rfl
def spsL (s:Seen):List (Int × Int):=[(s.cl,s.ch),(s.rl,s.rh),(s.al,s.ah)]
theorem sps_ln {σ:Nat → Nat → Prop} {Bp:Nat → Prop} {H:List AB} {s:Seen} {c:Nat → Nat → AV} (h:∀ k,k < 3 → ∀ o,o < 2 → (ofL [AI ((spsL s).getD k (0,0)).1,AI ((spsL s).getD k (0,0)).2]:Nat → AV) o = c k o):Ln σ Bp H (.sl false true 3 2 c) (aSps false true (spsL s)):=Ln.sl _ _ _ _ _ _ _ (fun h=>h) h
theorem valid_ok (z e:Bool) (s:Seen) (hs:SeenOk s):ACall Tryz.prog 39 [aSeen z e s] [] (fun r h=>r = .bool true ∧ h = []):=by
 have c1:=every_faces z e s.mv (by have:=hs.n;omega)
 rw [show (s.mv.all fun x=>inB x 1 255) = true from all_of 0 fun k hk=>by have:=hs.mv k hk;simpa using this] at c1
 have c2:=every_sp 67 false true (spsL s) (fun x=>decide (x.1 ≤ x.2)) (by show 3 ≤ 1000;omega) fun k hk=>ordered_ok _
 rw [show ((spsL s).all fun x=>decide (x.1 ≤ x.2)) = true by simp [spsL,hs.co,hs.ro,hs.ag]] at c2
 have a1:=hs.ri;have a2:=hs.le;have a3:=hs.fa;have a4:=hs.rg;have a5:=hs.n;have a6:=hs.lost
 (refine fcall_of mixed Tryz.func39 rfl (by decide) (hs:={}) ?k (ac:=?ac) ?c (rs:=?rs) ?r ?l ?H;(case k=>kernel_rfl);(case c=>(conv=>(lhs;cbv)));(case r=>(conv=>(lhs;cbv)));(case l=>exact Nat.le_of_ble_eq_true rfl))
 (repeat' ((try conv=>whnf);first|(with_reducible first|refine wT ?_|refine wF ?_|(refine wI (fun hq=>?_) (fun hq=>?_) <;> try simp only [zA,zE,zD,zJ,zB,zI,wK,wL] at hq)|refine wA ?_|refine wB ?_|refine wC ?_|refine wD ?_|refine wE ?_)|((with_reducible refine wN ?_ ?_);focus exact needA)|(with_reducible refine wG ?_)|(refine FCall.pure ((set_ok _ _)) ⟨Ln.sameB _ rfl,Ln.sameB _ rfl,True.intro⟩ rfl ?_)|(refine FCall.lend [1] ((faces_ok _)) ⟨Ln.sameB _ rfl,Ln.box1 (by decide) rfl (Ln.sameB _ rfl) rfl,True.intro⟩ rfl trivial ?_)|(refine FCall.pure ((pwithin_ok _ _ _)) ⟨Ln.sameB _ rfl,Ln.sameB _ rfl,Ln.sameB _ rfl,True.intro⟩ rfl ?_)|(refine FCall.pure c2 ⟨sps_ln (fun k hk o ho=>by rcases (show k = 0 ∨ k = 1 ∨ k = 2 by omega) with rfl|rfl|rfl <;> rcases (show o = 0 ∨ o = 1 by omega) with rfl|rfl <;> rfl),Ln.sameB _ rfl,True.intro⟩ rfl ?_)|(refine FCall.lend [1] (c1) ⟨Ln.sameB _ rfl,Ln.fnN ⟨True.intro,Ln.box1 (by decide) rfl (Ln.sameB _ rfl) rfl⟩,True.intro⟩ rfl trivial ?_)|(with_reducible refine wP ?_)))
 all_goals (try conv=>whnf)
 all_goals first
  | (exfalso;omega)
  | ((refine ⟨⟨_,[],[],Cut.nil _,Ln.sameB _ rfl,?_,rfl⟩⟩);exact bool_eq (decide_eq_true (by omega)))
  | ((refine ⟨⟨_,[],[],Cut.nil _,Ln.sameB _ rfl,?_,rfl⟩⟩);rfl)
  | skip
theorem meet_ok (x:Ent) (s:Seen):ACall Tryz.prog 70 [aSp (x.lo,x.hi),aSp (s.al,s.ah)] [] (fun r h=>r = .bool (meetB x s) ∧ h = []):=by
 unfold meetB
 (refine fcall_of mixed Tryz.func70 rfl (by decide) (hs:={}) ?k (ac:=?ac) ?c (rs:=?rs) ?r ?l ?H;(case k=>kernel_rfl);(case c=>(conv=>(lhs;cbv)));(case r=>(conv=>(lhs;cbv)));(case l=>exact Nat.le_of_ble_eq_true rfl))
 (repeat' ((try conv=>whnf);first|(with_reducible first|refine wT ?_|refine wF ?_|(refine wI (fun hq=>?_) (fun hq=>?_) <;> try simp only [zA,zE,zD,zJ,zB,zI,wK,wL] at hq)|refine wA ?_|refine wB ?_|refine wC ?_|refine wD ?_|refine wE ?_)|((with_reducible refine wN ?_ ?_);focus exact needA)|(with_reducible refine wG ?_)|(with_reducible refine wP ?_)))
 all_goals (try conv=>whnf)
 all_goals ((refine ⟨⟨_,[],[],Cut.nil _,Ln.sameB _ rfl,?_,rfl⟩⟩);exact bool_eq (by rw [Bool.eq_iff_iff];simp only [Bool.and_eq_true,decide_eq_true_eq,Bool.false_eq_true,false_iff];omega))
theorem moved1_ok (set d:Int) (h1:0 ≤ set) (h2:0 ≤ d ∧ d ≤ 7):ACall Tryz.prog 110 [AI d,iInt set] [] (fun r h=>r = .bool (bitI set d) ∧ h = []):=by
 unfold bitI
 (refine fcall_of mixed Tryz.func110 rfl (by decide) (hs:={}) ?k (ac:=?ac) ?c (rs:=?rs) ?r ?l ?H;(case k=>kernel_rfl);(case c=>(conv=>(lhs;cbv)));(case r=>(conv=>(lhs;cbv)));(case l=>exact Nat.le_of_ble_eq_true rfl))
 cases hb:set.toNat.testBit d.toNat
 ·(repeat' ((try conv=>whnf);first|(with_reducible first|refine wT ?_|refine wF ?_|(refine wI (fun hq=>?_) (fun hq=>?_) <;> try simp only [zA,zE,zD,zJ,zB,zI,wK,wL] at hq)|refine wA ?_|refine wB ?_|refine wC ?_|refine wD ?_|refine wE ?_)|((with_reducible refine wN ?_ ?_);focus exact needA)|(with_reducible first|refine FBit.hasT rfl (by assumption) ?_|refine FBit.hasF rfl (by assumption) ?_|refine FBit.shrN rfl (by omega) ?_|refine FBit.half rfl ?_|refine FBit.shl1 rfl (by omega) ?_|refine Fits.inU (by omega) ?_|refine FBit.shrNI rfl (by omega) ?_|refine FBit.shrIN rfl (by omega) (by omega) ?_|refine FBit.shrI rfl (by omega) (by omega) ?_|refine FBit.shl1I rfl (by omega) ?_)|(with_reducible refine FBit.has rfl (fun hq=>?_) (fun hq=>?_))|(with_reducible first|refine FBit.and1 rfl ?_|refine FBit.andN rfl (by omega) (by omega) ?_|refine FBit.orN rfl (by omega) (by omega) ?_|refine FBit.andNotN rfl (by omega) (by omega) ?_)|(with_reducible refine wG ?_)|(with_reducible refine wP ?_)))
  all_goals (try conv=>whnf)
  all_goals ((refine ⟨⟨_,[],[],Cut.nil _,Ln.sameB _ rfl,?_,rfl⟩⟩);rfl)
 ·(repeat' ((try conv=>whnf);first|(with_reducible first|refine wT ?_|refine wF ?_|(refine wI (fun hq=>?_) (fun hq=>?_) <;> try simp only [zA,zE,zD,zJ,zB,zI,wK,wL] at hq)|refine wA ?_|refine wB ?_|refine wC ?_|refine wD ?_|refine wE ?_)|((with_reducible refine wN ?_ ?_);focus exact needA)|(with_reducible first|refine FBit.hasT rfl (by assumption) ?_|refine FBit.hasF rfl (by assumption) ?_|refine FBit.shrN rfl (by omega) ?_|refine FBit.half rfl ?_|refine FBit.shl1 rfl (by omega) ?_|refine Fits.inU (by omega) ?_|refine FBit.shrNI rfl (by omega) ?_|refine FBit.shrIN rfl (by omega) (by omega) ?_|refine FBit.shrI rfl (by omega) (by omega) ?_|refine FBit.shl1I rfl (by omega) ?_)|(with_reducible refine FBit.has rfl (fun hq=>?_) (fun hq=>?_))|(with_reducible first|refine FBit.and1 rfl ?_|refine FBit.andN rfl (by omega) (by omega) ?_|refine FBit.orN rfl (by omega) (by omega) ?_|refine FBit.andNotN rfl (by omega) (by omega) ?_)|(with_reducible refine wG ?_)|(with_reducible refine wP ?_)))
  all_goals (try conv=>whnf)
  all_goals ((refine ⟨⟨_,[],[],Cut.nil _,Ln.sameB _ rfl,?_,rfl⟩⟩);rfl)
theorem moved_ok (z e z2 e2:Bool) (s:Seen) (ms:List Int) (hs:SeenOk s) (hn:ms.length ≤ 1000) (hm:∀ k,k < ms.length → 0 ≤ ms.getD k 0 ∧ ms.getD k 0 ≤ 7):ACall Tryz.prog 96 [aSeen z e s,aInts z2 e2 ms] [] (fun r h=>r = .bool (movedB ms s.mv s.lost) ∧ h = []):=by
 have n6:=hs.n
 unfold movedB
 have cW:=pwithin_ok ((ms.length:Int) - s.mv.length) 0 s.lost
 (refine fcall_of mixed Tryz.func96 rfl (by decide) (hs:={}) ?k (ac:=?ac) ?c (rs:=?rs) ?r ?l ?H;(case k=>kernel_rfl);(case c=>(conv=>(lhs;cbv)));(case r=>(conv=>(lhs;cbv)));(case l=>exact Nat.le_of_ble_eq_true rfl))
 cases hw:inB ((ms.length:Int) - s.mv.length) 0 s.lost
 ·rw [hw] at cW
  (repeat' ((try conv=>whnf);first|(with_reducible first|refine wT ?_|refine wF ?_|(refine wI (fun hq=>?_) (fun hq=>?_) <;> try simp only [zA,zE,zD,zJ,zB,zI,wK,wL] at hq)|refine wA ?_|refine wB ?_|refine wC ?_|refine wD ?_|refine wE ?_)|((with_reducible refine wN ?_ ?_);focus exact needA)|(with_reducible refine wG ?_)|(refine FCall.pure (cW) ⟨Ln.sameB _ rfl,Ln.sameB _ rfl,Ln.sameB _ rfl,True.intro⟩ rfl ?_)|(with_reducible refine wP ?_)))
  all_goals (try conv=>whnf)
  all_goals ((refine ⟨⟨_,[],[],Cut.nil _,Ln.sameB _ rfl,?_,rfl⟩⟩);rfl)
 ·rw [hw] at cW
  (repeat' ((try conv=>whnf);first|(with_reducible first|refine wT ?_|refine wF ?_|(refine wI (fun hq=>?_) (fun hq=>?_) <;> try simp only [zA,zE,zD,zJ,zB,zI,wK,wL] at hq)|refine wA ?_|refine wB ?_|refine wC ?_|refine wD ?_|refine wE ?_)|((with_reducible refine wN ?_ ?_);focus exact needA)|(with_reducible refine wG ?_)|(refine FCall.pure (cW) ⟨Ln.sameB _ rfl,Ln.sameB _ rfl,Ln.sameB _ rfl,True.intro⟩ rfl ?_)|(with_reducible refine wP ?_)))
  all_goals (try conv=>whnf)
  refine FLoop.of (ACalls.mono _) (X:=Nat × List Int) (fun x=>[(1,aInts z2 e2 x.2),(24,aInts z e s.mv),(25,AI s.mv.length),(26,AI x.1)]) (fun _=>[]) (fun x=>x.1 ≤ s.mv.length ∧ greedy s.mv ms = greedy (s.mv.drop x.1) x.2 ∧ x.2.length ≤ 1000 ∧ ∀ k,k < x.2.length → 0 ≤ x.2.getD k 0 ∧ x.2.getD k 0 ≤ 7) (fun x=>s.mv.length - x.1) (0,ms) ⟨⟨Nat.zero_le _,rfl,hn,hm⟩,[],Cut.A,allA⟩ ?_
  rintro ⟨i,R⟩ ⟨hi,hL,hR,hRm⟩
  change i ≤ s.mv.length at hi
  change greedy s.mv ms = greedy (s.mv.drop i) R at hL
  change R.length ≤ 1000 at hR
  change ∀ k,k < R.length → 0 ≤ R.getD k 0 ∧ R.getD k 0 ≤ 7 at hRm
  dsimp only
  by_cases hlt:i < s.mv.length
  ·have hsm:=hs.mv i hlt
   rw [drop_eq 0 hlt] at hL
   simp only [greedy] at hL
   have cI:=idx_int 110 1 (ofL [AI (s.mv.getD i 0)]) rfl z2 e2 R (bitI (s.mv.getD i 0)) hR fun k hk=>moved1_ok _ _ (by omega) (hRm k hk)
   rcases drop_idx (s:=s.mv.getD i 0) (R:=R) R.length 0 (by omega) with ⟨h1,h2⟩|⟨j,h1,h2,h3,h4⟩
   ·rw [List.drop_zero] at h2
    rw [h2] at hL
    rw [h1] at cI
    rw [hL]
    (repeat' ((try conv=>whnf);first|(with_reducible first|refine wT ?_|refine wF ?_|(refine wI (fun hq=>?_) (fun hq=>?_) <;> try simp only [zA,zE,zD,zJ,zB,zI,wK,wL] at hq)|refine wA ?_|refine wB ?_|refine wC ?_|refine wD ?_|refine wE ?_)|((with_reducible refine wN ?_ ?_);focus exact needA)|(with_reducible refine wG ?_)|(refine FCall.lend [0] (cI) ⟨Ln.sameB _ rfl,Ln.fnN ⟨True.intro,Ln.box1 (by decide) rfl (Ln.sameB _ rfl) rfl⟩,True.intro⟩ rfl trivial ?_)|(with_reducible refine wP ?_)))
    all_goals (try conv=>whnf)
    all_goals ((refine ⟨⟨_,[],[],Cut.nil _,Ln.sameB _ rfl,?_,rfl⟩⟩);rfl)
   ·rw [List.drop_zero] at h4
    rw [h4] at hL
    rw [h3] at cI
    (repeat' ((try conv=>whnf);first|(with_reducible first|refine wT ?_|refine wF ?_|(refine wI (fun hq=>?_) (fun hq=>?_) <;> try simp only [zA,zE,zD,zJ,zB,zI,wK,wL] at hq)|refine wA ?_|refine wB ?_|refine wC ?_|refine wD ?_|refine wE ?_)|((with_reducible refine wN ?_ ?_);focus exact needA)|(with_reducible refine wG ?_)|(refine FCall.lend [0] (cI) ⟨Ln.sameB _ rfl,Ln.fnN ⟨True.intro,Ln.box1 (by decide) rfl (Ln.sameB _ rfl) rfl⟩,True.intro⟩ rfl trivial ?_)|(with_reducible refine wP ?_)))
    all_goals (try conv=>whnf)
    have hd:(R.drop (j + 1)).length = R.length - (j + 1):=List.length_drop
    have hg:∀ k,(R.drop (j + 1)).getD k 0 = R.getD (k + (j + 1)) 0:=fun k=>by simp [List.getD,Nat.add_comm]
    exact ⟨⟨(i + 1,R.drop (j + 1)),⟨hlt,hL,by show (R.drop (j + 1)).length ≤ 1000;omega,fun k hk=>by have hk:k < (R.drop (j + 1)).length:=hk;show 0 ≤ (R.drop (j + 1)).getD k 0 ∧ (R.drop (j + 1)).getD k 0 ≤ 7;rw [hg];exact hRm _ (by omega)⟩,by show _ < _;omega,[],Cut.nil _,Ln.slE (by rw [hd];omega) (fun h=>h) (fun k hk o ho=>by show AI ((R.drop (j + 1)).getD k 0) = AI (R.getD (k + ((j:Int) + 1).toNat) 0);rw [hg,show ((j:Int) + 1).toNat = j + 1 by omega]),Ln.A,Ln.A,Ln.A,True.intro⟩⟩
  ·rw [List.drop_eq_nil_of_le (show s.mv.length ≤ i by omega)] at hL
   rw [hL]
   (repeat' ((try conv=>whnf);first|(with_reducible first|refine wT ?_|refine wF ?_|(refine wI (fun hq=>?_) (fun hq=>?_) <;> try simp only [zA,zE,zD,zJ,zB,zI,wK,wL] at hq)|refine wA ?_|refine wB ?_|refine wC ?_|refine wD ?_|refine wE ?_)|((with_reducible refine wN ?_ ?_);focus exact needA)|(with_reducible refine wG ?_)|(with_reducible refine wP ?_)))
   all_goals (try conv=>whnf)
   all_goals ((refine ⟨⟨_,[],[],Cut.nil _,Ln.sameB _ rfl,?_,rfl⟩⟩);rfl)
end Go.Proofs.YtodpjdmdmmnlpaaGreat

namespace Go.Proofs.YtodpjdmdmmnlpaaGreat
open Go.RowKit

set_option maxHeartbeats 8000000
set_option maxRecDepth 100000
theorem shows_ok (z e z2 e2:Bool) (f:Form) (s:Seen) (hf:FormOk f) (hs:SeenOk s):ACall Tryz.prog 71 [aSeen z2 e2 s,aForm z e f] [] (fun r h=>r = .bool (showsP f s) ∧ h = []):=by
 have f1:=hf.r
 have f2:=hf.l
 have f3:=hf.fc
 have s1:=hs.ri
 have s2:=hs.le
 have s3:=hs.fa
 have c4:=pwithin_ok f.c s.cl s.ch
 have c5:=pwithin_ok f.w s.rl s.rh
 have c6:=moved_ok z2 e2 z e s f.mv hs (by have:=hf.n;omega) hf.mv
 unfold showsP handsB bitI
 (refine fcall_of mixed Tryz.func71 rfl (by decide) (hs:={}) ?k (ac:=?ac) ?c (rs:=?rs) ?r ?l ?H;(case k=>kernel_rfl);(case c=>(conv=>(lhs;cbv)));(case r=>(conv=>(lhs;cbv)));(case l=>exact Nat.le_of_ble_eq_true rfl))
 generalize inB f.c s.cl s.ch = b4 at *
 generalize inB f.w s.rl s.rh = b5 at *
 generalize movedB f.mv s.mv s.lost = b6 at *
 cases h1:s.ri.toNat.testBit (f.r + 1).toNat
 ·(repeat' ((try conv=>whnf);first|(with_reducible first|refine wT ?_|refine wF ?_|(refine wI (fun hq=>?_) (fun hq=>?_) <;> try simp only [zA,zE,zD,zJ,zB,zI,wK,wL] at hq)|refine wA ?_|refine wB ?_|refine wC ?_|refine wD ?_|refine wE ?_)|((with_reducible refine wN ?_ ?_);focus exact needA)|(with_reducible first|refine FBit.hasT rfl (by assumption) ?_|refine FBit.hasF rfl (by assumption) ?_|refine FBit.shrN rfl (by omega) ?_|refine FBit.half rfl ?_|refine FBit.shl1 rfl (by omega) ?_|refine Fits.inU (by omega) ?_|refine FBit.shrNI rfl (by omega) ?_|refine FBit.shrIN rfl (by omega) (by omega) ?_|refine FBit.shrI rfl (by omega) (by omega) ?_|refine FBit.shl1I rfl (by omega) ?_)|(with_reducible refine FBit.has rfl (fun hq=>?_) (fun hq=>?_))|(with_reducible first|refine FBit.and1 rfl ?_|refine FBit.andN rfl (by omega) (by omega) ?_|refine FBit.orN rfl (by omega) (by omega) ?_|refine FBit.andNotN rfl (by omega) (by omega) ?_)|(with_reducible refine wG ?_)|(refine FCall.pure (c4) ⟨Ln.sameB _ rfl,Ln.sameB _ rfl,Ln.sameB _ rfl,True.intro⟩ rfl ?_)|(refine FCall.pure (c5) ⟨Ln.sameB _ rfl,Ln.sameB _ rfl,Ln.sameB _ rfl,True.intro⟩ rfl ?_)|(refine FCall.pure (c6) ⟨Ln.sameB _ rfl,Ln.sameB _ rfl,True.intro⟩ rfl ?_)|(with_reducible refine wP ?_)))
  all_goals (try conv=>whnf)
  all_goals ((refine ⟨⟨_,[],[],Cut.nil _,Ln.sameB _ rfl,?_,rfl⟩⟩);rfl)
 ·cases h2:s.le.toNat.testBit (f.l + 1).toNat
  ·(repeat' ((try conv=>whnf);first|(with_reducible first|refine wT ?_|refine wF ?_|(refine wI (fun hq=>?_) (fun hq=>?_) <;> try simp only [zA,zE,zD,zJ,zB,zI,wK,wL] at hq)|refine wA ?_|refine wB ?_|refine wC ?_|refine wD ?_|refine wE ?_)|((with_reducible refine wN ?_ ?_);focus exact needA)|(with_reducible first|refine FBit.hasT rfl (by assumption) ?_|refine FBit.hasF rfl (by assumption) ?_|refine FBit.shrN rfl (by omega) ?_|refine FBit.half rfl ?_|refine FBit.shl1 rfl (by omega) ?_|refine Fits.inU (by omega) ?_|refine FBit.shrNI rfl (by omega) ?_|refine FBit.shrIN rfl (by omega) (by omega) ?_|refine FBit.shrI rfl (by omega) (by omega) ?_|refine FBit.shl1I rfl (by omega) ?_)|(with_reducible refine FBit.has rfl (fun hq=>?_) (fun hq=>?_))|(with_reducible first|refine FBit.and1 rfl ?_|refine FBit.andN rfl (by omega) (by omega) ?_|refine FBit.orN rfl (by omega) (by omega) ?_|refine FBit.andNotN rfl (by omega) (by omega) ?_)|(with_reducible refine wG ?_)|(refine FCall.pure (c4) ⟨Ln.sameB _ rfl,Ln.sameB _ rfl,Ln.sameB _ rfl,True.intro⟩ rfl ?_)|(refine FCall.pure (c5) ⟨Ln.sameB _ rfl,Ln.sameB _ rfl,Ln.sameB _ rfl,True.intro⟩ rfl ?_)|(refine FCall.pure (c6) ⟨Ln.sameB _ rfl,Ln.sameB _ rfl,True.intro⟩ rfl ?_)|(with_reducible refine wP ?_)))
   all_goals (try conv=>whnf)
   all_goals ((refine ⟨⟨_,[],[],Cut.nil _,Ln.sameB _ rfl,?_,rfl⟩⟩);rfl)
  ·cases h3:s.fa.toNat.testBit f.f.toNat
   ·cases b4 <;> cases b5
    all_goals
     (repeat' ((try conv=>whnf);first|(with_reducible first|refine wT ?_|refine wF ?_|(refine wI (fun hq=>?_) (fun hq=>?_) <;> try simp only [zA,zE,zD,zJ,zB,zI,wK,wL] at hq)|refine wA ?_|refine wB ?_|refine wC ?_|refine wD ?_|refine wE ?_)|((with_reducible refine wN ?_ ?_);focus exact needA)|(with_reducible first|refine FBit.hasT rfl (by assumption) ?_|refine FBit.hasF rfl (by assumption) ?_|refine FBit.shrN rfl (by omega) ?_|refine FBit.half rfl ?_|refine FBit.shl1 rfl (by omega) ?_|refine Fits.inU (by omega) ?_|refine FBit.shrNI rfl (by omega) ?_|refine FBit.shrIN rfl (by omega) (by omega) ?_|refine FBit.shrI rfl (by omega) (by omega) ?_|refine FBit.shl1I rfl (by omega) ?_)|(with_reducible refine FBit.has rfl (fun hq=>?_) (fun hq=>?_))|(with_reducible first|refine FBit.and1 rfl ?_|refine FBit.andN rfl (by omega) (by omega) ?_|refine FBit.orN rfl (by omega) (by omega) ?_|refine FBit.andNotN rfl (by omega) (by omega) ?_)|(with_reducible refine wG ?_)|(refine FCall.pure (c4) ⟨Ln.sameB _ rfl,Ln.sameB _ rfl,Ln.sameB _ rfl,True.intro⟩ rfl ?_)|(refine FCall.pure (c5) ⟨Ln.sameB _ rfl,Ln.sameB _ rfl,Ln.sameB _ rfl,True.intro⟩ rfl ?_)|(refine FCall.pure (c6) ⟨Ln.sameB _ rfl,Ln.sameB _ rfl,True.intro⟩ rfl ?_)|(with_reducible refine wP ?_)))
     all_goals (try conv=>whnf)
     all_goals ((refine ⟨⟨_,[],[],Cut.nil _,Ln.sameB _ rfl,?_,rfl⟩⟩);rfl)
   ·cases b4 <;> cases b5
    all_goals
     (repeat' ((try conv=>whnf);first|(with_reducible first|refine wT ?_|refine wF ?_|(refine wI (fun hq=>?_) (fun hq=>?_) <;> try simp only [zA,zE,zD,zJ,zB,zI,wK,wL] at hq)|refine wA ?_|refine wB ?_|refine wC ?_|refine wD ?_|refine wE ?_)|((with_reducible refine wN ?_ ?_);focus exact needA)|(with_reducible first|refine FBit.hasT rfl (by assumption) ?_|refine FBit.hasF rfl (by assumption) ?_|refine FBit.shrN rfl (by omega) ?_|refine FBit.half rfl ?_|refine FBit.shl1 rfl (by omega) ?_|refine Fits.inU (by omega) ?_|refine FBit.shrNI rfl (by omega) ?_|refine FBit.shrIN rfl (by omega) (by omega) ?_|refine FBit.shrI rfl (by omega) (by omega) ?_|refine FBit.shl1I rfl (by omega) ?_)|(with_reducible refine FBit.has rfl (fun hq=>?_) (fun hq=>?_))|(with_reducible first|refine FBit.and1 rfl ?_|refine FBit.andN rfl (by omega) (by omega) ?_|refine FBit.orN rfl (by omega) (by omega) ?_|refine FBit.andNotN rfl (by omega) (by omega) ?_)|(with_reducible refine wG ?_)|(refine FCall.pure (c4) ⟨Ln.sameB _ rfl,Ln.sameB _ rfl,Ln.sameB _ rfl,True.intro⟩ rfl ?_)|(refine FCall.pure (c5) ⟨Ln.sameB _ rfl,Ln.sameB _ rfl,Ln.sameB _ rfl,True.intro⟩ rfl ?_)|(refine FCall.pure (c6) ⟨Ln.sameB _ rfl,Ln.sameB _ rfl,True.intro⟩ rfl ?_)|(with_reducible refine wP ?_)))
     all_goals (try conv=>whnf)
     all_goals ((refine ⟨⟨_,[],[],Cut.nil _,Ln.sameB _ rfl,?_,rfl⟩⟩);first|rfl|(cases b6 <;> rfl))
theorem pagrees_ok (z e z2 e2:Bool) (x:Ent) (s:Seen) (hf:FormOk x.fm) (hr:1 ≤ x.rg ∧ x.rg ≤ 255) (hs:SeenOk s):ACall Tryz.prog 40 [aSeen z2 e2 s,aEnt z e x] [] (fun r h=>r = .bool (agP x s) ∧ h = []):=by
 have m2:=hs.rg
 have c1:=shows_ok z e z2 e2 x.fm s hf hs
 have cM:=pmirror_ok z e x.fm (mid_of hf)
 have c2:=shows_ok z (decide ((mirF x.fm).mv.length = 0)) z2 e2 (mirF x.fm) s (mir_ok hf) hs
 have cm:=meet_ok x s
 unfold agP
 have hreg:regB x s = decide (x.rg.toNat &&& s.rg.toNat ≠ 0):=rfl
 rw [hreg]
 obtain ⟨a,ha⟩:∃ a:Nat,x.rg = a:=⟨x.rg.toNat,by omega⟩
 obtain ⟨b,hb⟩:∃ b:Nat,s.rg = b:=⟨s.rg.toNat,by omega⟩
 rw [ha,hb,Int.toNat_natCast,Int.toNat_natCast]
 (refine fcall_of mixed Tryz.func40 rfl (by decide) (hs:={ ord:=[(1,[(0,[]),(1,[]),(2,[]),(3,[]),(4,[]),(5,[]),(6,[]),(7,[]),(8,[]),(9,[]),(10,[]),(11,[]),(12,[]),(13,[]),(14,[]),(15,[]),(16,[]),(17,[]),(18,[]),(19,[]),(20,[]),(21,[]),(22,[]),(23,[]),(24,[21]),(25,[]),(26,[]),(27,[]),(28,[])])] }) ?k (ac:=?ac) ?c (rs:=?rs) ?r ?l ?H;(case k=>kernel_rfl);(case c=>(conv=>(lhs;cbv)));(case r=>(conv=>(lhs;cbv)));(case l=>exact Nat.le_of_ble_eq_true rfl))
 by_cases h1:a &&& b = 0
 ·rw [show decide (a &&& b ≠ 0) = false from decide_eq_false (fun h=>h h1)]
  (repeat' ((try conv=>whnf);first|(with_reducible first|refine wT ?_|refine wF ?_|(refine wI (fun hq=>?_) (fun hq=>?_) <;> try simp only [zA,zE,zD,zJ,zB,zI,wK,wL] at hq)|refine wA ?_|refine wB ?_|refine wC ?_|refine wD ?_|refine wE ?_)|((with_reducible refine wN ?_ ?_);focus exact needA)|(with_reducible refine wG ?_)|(refine FBit.andI rfl (a:=a) (b:=b) ha hb (by omega) (by omega) ?_)|(with_reducible refine wP ?_)))
  all_goals (try conv=>whnf)
  all_goals first|(exfalso;omega)|((refine ⟨⟨_,[],[],Cut.nil _,Ln.sameB _ rfl,?_,rfl⟩⟩);rfl)
 ·rw [show decide (a &&& b ≠ 0) = true from decide_eq_true h1]
  generalize showsP x.fm s = b1 at *
  generalize showsP (mirF x.fm) s = b2 at *
  generalize meetB x s = b3 at *
  cases b3
  ·(repeat' ((try conv=>whnf);first|(with_reducible first|refine wT ?_|refine wF ?_|(refine wI (fun hq=>?_) (fun hq=>?_) <;> try simp only [zA,zE,zD,zJ,zB,zI,wK,wL] at hq)|refine wA ?_|refine wB ?_|refine wC ?_|refine wD ?_|refine wE ?_)|((with_reducible refine wN ?_ ?_);focus exact needA)|(with_reducible refine wG ?_)|(refine FBit.andI rfl (a:=a) (b:=b) ha hb (by omega) (by omega) ?_)|(refine FCall.pure (cm) ⟨Ln.sameB _ rfl,Ln.sameB _ rfl,True.intro⟩ rfl ?_)|(refine FCall.pure (c1) ⟨Ln.sameB _ rfl,Ln.sameB _ rfl,True.intro⟩ rfl ?_)|(refine FCall.pure (cM) ⟨Ln.sameB _ rfl,True.intro⟩ rfl ?_)|(refine FCall.pure (c2) ⟨Ln.sameB _ rfl,Ln.sameB _ rfl,True.intro⟩ rfl ?_)|(with_reducible refine wP ?_)))
   all_goals (try conv=>whnf)
   all_goals first|(exfalso;omega)|((refine ⟨⟨_,[],[],Cut.nil _,Ln.sameB _ rfl,?_,rfl⟩⟩);rfl)
  ·cases b1
   ·(repeat' ((try conv=>whnf);first|(with_reducible first|refine wT ?_|refine wF ?_|(refine wI (fun hq=>?_) (fun hq=>?_) <;> try simp only [zA,zE,zD,zJ,zB,zI,wK,wL] at hq)|refine wA ?_|refine wB ?_|refine wC ?_|refine wD ?_|refine wE ?_)|((with_reducible refine wN ?_ ?_);focus exact needA)|(with_reducible refine wG ?_)|(refine FBit.andI rfl (a:=a) (b:=b) ha hb (by omega) (by omega) ?_)|(refine FCall.pure (cm) ⟨Ln.sameB _ rfl,Ln.sameB _ rfl,True.intro⟩ rfl ?_)|(refine FCall.pure (c1) ⟨Ln.sameB _ rfl,Ln.sameB _ rfl,True.intro⟩ rfl ?_)|(refine FCall.pure (cM) ⟨Ln.sameB _ rfl,True.intro⟩ rfl ?_)|(refine FCall.pure (c2) ⟨Ln.sameB _ rfl,Ln.sameB _ rfl,True.intro⟩ rfl ?_)|(with_reducible refine wP ?_)))
    all_goals (try conv=>whnf)
    all_goals first|(exfalso;omega)|((refine ⟨⟨_,[],[],Cut.nil _,Ln.sameB _ rfl,?_,rfl⟩⟩);first|rfl|(cases b2 <;> rfl))
   ·(repeat' ((try conv=>whnf);first|(with_reducible first|refine wT ?_|refine wF ?_|(refine wI (fun hq=>?_) (fun hq=>?_) <;> try simp only [zA,zE,zD,zJ,zB,zI,wK,wL] at hq)|refine wA ?_|refine wB ?_|refine wC ?_|refine wD ?_|refine wE ?_)|((with_reducible refine wN ?_ ?_);focus exact needA)|(with_reducible refine wG ?_)|(refine FBit.andI rfl (a:=a) (b:=b) ha hb (by omega) (by omega) ?_)|(refine FCall.pure (cm) ⟨Ln.sameB _ rfl,Ln.sameB _ rfl,True.intro⟩ rfl ?_)|(refine FCall.pure (c1) ⟨Ln.sameB _ rfl,Ln.sameB _ rfl,True.intro⟩ rfl ?_)|(refine FCall.pure (cM) ⟨Ln.sameB _ rfl,True.intro⟩ rfl ?_)|(refine FCall.pure (c2) ⟨Ln.sameB _ rfl,Ln.sameB _ rfl,True.intro⟩ rfl ?_)|(with_reducible refine wP ?_)))
    all_goals (try conv=>whnf)
    all_goals first|(exfalso;omega)|((refine ⟨⟨_,[],[],Cut.nil _,Ln.sameB _ rfl,?_,rfl⟩⟩);first|rfl|(cases b2 <;> rfl))
end Go.Proofs.YtodpjdmdmmnlpaaGreat

namespace Go.Proofs.YtodpjdmdmmnlpaaGreat
open Go.RowKit

/-- The first entries with their Ids, of the first k. -/
def fstK (l:List Ent):Nat → List Nat
 | 0=>[]
 | k + 1=>if (fstK l k).any (fun i=>decide ((l.getD i en0).id = (l.getD k en0).id)) then fstK l k else fstK l k ++ [k]
theorem fst_lt {l:List Ent}:∀ {k i:Nat},i ∈ fstK l k → i < k
 | 0,i,h=>by cases h
 | k + 1,i,h=>by
  simp only [fstK] at h
  split at h
  ·exact Nat.lt_succ_of_lt (fst_lt h)
  ·rcases List.mem_append.1 h with h|h
   ·exact Nat.lt_succ_of_lt (fst_lt h)
   ·rw [List.mem_singleton.1 h];exact Nat.lt_succ_self _
theorem fst_len {l:List Ent}:∀ k,(fstK l k).length ≤ k
 | 0=>Nat.le_refl _
 | k + 1=>by
  have:=fst_len (l:=l) k
  simp only [fstK]
  split
  ·omega
  ·rw [List.length_append];simp;omega
theorem fst_all {l:List Ent}:∀ {k i:Nat},i < k → ∃ j,j ∈ fstK l k ∧ (l.getD j en0).id = (l.getD i en0).id ∧ j ≤ i
 | k + 1,i,h=>by
  simp only [fstK]
  by_cases e:i = k
  ·subst e
   split
   ·rename_i ha
    obtain ⟨j,hj,he⟩:=List.any_eq_true.1 ha
    exact ⟨j,hj,of_decide_eq_true he,Nat.le_of_lt (fst_lt hj)⟩
   ·exact ⟨i,List.mem_append.2 (.inr (List.mem_singleton.2 rfl)),rfl,Nat.le_refl _⟩
  ·obtain ⟨j,h1,h2,h3⟩:=fst_all (l:=l) (show i < k by omega)
   split
   ·exact ⟨j,h1,h2,h3⟩
   ·exact ⟨j,List.mem_append.2 (.inl h1),h2,h3⟩
def vE (f:EnF) (l:List Ent) (i:Nat):AV:=aEnt (f.fz i) (decide ((canF (l.getD i en0).fm).mv.length = 0)) (canE (l.getD i en0))
def pE (f:EnF) (l:List Ent) (i:Nat):List Int × AV:=([(l.getD i en0).id],vE f l i)
def bookL (f:EnF) (l:List Ent) (k:Nat):List (List Int × AV):=(fstK l k).map (pE f l)
theorem look_none {f:EnF} {l:List Ent} {n:Int}:∀ {I:List Nat},I.any (fun i=>decide ((l.getD i en0).id = n)) = false → alook (I.map (pE f l)) [n] = none ∧ ∀ v,aput (I.map (pE f l)) [n] v = I.map (pE f l) ++ [([n],v)]
 | [],_=>⟨rfl,fun v=>rfl⟩
 | i :: I,h=>by
  simp only [List.any_cons,Bool.or_eq_false_iff,decide_eq_false_iff_not] at h
  obtain ⟨h1,h2⟩:=look_none (f:=f) (I:=I) h.2
  have hb:((pE f l i).1 == [n]) = false:=by
   show ([(l.getD i en0).id] == [n]) = false
   simp only [beq_eq_false_iff_ne,ne_eq,List.cons.injEq,and_true];exact h.1
  have hb':(pE f l i).1 ≠ [n]:=by simpa using hb
  constructor
  ·unfold alook at h1 ⊢
   rw [List.map_cons,List.find?_cons,hb]
   exact h1
  ·intro v
   rw [List.map_cons]
   show (if (pE f l i).1 = [n] then _ else _) = _
   rw [if_neg hb',h2 v];rfl
theorem look_some {f:EnF} {l:List Ent} {n:Int}:∀ {I:List Nat},I.any (fun i=>decide ((l.getD i en0).id = n)) = true → ∃ j,j ∈ I ∧ (l.getD j en0).id = n ∧ alook (I.map (pE f l)) [n] = some (vE f l j)
 | [],h=>by cases h
 | i :: I,h=>by
  by_cases e:(l.getD i en0).id = n
  ·refine ⟨i,List.mem_cons_self,e,?_⟩
   unfold alook
   have hb:((pE f l i).1 == [n]) = true:=by
    show ([(l.getD i en0).id] == [n]) = true
    rw [e];simp
   rw [List.map_cons,List.find?_cons,hb]
   rfl
  ·simp only [List.any_cons,decide_eq_false e,Bool.false_or] at h
   obtain ⟨j,h1,h2,h3⟩:=look_some (f:=f) h
   refine ⟨j,List.mem_cons_of_mem _ h1,h2,?_⟩
   have hb:((pE f l i).1 == [n]) = false:=by
    show ([(l.getD i en0).id] == [n]) = false
    simp only [beq_eq_false_iff_ne,ne_eq,List.cons.injEq,and_true];exact e
   unfold alook at h3 ⊢
   rw [List.map_cons,List.find?_cons,hb]
   exact h3
theorem can_len (f:Form):(canF f).mv.length = f.mv.length:=by
 rcases can_two f with e|e <;> rw [e]
 exact mir_len f
theorem palike_can {a b:Ent} (h:alikeB b a = true):palikeB (canE a) (canE b) = true:=by
 obtain ⟨h1,h2,h3,⟨h4,h5⟩,h6⟩:=alike_d h
 unfold palikeB
 show (decide (a.sg = b.sg) && decide (a.rg = b.rg) && decide (a.lo = b.lo ∧ a.hi = b.hi) && decide (cmpF (canF a.fm) (canF b.fm) = 0)) = true
 rw [h2,h3,h4,h5,h6]
 simp [cmpF_zero]
set_option maxHeartbeats 8000000
set_option maxRecDepth 100000
theorem entry_ok (z e:Bool) (x:Ent) (hx:EntOk x):ACall Tryz.prog 60 [aEnt z e x] [] (fun r h=>r = .bool true ∧ h = []):=by
 have cF:=pisForm_ok z e x.fm (by have:=hx.fm.n;omega)
 rw [form_b hx.fm] at cF
 have h1:=hx.id;have h2:=hx.sg;have h3:=hx.rg;have h4:=hx.ag
 (refine fcall_of mixed Tryz.func60 rfl (by decide) (hs:={}) ?k (ac:=?ac) ?c (rs:=?rs) ?r ?l ?H;(case k=>kernel_rfl);(case c=>(conv=>(lhs;cbv)));(case r=>(conv=>(lhs;cbv)));(case l=>exact Nat.le_of_ble_eq_true rfl))
 (repeat' ((try conv=>whnf);first|(with_reducible first|refine wT ?_|refine wF ?_|(refine wI (fun hq=>?_) (fun hq=>?_) <;> try simp only [zA,zE,zD,zJ,zB,zI,wK,wL] at hq)|refine wA ?_|refine wB ?_|refine wC ?_|refine wD ?_|refine wE ?_)|((with_reducible refine wN ?_ ?_);focus exact needA)|(with_reducible refine wG ?_)|(refine FCall.pure ((pwithin_ok _ _ _)) ⟨Ln.sameB _ rfl,Ln.sameB _ rfl,Ln.sameB _ rfl,True.intro⟩ rfl ?_)|(refine FCall.pure (cF) ⟨Ln.sameB _ rfl,True.intro⟩ rfl ?_)|(with_reducible refine wP ?_)))
 all_goals (try conv=>whnf)
 all_goals first
  | (exfalso;omega)
  | ((refine ⟨⟨_,[],[],Cut.nil _,Ln.sameB _ rfl,?_,rfl⟩⟩);exact bool_eq (decide_eq_true (by omega)))
theorem add_ok (f:EnF) (l:List Ent) (hl:BookOk l):ACall Tryz.prog 64 [.mpv 0,aEnts f l] [.mp 0 []] (fun r h=>r = .bool true ∧ h = [.mp 0 (bookL f l l.length)]):=by
 have n40:=hl.n
 (refine fcall_of mixed Tryz.func64 rfl (by decide) (hs:={}) ?k (ac:=?ac) ?c (rs:=?rs) ?r ?l ?H;(case k=>kernel_rfl);(case c=>(conv=>(lhs;cbv)));(case r=>(conv=>(lhs;cbv)));(case l=>exact Nat.le_of_ble_eq_true rfl))
 (repeat' ((try conv=>whnf);first|(with_reducible first|refine wT ?_|refine wF ?_|(refine wI (fun hq=>?_) (fun hq=>?_) <;> try simp only [zA,zE,zD,zJ,zB,zI,wK,wL] at hq)|refine wA ?_|refine wB ?_|refine wC ?_|refine wD ?_|refine wE ?_)|((with_reducible refine wN ?_ ?_);focus exact needA)|(with_reducible refine wG ?_)|(with_reducible refine wP ?_)))
 all_goals (try conv=>whnf)
 refine FLoop.of (ACalls.mono _) (X:=Nat) (fun k=>[(0,.mpv 0),(5,.bool true),(10,aEnts f l),(11,AI l.length),(12,AI k)]) (fun k=>[.mp 0 (bookL f l k)]) (fun k=>k ≤ l.length) (fun k=>l.length - k) 0 ⟨Nat.zero_le _,[0],Cut.A,allA⟩ ?_
 intro k hk
 by_cases hlt:k < l.length
 ·have hx:=hl.en k hlt
  have hid:=hx.id
  have cC:=pcanon_ok (f.fz k) (f.fe k) (l.getD k en0).fm hx.fm
  by_cases ha:(fstK l k).any (fun i=>decide ((l.getD i en0).id = (l.getD k en0).id)) = true
  ·obtain ⟨j,hj,hje,hlk⟩:=look_some (f:=f) ha
   have hjk:=fst_lt hj
   have hal:=hl.al k j hlt hjk hje.symm
   have hxj:=hl.en j (by omega)
   have cA:=palike_ok (f.fz j) (decide ((canF (l.getD j en0).fm).mv.length = 0)) (f.fz k) (decide ((canF (l.getD k en0).fm).mv.length = 0)) (canE (l.getD j en0)) (canE (l.getD k en0)) (by show (canF _).mv.length ≤ 1000;rw [can_len];have:=hxj.fm.n;omega) (by show (canF _).mv.length ≤ 1000;rw [can_len];have:=hx.fm.n;omega)
   rw [palike_can hal] at cA
   have hs:bookL f l (k + 1) = bookL f l k:=by
    unfold bookL
    simp only [fstK]
    rw [if_pos ha]
   (repeat' ((try conv=>whnf);first|(with_reducible first|refine wT ?_|refine wF ?_|(refine wI (fun hq=>?_) (fun hq=>?_) <;> try simp only [zA,zE,zD,zJ,zB,zI,wK,wL] at hq)|refine wA ?_|refine wB ?_|refine wC ?_|refine wD ?_|refine wE ?_)|((with_reducible refine wN ?_ ?_);focus exact needA)|(with_reducible refine wG ?_)|(refine FCall.pure (cC) ⟨Ln.sameB _ rfl,True.intro⟩ rfl ?_)|(refine FLook.yes hlk ?_)|(refine Need.in64 (by omega) ?_)|(refine FCall.pure (cA) ⟨Ln.sameB _ rfl,Ln.sameB _ rfl,True.intro⟩ rfl ?_)|(with_reducible refine wP ?_)))
   all_goals (try conv=>whnf)
   (exact ⟨⟨(k + 1),hlt,by show _ < _;omega,[0],(by (refine wO rfl rfl rfl ?_;repeat (first|exact wX|(refine wV rfl (by first|exact LnB.rowS|(rw [hs];exact LnB.mpS)|exact LnB.A) ?_)|(refine CutL.gone (Nat.lt_of_lt_of_le (Nat.lt_succ_self _) (Nat.le_of_ble_eq_true rfl)) ?_)))),allA⟩⟩)
  ·have ha:(fstK l k).any (fun i=>decide ((l.getD i en0).id = (l.getD k en0).id)) = false:=by simpa using ha
   obtain ⟨hlk,hput⟩:=look_none (f:=f) ha
   have hs:bookL f l (k + 1) = aput (bookL f l k) [(l.getD k en0).id] (vE f l k):=by
    unfold bookL
    rw [hput]
    simp only [fstK]
    rw [if_neg (by rw [ha];decide),List.map_append];rfl
   (repeat' ((try conv=>whnf);first|(with_reducible first|refine wT ?_|refine wF ?_|(refine wI (fun hq=>?_) (fun hq=>?_) <;> try simp only [zA,zE,zD,zJ,zB,zI,wK,wL] at hq)|refine wA ?_|refine wB ?_|refine wC ?_|refine wD ?_|refine wE ?_)|((with_reducible refine wN ?_ ?_);focus exact needA)|(with_reducible refine wG ?_)|(refine FCall.pure (cC) ⟨Ln.sameB _ rfl,True.intro⟩ rfl ?_)|(refine FLook.no hlk ?_)|(refine Need.in64 (by omega) ?_)|(with_reducible refine wP ?_)))
   all_goals (try conv=>whnf)
   (exact ⟨⟨(k + 1),hlt,by show _ < _;omega,[0],(by (refine wO rfl rfl rfl ?_;repeat (first|exact wX|(refine wV rfl (by first|exact LnB.rowS|(rw [hs];exact LnB.mpS)|exact LnB.A) ?_)|(refine CutL.gone (Nat.lt_of_lt_of_le (Nat.lt_succ_self _) (Nat.le_of_ble_eq_true rfl)) ?_)))),allA⟩⟩)
 ·obtain rfl:k = l.length:=by omega
  (repeat' ((try conv=>whnf);first|(with_reducible first|refine wT ?_|refine wF ?_|(refine wI (fun hq=>?_) (fun hq=>?_) <;> try simp only [zA,zE,zD,zJ,zB,zI,wK,wL] at hq)|refine wA ?_|refine wB ?_|refine wC ?_|refine wD ?_|refine wE ?_)|((with_reducible refine wN ?_ ?_);focus exact needA)|(with_reducible refine wG ?_)|(with_reducible refine wP ?_)))
  all_goals (try conv=>whnf)
  exact ⟨⟨.bool true,[.mp 0 (bookL f l l.length)],[0],Cut.A,Ln.A,rfl,rfl⟩⟩
end Go.Proofs.YtodpjdmdmmnlpaaGreat

namespace Go.Proofs.YtodpjdmdmmnlpaaGreat
open Go.RowKit

abbrev fEntry : AV:=.fn 60 0 (ofL [])
abbrev mBook (f:EnF) (l:List Ent):AB:=.mp 0 (bookL f l l.length)
set_option maxHeartbeats 8000000
set_option maxRecDepth 100000
theorem popen_ok (f:EnF) (l:List Ent) (hl:BookOk l):ACall Tryz.prog 38 [aEnts f l] [] (fun r h=>r = .tup 2 (ofL [.mpv 0,AI 0]) ∧ h = [mBook f l]):=by
 have cE:=every_ent 60 f l (fun _=>true) (by have:=hl.n;omega) (fun k hk=>entry_ok _ _ _ (hl.en k hk))
 rw [show (l.all fun _=>true) = true by simp] at cE
 have cA:=add_ok f l hl
 have n40:=hl.n
 (refine fcall_of mixed Tryz.func38 rfl (by decide) (hs:={}) ?k (ac:=?ac) ?c (rs:=?rs) ?r ?l ?H;(case k=>kernel_rfl);(case c=>(conv=>(lhs;cbv)));(case r=>(conv=>(lhs;cbv)));(case l=>exact Nat.le_of_ble_eq_true rfl))
 (repeat' ((try conv=>whnf);first|(with_reducible first|refine wT ?_|refine wF ?_|(refine wI (fun hq=>?_) (fun hq=>?_) <;> try simp only [zA,zE,zD,zJ,zB,zI,wK,wL] at hq)|refine wA ?_|refine wB ?_|refine wC ?_|refine wD ?_|refine wE ?_)|((with_reducible refine wN ?_ ?_);focus exact needA)|(with_reducible refine wG ?_)|(refine FCall.pure (cE) ⟨Ln.sameB _ rfl,Ln.sameB _ rfl,True.intro⟩ rfl ?_)|((refine FCall.give [0] [] (cA) rfl rfl ⟨⟨_,rfl,trivial,LnB.A⟩,True.intro⟩ ⟨Ln.A,Ln.A,True.intro⟩ ?_);rintro _ _ ⟨rfl,rfl⟩;(refine ⟨by first|exact Nat.le_of_ble_eq_true rfl|omega,.inl rfl,?_⟩))|(with_reducible refine wP ?_)))
 all_goals (try conv=>whnf)
 all_goals first
  | (exfalso;omega)
  | exact ⟨⟨.tup 2 (ofL [.mpv 0,AI 0]),[mBook f l],[0],Cut.A,Ln.A,rfl,rfl⟩⟩
theorem plook_ok (f:EnF) (l:List Ent) (hl:BookOk l) (z e:Bool) (s:Seen) (hs:SeenOk s):ACall Tryz.prog 22 [aEnts f l,aSeen z e s] [] (fun r h=>r = .tup 3 (ofL [.mpv 0,aSeen z e s,AI 0]) ∧ h = [mBook f l]):=by
 have cO:=popen_ok f l hl
 have cV:=valid_ok z e s hs
 (refine fcall_of mixed Tryz.func22 rfl (by decide) (hs:={}) ?k (ac:=?ac) ?c (rs:=?rs) ?r ?l ?H;(case k=>kernel_rfl);(case c=>(conv=>(lhs;cbv)));(case r=>(conv=>(lhs;cbv)));(case l=>exact Nat.le_of_ble_eq_true rfl))
 (repeat' ((try conv=>whnf);first|(with_reducible first|refine wT ?_|refine wF ?_|(refine wI (fun hq=>?_) (fun hq=>?_) <;> try simp only [zA,zE,zD,zJ,zB,zI,wK,wL] at hq)|refine wA ?_|refine wB ?_|refine wC ?_|refine wD ?_|refine wE ?_)|((with_reducible refine wN ?_ ?_);focus exact needA)|(with_reducible refine wG ?_)|((refine FCall.give [] [] (cO) rfl rfl True.intro ⟨Ln.A,True.intro⟩ ?_);rintro _ _ ⟨rfl,rfl⟩;(refine ⟨by first|exact Nat.le_of_ble_eq_true rfl|omega,.inl rfl,?_⟩))|(refine FCall.pure (cV) ⟨Ln.sameB _ rfl,True.intro⟩ rfl ?_)|(with_reducible refine wP ?_)))
 all_goals (try conv=>whnf)
 all_goals first
  | (exfalso;omega)
  | exact ⟨⟨.tup 3 (ofL [.mpv 0,aSeen z e s,AI 0]),[mBook f l],[2],Cut.A,Ln.A,rfl,rfl⟩⟩
end Go.Proofs.YtodpjdmdmmnlpaaGreat

namespace Go.Proofs.YtodpjdmdmmnlpaaGreat
open Go.RowKit Go.Maps Go.Sort Go.Shelf Go.MapKept

shelf_lay_g SlLaysZI.n7 Ggz 7 at Tryz 42 as Tryz.keysA
shelf_lay_g SlLaysZI.n6 Ggz 6 at Tryz 41 as Tryz.sortedA
shelf_lay_g SlLaysM.n5 Slgm 5 at Tryz 74 as Tryz.sortA
theorem sortsA (m : Nat) : AnyZI.SortsIn Tryz.prog Tryz.sortedA_ren Fence.wide m :=
  ⟨fun blk off cap ss W hH hblk hsz => callsIn_wide.2 (AnyM.slices_Sort_int Tryz.sortA blk off cap ss W hH hblk hsz),
   fun p cap W => callsIn_wide.2 (AnyM.slices_Sort_int_none Tryz.sortA p cap W)⟩
/-- The keys of a map's entries. -/
def keysM (L:List (List Int × AV)):List Int:=L.map fun p=>p.1.getD 0 0
def sortI (l:List Int):List Int:=l.mergeSort leI
theorem sortI_perm {a b:List Int} (h:a.Perm b):sortI a = sortI b:=mergeSort_of_perm_i h
def RA : Value → Option (DataW Unit × List MemPlace):=fun _=>some (.nil,[])
theorem map_owns {P:Program} {M:Nat → Prop} {w:World} {b:Nat} {k:TypeId} {L:List (List Int × AV)} {es:Array MapEntry} (hk:P.underlying k = some (.int .i64)) (hb:w.heap[b]? = some (.map es es.size)) (m:MapOK M w 0 L es) (hL:L.length ≤ maxLen) :
  ∃ D:DataW Unit,w.ownsMap P k RA b L.length D ∧ Maps.size D = L.length ∧ (intKeys D).Perm (keysM L):=by
 have hrg:∀ x ∈ es.toList,∃ a,x.key = .int .i64 a ∧ Go.WideElems.rd P k RA x = some (.int .i64 a,.nil):=fun x hx=>by
  obtain ⟨i,hi,rfl⟩:=List.getElem_of_mem hx
  have hi':i < es.size:=by simpa using hi
  obtain ⟨e,a,_,c,_⟩:=m.ent i (by rw [← m.len];exact hi')
  rw [Array.getElem?_eq_getElem hi'] at a
  injection a with a
  have e1:es.toList[i] = e:=by rw [Array.getElem_toList];exact a
  rw [e1]
  have hmem:(L.getD i default) ∈ L:=by
   have:i < L.length:=by rw [← m.len];exact hi'
   rw [List.getD,List.getElem?_eq_getElem this];exact List.getElem_mem this
  have ko:=m.one _ hmem
  have h1:(L.getD i default).1.length = 1:=by simpa using ko.1
  have hin:in64 ((L.getD i default).1.getD 0 0):=by
   have k2:=ko.2
   revert h1 k2
   generalize (L.getD i default).1 = l
   intro h1 k2
   match l,h1 with
   | [a],_=>exact k2 a List.mem_cons_self
  refine ⟨_,c,?_⟩
  unfold Go.WideElems.rd
  rw [c]
  show ((keyOf P k (.int .i64 ((L.getD i default).1.getD 0 0))).bind _) = _
  rw [keyOf_int_mk hk (lit_wf hin)]
  rfl
 have hnod:(es.toList.map (·.key)).Nodup:=by
  rw [m.keys]
  refine List.pairwise_map.2 (m.nod.imp_of_mem fun {x y} hx hy hne e=>hne ?_)
  have k1:=m.keyOK x hx
  have k2:=m.keyOK y hy
  have l1:x.length = 1:=by simpa using k1.1
  have l2:y.length = 1:=by simpa using k2.1
  match x,y,l1,l2 with
  | [a],[b],_,_ =>
   have e':Value.int .i64 a = Value.int .i64 b:=e
   injection e' with _ e'
   rw [e']
 have ft:Go.WideElems.Fit P k RA es es.size:=⟨by rw [m.len];exact hL,⟨fun x hx=>by rw [m.len];exact (m.born hx).1,by rw [m.borns];exact List.nodup_range,hnod⟩,fun x hx=>by obtain ⟨a,_,h⟩:=hrg x hx;exact ⟨_,h⟩⟩
 have hlen:es.toList.length = L.length:=by rw [← m.len];simp
 refine ⟨_,⟨es,es.size,hb,ft,Nat.le_of_eq m.len,rfl⟩,?_,?_⟩
 ·refine (Go.WideShapes.sorted_perm _).length_eq.trans ?_
  rw [List.length_map,hlen]
 ·show (List.map (fun p:Lit × DataW Unit=>Go.intOf p.1) _).Perm _
  refine ((Go.WideShapes.sorted_perm _).map _).trans ?_
  rw [List.map_map]
  have:List.map ((fun p:Lit × DataW Unit=>Go.intOf p.1) ∘ Go.WideElems.rg P k RA) es.toList = keysM L:=by
   have e2:List.map ((fun p:Lit × DataW Unit=>Go.intOf p.1) ∘ Go.WideElems.rg P k RA) es.toList = (es.toList.map (·.key)).map (fun v=>match v with | .int _ a=>a|_=>0):=by
    rw [List.map_map]
    refine List.map_congr_left fun x hx=>?_
    obtain ⟨a,h1,h2⟩:=hrg x hx
    show Go.intOf (Go.WideElems.rg P k RA x).1 = _
    rw [Go.WideElems.rg_of h2]
    show a = _
    show a = (match x.key with | .int _ a=>a|_=>0)
    rw [h1]
   rw [e2,m.keys,List.map_map,List.map_map]
   rfl
  rw [this]
end Go.Proofs.YtodpjdmdmmnlpaaGreat

namespace Go.Proofs.YtodpjdmdmmnlpaaGreat
open Go.RowKit Go.Maps Go.Sort Go.Shelf Go.MapKept

abbrev bxKeys : AB:=.box 1 (ofL [.mpv 0])
abbrev fKeys : AV:=.fn 75 1 (ofL [.ptr 1 0])
theorem sortI_len (l:List Int):(sortI l).length = l.length:=List.length_mergeSort l
theorem psorted_ok (L:List (List Int × AV)) (hL:L.length ≤ 1000):ACall Tryz.prog 41 [fKeys] [.mp 0 L,bxKeys] (fun r h=>r = aInts (decide (L.length = 0)) false (sortI (keysM L)) ∧ h = [.mp 0 L,bxKeys]):=by
 refine ⟨⟨_,Tryz.func41,rfl,rfl⟩,fun F g w vs k hs hv=>?_⟩
 have hv0:=hv 0 _ rfl
 obtain ⟨v,rfl⟩:∃ v,vs = #[v]:=by
  match vs,hs with
  | ⟨[v]⟩,_=>exact ⟨v,rfl⟩
 obtain ⟨cs,hve,hcs,hci⟩:=hv0
 have hve:v = .func (.func 75) #[] cs:=hve
 obtain ⟨u,hu,b1,cap1,hg1,rfl⟩:=hci 0 (by decide)
 obtain rfl:cs = #[.pointer (some ⟨b1,0,none⟩)]:=by
  match cs,hcs,hu with
  | ⟨[y]⟩,_,hu=>simpa using hu
 subst hve
 obtain ⟨cs1,t1,hb1,hz1,hc1⟩:=k.box 1 1 _ b1 cap1 rfl hg1
 obtain ⟨u1,hu1,-,b0,cap0,hg0,rfl⟩:=hc1 0 (by decide)
 obtain ⟨es,hb0,hm⟩:=k.mp 0 0 L b0 cap0 rfl hg0
 obtain ⟨D,hown,hsz,hperm⟩:=map_owns (k:=Tryz.sortedA_ren.t 26) Tryz.sortedA.t26 hb0 hm (Nat.le_trans hL (by decide))
 have hbl:b1 < w.heap.size:=lt_of_heap hb1
 have hseq:=AnyZI.keys_gives (ρ:=Tryz.keysA_ren) { Tryz.keysA with } Fence.wide 2 trivial rfl (by omega) b1 b0 _ D w hbl (cell_of_heap hb1 hu1) hown
 have cS:=AnyZI.sorted_in Tryz.sortedA Fence.wide 5 trivial trivial trivial trivial rfl (by omega) (sortsA _) (enters_of Tryz.func74 (by kernel_rfl) rfl) 75 #[.pointer (some ⟨b1,0,none⟩)] trivial (enters_of Tryz.func75 (by kernel_rfl) rfl) _ _ (by rw [hsz];exact Nat.le_trans hL (by decide)) (by rw [hsz];omega) w hseq
 refine (callsIn_wide.1 cS).mono ?_
 rintro en w' ⟨v,ss,rfl,hS,hrow,hnil,hb⟩
 have hss:ss.mergeSort (fun x y=>decide (x ≤ y)) = sortI (keysM L):=mergeSort_of_perm_i (hS.trans hperm)
 rw [hss] at hrow
 have hln:ss.length = L.length:=by rw [(hS.trans hperm).length_eq];simp [keysM]
 have hchg:Chg (MM F g [.mp 0 L,bxKeys]) w w':=⟨hb.os,hb.tape,hb.output,hb.size,fun b hb' _=>hb.block b hb'⟩
 have hok:HOK F g w' [.mp 0 L,bxKeys]:=HOK.of_all k.dom k.lv k.inj (fun d b cap x hx hg=>(k.all hx hg).mono hchg (fun _ _ h=>h) (GM.le_refl _) (hb.block b (by
  refine ABOK.lt (k.all hx hg) ?_
  match d,hx with
  | 0,hx=>injection hx with hx;subst hx;trivial
  | 1,hx=>injection hx with hx;subst hx;trivial))) (fun b hF=>⟨Nat.lt_of_lt_of_le (k.fr b hF).1 hb.size,(k.fr b hF).2⟩)
 refine ⟨v,_,[.mp 0 L,bxKeys],g,rfl,⟨hok,GM.le_refl _,⟨hb.os,hb.tape,hb.output,hb.size,fun b hb' _=>hb.block b hb'⟩,fun b h=>.inl h⟩,?_,rfl,rfl⟩
 have hlen:(sortI (keysM L)).length = L.length:=by rw [sortI_len];simp [keysM]
 rcases hrow.2 with ⟨rfl,hz⟩|⟨gb,cap,cur,rfl,hbase,hgb,r1,r2,r3,r4⟩
 ·have h0:L.length = 0:=by omega
  refine ⟨none,0,?_,by simp [h0],fun _=>⟨by rw [hlen,h0],rfl⟩,(fun h=>by cases h),by rw [hlen,h0];exact Nat.le_refl _,fun i hi=>?_⟩
  ·rw [hlen,h0]
  ·rw [hlen,h0] at hi;exact absurd hi (Nat.not_lt_zero _)
 ·have h0:L.length ≠ 0:=fun e=>by
   have:ss = []:=List.length_eq_zero_iff.1 (by omega)
   have:=hnil.2 this
   cases this
  refine ⟨some ⟨gb,0,none⟩,cap,by rw [hlen,hln],by simp [h0],(fun h=>by cases h),(fun h=>by cases h),by omega,fun i hi o ho=>?_⟩
  obtain rfl:o = 0:=by omega
  have hcur:cur[i]? = some (.int .i64 ((sortI (keysM L)).getD i 0)):=by
   have e1:(cur.toList.take (ss.length * 1))[i]? = cur[i]?:=by
    rw [List.getElem?_take]
    rw [if_pos (by omega)];simp
   rw [← e1,r4,List.getElem?_map,List.getElem?_eq_getElem hi]
   simp [List.getD,hi]
  refine ⟨gb,0,_,rfl,lt_of_heap hgb,fun hM=>?_,cell_of_heap (i:=0 + i * 1 + 0) hgb (by rw [show 0 + i * 1 + 0 = i by omega];exact hcur),rfl,rfl⟩
  have:=k.mlt hM
  omega
end Go.Proofs.YtodpjdmdmmnlpaaGreat

namespace Go.Proofs.YtodpjdmdmmnlpaaGreat
open Go.RowKit

/-- What the map of signs holds behind the entries seen. -/
structure SgI (sg:Nat → Int) (A:Nat → Bool) (sE:List Nat) (S:List (List Int × AV)):Prop where
 nod:(S.map (·.1)).Nodup
 sh:∀ p ∈ S,∃ n c:Int,p = ([n],AI c) ∧ 0 ≤ c ∧ c ≤ sE.length
 mem:∀ n:Int,[n] ∈ S.map (·.1) ↔ ∃ i ∈ sE,A i = true ∧ sg i = n
theorem sgI_nil (sg:Nat → Int) (A:Nat → Bool):SgI sg A [] []:=⟨List.nodup_nil,(fun p h=>by cases h),fun n=>⟨(fun h=>by cases h),fun ⟨i,h,_⟩=>by cases h⟩⟩
theorem sgI_no {sg:Nat → Int} {A:Nat → Bool} {sE:List Nat} {S:List (List Int × AV)} {i:Nat} (h:SgI sg A sE S) (ha:A i = false):SgI sg A (sE ++ [i]) S :=
 ⟨h.nod,fun p hp=>by obtain ⟨n,c,e,h1,h2⟩:=h.sh p hp;exact ⟨n,c,e,h1,by rw [List.length_append];simp;omega⟩,fun n=>by
  rw [h.mem n]
  constructor
  ·rintro ⟨j,hj,h1,h2⟩;exact ⟨j,List.mem_append.2 (.inl hj),h1,h2⟩
  ·rintro ⟨j,hj,h1,h2⟩
   rcases List.mem_append.1 hj with hj|hj
   ·exact ⟨j,hj,h1,h2⟩
   ·rw [List.mem_singleton.1 hj,ha] at h1;cases h1⟩
theorem sgI_new {sg:Nat → Int} {A:Nat → Bool} {sE:List Nat} {S:List (List Int × AV)} {i:Nat} (h:SgI sg A sE S) (ha:A i = true) (hi:aidx S [sg i] = none):alook S [sg i] = none ∧ SgI sg A (sE ++ [i]) (aput S [sg i] (AI (0 + 1))):=by
 obtain ⟨h1,h2,h3⟩:=aidx_none hi
 refine ⟨h2,?_⟩
 rw [h3]
 refine ⟨?_,fun p hp=>?_,fun n=>?_⟩
 ·rw [List.map_append,List.nodup_append]
  exact ⟨h.nod,by simp,fun a ha b hb=>by
   have:b = [sg i]:=by simpa using hb
   rw [this];intro e;exact h1 (e ▸ ha)⟩
 ·rcases List.mem_append.1 hp with hp|hp
  ·obtain ⟨n,c,e,h1,h2⟩:=h.sh p hp;exact ⟨n,c,e,h1,by rw [List.length_append];simp;omega⟩
  ·rw [List.mem_singleton.1 hp];exact ⟨_,_,rfl,by decide,by rw [List.length_append];simp;omega⟩
 ·rw [List.map_append,List.mem_append,h.mem n]
  constructor
  ·rintro (⟨j,hj,h1,h2⟩|hj)
   ·exact ⟨j,List.mem_append.2 (.inl hj),h1,h2⟩
   ·have:n = sg i:=by simpa using hj
    exact ⟨i,List.mem_append.2 (.inr (List.mem_singleton.2 rfl)),ha,this.symm⟩
  ·rintro ⟨j,hj,h1,h2⟩
   rcases List.mem_append.1 hj with hj|hj
   ·exact .inl ⟨j,hj,h1,h2⟩
   ·rw [List.mem_singleton.1 hj] at h2;exact .inr (by simp [h2])
theorem sgI_old {sg:Nat → Int} {A:Nat → Bool} {sE:List Nat} {S:List (List Int × AV)} {i k:Nat} (h:SgI sg A sE S) (ha:A i = true) (hi:aidx S [sg i] = some k):∃ c:Int,0 ≤ c ∧ c ≤ sE.length ∧ alook S [sg i] = some (AI c) ∧ SgI sg A (sE ++ [i]) (aput S [sg i] (AI (c + 1))):=by
 obtain ⟨h1,h2,h3,h4⟩:=aidx_some hi
 have hmem:S.getD k default ∈ S:=by rw [List.getD,List.getElem?_eq_getElem h1];exact List.getElem_mem h1
 obtain ⟨n,c,e,hc0,hc1⟩:=h.sh _ hmem
 rw [e] at h2 h3
 have h2:[n] = [sg i]:=h2
 have hkeys:(S.set k ([sg i],AI (c + 1))).map (·.1) = S.map (·.1):=by
  rw [List.map_set]
  refine set_same ?_
  rw [List.getElem?_map,List.getElem?_eq_getElem h1]
  have:S[k] = ([n],AI c):=by rw [← e,List.getD,List.getElem?_eq_getElem h1];rfl
  rw [this]
  show some [n] = some [sg i]
  rw [h2]
 refine ⟨c,hc0,hc1,h3,?_⟩
 rw [h4]
 refine ⟨by rw [hkeys];exact h.nod,fun p hp=>?_,fun m=>?_⟩
 ·rcases List.mem_or_eq_of_mem_set hp with hp|rfl
  ·obtain ⟨n,c,e,h1,h2⟩:=h.sh p hp;exact ⟨n,c,e,h1,by rw [List.length_append];simp;omega⟩
  ·exact ⟨_,_,rfl,by omega,by rw [List.length_append];simp;omega⟩
 ·rw [hkeys,h.mem m]
  have hin:[sg i] ∈ S.map (·.1):=by rw [← h2];exact List.mem_map.2 ⟨_,hmem,by rw [e]⟩
  constructor
  ·rintro ⟨j,hj,h1,h2⟩;exact ⟨j,List.mem_append.2 (.inl hj),h1,h2⟩
  ·rintro ⟨j,hj,h1,h2⟩
   rcases List.mem_append.1 hj with hj|hj
   ·exact ⟨j,hj,h1,h2⟩
   ·rw [List.mem_singleton.1 hj] at h2
    rw [h2] at hin
    exact (h.mem m).1 hin
theorem keysM_mem {S:List (List Int × AV)} (h:∀ p ∈ S,∃ n c:Int,p = ([n],AI c)) (n:Int):n ∈ keysM S ↔ [n] ∈ S.map (·.1):=by
 unfold keysM
 rw [List.mem_map,List.mem_map]
 constructor
 ·rintro ⟨p,hp,e⟩
  obtain ⟨m,c,rfl⟩:=h p hp
  have e:m = n:=e
  exact ⟨_,hp,by rw [e]⟩
 ·rintro ⟨p,hp,e⟩
  exact ⟨p,hp,by rw [e];rfl⟩
theorem keysM_nod {S:List (List Int × AV)} (h:∀ p ∈ S,∃ n c:Int,p = ([n],AI c)) (hn:(S.map (·.1)).Nodup):(keysM S).Nodup:=by
 unfold keysM
 refine List.pairwise_map.2 ((List.pairwise_map.1 hn).imp_of_mem fun {p q} hp hq hne e=>hne ?_)
 obtain ⟨a,c,rfl⟩:=h p hp
 obtain ⟨b,d,rfl⟩:=h q hq
 have e:a = b:=e
 rw [e]
theorem find_mem {l:List Ent} {s:Seen} (hl:BookOk l) (n:Int):n ∈ findT l s ↔ ∃ x ∈ l,x.sg = n ∧ agP x s = true:=by
 unfold findT
 rw [List.mem_map]
 constructor
 ·rintro ⟨m,hm,rfl⟩
  obtain ⟨x,hx,h⟩:=List.any_eq_true.1 (List.mem_filter.1 hm).2
  simp only [Bool.and_eq_true,decide_eq_true_eq] at h
  exact ⟨x,hx,h⟩
 ·rintro ⟨x,hx,rfl,ha⟩
  obtain ⟨i,hi,rfl⟩:=List.getElem_of_mem hx
  have he:=(hl.en i hi).sg
  rw [List.getD,List.getElem?_eq_getElem hi,Option.getD_some] at he
  refine ⟨l[i].sg.toNat,List.mem_filter.2 ⟨List.mem_range.2 (by omega),List.any_eq_true.2 ⟨_,hx,?_⟩⟩,by omega⟩
  rw [ha,Bool.and_true]
  exact decide_eq_true (by omega)
theorem find_lt (l:List Ent) (s:Seen):(findT l s).Pairwise (fun a b=>a < b):=by
 unfold findT
 refine List.pairwise_map.2 ((List.pairwise_lt_range.filter _).imp fun {a b} h=>by omega)
theorem sort_find {l:List Ent} {s:Seen} {K:List Int} (hn:K.Nodup) (h:∀ n,n ∈ K ↔ n ∈ findT l s):sortI K = findT l s:=by
 have hp:K.Perm (findT l s):=(List.perm_ext_iff_of_nodup hn ((find_lt l s).imp fun h e=>by omega)).2 h
 rw [sortI_perm hp]
 have tr:∀ a b c:Int,leI a b = true → leI b c = true → leI a c = true:=fun a b c h1 h2=>by simp only [leI,decide_eq_true_eq] at *;omega
 have to:∀ a b:Int,(leI a b || leI b a) = true:=fun a b=>by simp only [leI,Bool.or_eq_true,decide_eq_true_eq];omega
 refine List.Perm.eq_of_pairwise (le:=fun a b=>leI a b = true) (fun a b _ _ h1 h2=>?_) (List.pairwise_mergeSort tr to _) ((find_lt l s).imp fun h=>decide_eq_true (by omega)) (List.mergeSort_perm _ leI)
 simp only [leI,decide_eq_true_eq] at h1 h2
 omega
/-- The entries of a book, by their places in it. -/
abbrev fstI (l:List Ent) (i:Nat):Nat:=(fstK l l.length).getD i 0
theorem fstI_lt {l:List Ent} {i:Nat} (h:i < (fstK l l.length).length):fstI l i < l.length:=by
 refine fst_lt (l:=l) (k:=l.length) ?_
 rw [fstI,List.getD,List.getElem?_eq_getElem h]
 exact List.getElem_mem h
theorem sgI_all {l:List Ent} {s:Seen} (hl:BookOk l) {sE:List Nat} {S:List (List Int × AV)} (h:SgI (fun i=>(l.getD (fstI l i) en0).sg) (fun i=>agP (l.getD (fstI l i) en0) s) sE S) (ha:∀ i,i ∈ sE ↔ i < (fstK l l.length).length):sortI (keysM S) = findT l s:=by
 have hsh:∀ p ∈ S,∃ n c:Int,p = ([n],AI c):=fun p hp=>by obtain ⟨n,c,e,_⟩:=h.sh p hp;exact ⟨n,c,e⟩
 refine sort_find (keysM_nod hsh h.nod) fun n=>?_
 rw [keysM_mem hsh,h.mem n,find_mem hl]
 constructor
 ·rintro ⟨i,hi,h1,h2⟩
  have hlt:=fstI_lt ((ha i).1 hi)
  exact ⟨_,by rw [List.getD,List.getElem?_eq_getElem hlt];exact List.getElem_mem hlt,h2,h1⟩
 ·rintro ⟨x,hx,h1,h2⟩
  obtain ⟨j,hj,rfl⟩:=List.getElem_of_mem hx
  have ej:l.getD j en0 = l[j]:=by rw [List.getD,List.getElem?_eq_getElem hj];rfl
  obtain ⟨k,hk,hid,hle⟩:=fst_all (l:=l) hj
  obtain ⟨i,hi,hik⟩:=List.getElem_of_mem hk
  have ei:fstI l i = k:=by rw [fstI,List.getD,List.getElem?_eq_getElem hi,Option.getD_some,hik]
  refine ⟨i,(ha i).2 hi,?_⟩
  show agP (l.getD (fstI l i) en0) s = true ∧ (l.getD (fstI l i) en0).sg = n
  rw [ei]
  by_cases e:k = j
  ·subst e;rw [ej];exact ⟨h2,h1⟩
  ·have hal:=hl.al j k hj (by omega) hid.symm
   have hk2:k < l.length:=by omega
   rw [← ag_alike (hl.en j hj).fm (hl.en k hk2).fm hal s,← (alike_d hal).2.1,ej]
   exact ⟨h2,h1⟩
end Go.Proofs.YtodpjdmdmmnlpaaGreat
