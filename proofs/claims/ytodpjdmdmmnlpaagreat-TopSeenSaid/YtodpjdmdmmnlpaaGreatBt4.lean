/- Glosses: frame, Sure of the program. / Glosses: Readings of the program. / The plain law of TopSeen: messages that all hold one sign. / Signs: find and Find of the program, the walk. / Signs: Find of the program. / Signs and glosses: the examples of the laws, and what the program says of them. / Signs and glosses: read of the law's package. / Glosses: the reference's Check of valid messages, Size. / Signs: the reference's books, Check; Far of the law; what was seen. / Signs: the reference's IsSeen, Has, fits, Shown, Agrees. -/
import Derived.Test.YtodpjdmdmmnlpaaGreatBt3
import Derived.Test.YtodpjdmdmmnlpaaGreatBt2
set_option linter.unusedSimpArgs false
set_option linter.unusedVariables false
namespace Go.Proofs.YtodpjdmdmmnlpaaGreat
open Go.RowKit

/-- Valid messages, few of them, each with its own key. -/
structure MsgOk (f:Films) (M:List Gl):Prop where
 ff:FilmsOk f
 n:1 ≤ M.length ∧ M.length ≤ 12
 t:∀ k,k < M.length → TakesOk f (M.getD k gl0)
 k:Keys M
theorem mem_getG {M:List Gl} {g:Gl} (h:g ∈ M):∃ k,k < M.length ∧ M.getD k gl0 = g:=by
 obtain ⟨k,hk,rfl⟩:=List.getElem_of_mem h
 exact ⟨k,hk,by simp [List.getD,hk]⟩
theorem MsgOk.takes {f:Films} {M:List Gl} (h:MsgOk f M) {g:Gl} (hg:g ∈ M):TakesOk f g:=by
 obtain ⟨k,hk,rfl⟩:=mem_getG hg
 exact h.t k hk
theorem MsgOk.mid {f:Films} {M:List Gl} (h:MsgOk f M):MidK M:=fun g hg=>by
 have:=h.takes hg
 exact ⟨this.au,this.st⟩
theorem held_mem {M:List Gl} {g:Gl} (h:g ∈ heldT M):g ∈ M ∧ g.sg ≠ 0:=by
 unfold heldT at h
 rw [List.mem_filter] at h
 refine ⟨(srt_perm M).mem_iff.1 h.1,fun e=>?_⟩
 have:=h.2
 unfold goneG at this
 rw [decide_eq_true e] at this
 simp at this
theorem held_len (M:List Gl):(heldT M).length ≤ M.length:=by
 unfold heldT
 exact Nat.le_trans (List.length_filter_le _ _) (Nat.le_of_eq (srt_perm M).length_eq)
theorem at_mem {L:List Gl} {a b:Int} {g:Gl} (h:g ∈ atT L a b):g ∈ L:=(List.mem_filter.1 h).1
theorem rd_ne {n:Nat} {L:List Gl} (h:∀ g,g ∈ L → 0 < g.sg ∧ g.sg < ((2 ^ n:Nat):Int)):rdT n L ≠ []:=by
 have hp:0 < 2 ^ n:=Nat.two_pow_pos _
 refine ((rdK_ok L (2 ^ n)).all (2 ^ n - 1) (by omega) ?_).1
 rw [List.any_eq_false]
 intro g hg
 obtain ⟨h1,h2⟩:=h g hg
 unfold missB
 rw [Nat.and_two_pow_sub_one_eq_mod,Nat.mod_eq_of_lt (by omega)]
 simp;omega
theorem pow_10 {n:Int} (h:n ≤ 10):2 ^ n.toNat ≤ 1024:=by
 have:2 ^ n.toNat ≤ 2 ^ 10:=Nat.pow_le_pow_right (by decide) (by omega)
 omega
theorem MsgOk.rd {f:Films} {M:List Gl} (h:MsgOk f M) (a b:Int):rdT f.n.toNat (atT (heldT M) a b) ≠ []:=rd_ne fun g hg=>by
 obtain ⟨h1,h2⟩:=held_mem (at_mem hg)
 have:=(h.takes h1).sg
 omega
theorem getG_mem {L:List Gl} {k:Nat} (h:k < L.length):L.getD k gl0 ∈ L:=by rw [List.getD,List.getElem?_eq_getElem h];exact List.getElem_mem h
theorem MsgOk.sg {f:Films} {M:List Gl} (h:MsgOk f M) (a b:Int):∀ k,k < (atT (heldT M) a b).length → 0 ≤ ((atT (heldT M) a b).getD k gl0).sg ∧ ((atT (heldT M) a b).getD k gl0).sg < 1024:=fun k hk=>by
 have:=(h.takes (held_mem (at_mem (getG_mem hk))).1).sg
 have h2:=pow_10 h.ff.n.2
 omega
theorem at_len (L:List Gl) (a b:Int):(atT L a b).length ≤ L.length:=List.length_filter_le _ _
theorem and_le {n:Nat} {l:List Nat}:∀ k,andT n l k ≤ 2 ^ n - 1
 | 0=>Nat.le_refl _
 | k + 1=>Nat.le_trans Nat.and_le_left (and_le k)
theorem or_lt {n:Nat} {l:List Nat} (h:∀ x,x ∈ l → x < 2 ^ n):∀ k,orT l k < 2 ^ n
 | 0=>Nat.two_pow_pos _
 | k + 1=>Nat.or_lt_two_pow (or_lt h k) (by
  by_cases hk:k < l.length
  ·rw [List.getD,List.getElem?_eq_getElem hk];exact h _ (List.getElem_mem hk)
  ·rw [List.getD,List.getElem?_eq_none (by omega)];exact Nat.two_pow_pos _)
set_option maxHeartbeats 8000000
set_option maxRecDepth 100000
theorem frame_ok (z e z2 e2:Bool) (f:Films) (M:List Gl) (h:MsgOk f M) (hh:heldT M ≠ []) (a b:Int) (ha:0 ≤ a ∧ a < f.fr.length) (hb:0 ≤ b ∧ b < f.fr.getD a.toNat 0):ACall Tryz.prog 32 [aFilms z e f,aGls z2 e2 M,AI a,AI b] [] (fun r h=>r = .tup 2 (ofL [aGls false false (atT (heldT M) a b),AI 0]) ∧ h = []):=by
 have hn:=h.n
 have hf4:=h.ff.l
 have c1:=gCheck_ok z e z2 e2 f M h.ff (by omega) h.t h.k h.mid
 have c2:=film_ok z e f a (by omega)
 rw [decide_eq_true ha] at c2
 have c3:=held_ok z2 e2 M hn.1 hn.2 h.k h.mid
 have hl:=held_len M
 have hl2:0 < (heldT M).length:=List.length_pos_iff.2 hh
 have c4:=at_s false (heldT M) a b (by omega) (by omega)
 (refine fcall_of mixed Tryz.func32 rfl (by decide) (hs:={}) ?k (ac:=?ac) ?c (rs:=?rs) ?r ?l ?H;(case k=>kernel_rfl);(case c=>(conv=>(lhs;cbv)));(case r=>(conv=>(lhs;cbv)));(case l=>exact Nat.le_of_ble_eq_true rfl))
 (repeat' ((try conv=>whnf);first|(with_reducible first|refine wT ?_|refine wF ?_|(refine wI (fun hq=>?_) (fun hq=>?_) <;> try simp only [zA,zE,zD,zJ,zB,zI,wK,wL] at hq)|refine wA ?_|refine wB ?_|refine wC ?_|refine wD ?_|refine wE ?_)|((with_reducible refine wN ?_ ?_);focus exact needA)|(with_reducible refine wG ?_)|(refine FCall.pure (c1) ⟨Ln.sameB _ rfl,Ln.sameB _ rfl,True.intro⟩ rfl ?_)|(refine FCall.pure (c2) ⟨Ln.sameB _ rfl,Ln.sameB _ rfl,True.intro⟩ rfl ?_)|(refine FCall.pure (c3) ⟨Ln.sameB _ rfl,True.intro⟩ rfl ?_)|(refine FCall.pure (c4) ⟨Ln.sameB _ rfl,Ln.sameB _ rfl,Ln.sameB _ rfl,True.intro⟩ rfl ?_)|(with_reducible refine wP ?_)))
 all_goals (try conv=>whnf)
 all_goals first|(exfalso;omega)|((refine ⟨⟨_,[],[],Cut.nil _,Ln.sameB _ rfl,?_,rfl⟩⟩);rfl)
theorem sure_ok (z e z2 e2:Bool) (f:Films) (M:List Gl) (h:MsgOk f M) (hh:heldT M ≠ []) (a b:Int) (ha:0 ≤ a ∧ a < f.fr.length) (hb:0 ≤ b ∧ b < f.fr.getD a.toNat 0):ACall Tryz.prog 12 [aFilms z e f,aGls z2 e2 M,AI a,AI b] [] (fun r h=>r = .tup 3 (ofL [AI (andT f.n.toNat (rdT f.n.toNat (atT (heldT M) a b)) (rdT f.n.toNat (atT (heldT M) a b)).length:Nat),AI (orT (rdT f.n.toNat (atT (heldT M) a b)) (rdT f.n.toNat (atT (heldT M) a b)).length:Nat),AI 0]) ∧ h = []):=by
 have hn:=h.ff.n
 have hp:=pow_10 hn.2
 have hp0:0 < 2 ^ f.n.toNat:=Nat.two_pow_pos _
 have hl:=at_len (heldT M) a b
 have hl2:=held_len M
 have hl3:=h.n
 have c1:=frame_ok z e z2 e2 f M h hh a b ha hb
 have c2:=readings_ok z e f (atT (heldT M) a b) h.ff (by omega) (h.sg a b) (h.rd a b)
 have hlt:∀ x,x ∈ rdT f.n.toNat (atT (heldT M) a b) → x < 2 ^ f.n.toNat:=fun x hx=>((rdK_ok _ _).el x hx).1
 have hlen:(rdT f.n.toNat (atT (heldT M) a b)).length ≤ 2 ^ f.n.toNat:=rdK_len _ _
 generalize rdT f.n.toNat (atT (heldT M) a b) = R at *
 (refine fcall_of mixed Tryz.func12 rfl (by decide) (hs:={}) ?k (ac:=?ac) ?c (rs:=?rs) ?r ?l ?H;(case k=>kernel_rfl);(case c=>(conv=>(lhs;cbv)));(case r=>(conv=>(lhs;cbv)));(case l=>exact Nat.le_of_ble_eq_true rfl))
 (repeat' ((try conv=>whnf);first|(with_reducible first|refine wT ?_|refine wF ?_|(refine wI (fun hq=>?_) (fun hq=>?_) <;> try simp only [zA,zE,zD,zJ,zB,zI,wK,wL] at hq)|refine wA ?_|refine wB ?_|refine wC ?_|refine wD ?_|refine wE ?_)|((with_reducible refine wN ?_ ?_);focus exact needA)|(with_reducible refine wG ?_)|(refine FCall.pure (c1) ⟨Ln.sameB _ rfl,Ln.sameB _ rfl,Ln.sameB _ rfl,Ln.sameB _ rfl,True.intro⟩ rfl ?_)|(refine FCall.pure (c2) ⟨Ln.sameB _ rfl,Ln.sameB _ rfl,True.intro⟩ rfl ?_)|(refine FBit.shl1I rfl (by omega) ?_)|(with_reducible refine wP ?_)))
 all_goals (try conv=>whnf)
 refine FLoop.of (ACalls.mono _) (X:=Nat) (fun k=>[(8,AI (andT f.n.toNat R k:Nat)),(9,AI (orT R k:Nat)),(34,aNats false false R),(35,AI R.length),(36,AI k)]) (fun _=>[]) (fun k=>k ≤ R.length) (fun k=>R.length - k) 0 ⟨Nat.zero_le _,[],Cut.nil _,Ln.eqI (by show _ = ((2 ^ f.n.toNat - 1:Nat):Int);omega),Ln.A,Ln.A,Ln.A,Ln.A,True.intro⟩ ?_
 intro k hk
 have b1:=and_le (n:=f.n.toNat) (l:=R) k
 have b2:=or_lt (n:=f.n.toNat) hlt k
 by_cases hlk:k < R.length
 ·have b3:=hlt (R.getD k 0) (by rw [List.getD,List.getElem?_eq_getElem hlk];exact List.getElem_mem hlk)
  (repeat' ((try conv=>whnf);first|(with_reducible first|refine wT ?_|refine wF ?_|(refine wI (fun hq=>?_) (fun hq=>?_) <;> try simp only [zA,zE,zD,zJ,zB,zI,wK,wL] at hq)|refine wA ?_|refine wB ?_|refine wC ?_|refine wD ?_|refine wE ?_)|((with_reducible refine wN ?_ ?_);focus exact needA)|(with_reducible refine wG ?_)|(refine FBit.andN rfl (by omega) (by omega) ?_)|(refine FBit.orN rfl (by omega) (by omega) ?_)|(with_reducible refine wP ?_)))
  all_goals (try conv=>whnf)
  (exact ⟨⟨(k + 1),hlk,by show _ < _;omega,[],Cut.A,allA⟩⟩)
 ·obtain rfl:k = R.length:=by omega
  (repeat' ((try conv=>whnf);first|(with_reducible first|refine wT ?_|refine wF ?_|(refine wI (fun hq=>?_) (fun hq=>?_) <;> try simp only [zA,zE,zD,zJ,zB,zI,wK,wL] at hq)|refine wA ?_|refine wB ?_|refine wC ?_|refine wD ?_|refine wE ?_)|((with_reducible refine wN ?_ ?_);focus exact needA)|(with_reducible refine wG ?_)|(with_reducible refine wP ?_)))
  all_goals (try conv=>whnf)
  (refine ⟨⟨_,[],[],Cut.nil _,Ln.sameB _ rfl,?_,rfl⟩⟩)
  rfl
end Go.Proofs.YtodpjdmdmmnlpaaGreat

namespace Go.Proofs.YtodpjdmdmmnlpaaGreat
open Go.RowKit

abbrev cRd (r:Rd):Nat → AV:=ofL [AI r.fr,AI r.to,AI r.sg]
abbrev aRds (R:List Rd):AV:=.sl (decide (R.length = 0)) (decide (R.length = 0)) R.length 3 (fun k=>cRd (R.getD k rd0))
abbrev rowRd (n:Nat) (R:List Rd):AB:=.row n 3 (fun k=>cRd (R.getD k rd0))
theorem getR_l {a b:List Rd} {k:Nat} (h:k < a.length):(a ++ b).getD k rd0 = a.getD k rd0:=by simp [List.getD,List.getElem?_append_left h]
theorem getR_n {a:List Rd} {x:Rd} {k:Nat} (h:k = a.length):(a ++ [x]).getD k rd0 = x:=by subst h;simp [List.getD]
theorem getR_set {L:List Rd} {j k:Nat} {x:Rd} (hj:j < L.length):(L.set j x).getD k rd0 = if k = j then x else L.getD k rd0:=by
 by_cases e:k = j
 ·subst e;simp [List.getD,hj]
 ·simp [List.getD,List.getElem?_set,e,Ne.symm e]
theorem set_row {R:List Rd} {m j o:Nat} (hm:m < R.length) (ho:o < 3):cRd ((R.set m ⟨(R.getD m rd0).fr,(R.getD m rd0).to + 1,(R.getD m rd0).sg⟩).getD j rd0) o = updR (fun j=>cRd (R.getD j rd0)) m 1 (AI ((R.getD m rd0).to + 1)) j o:=by
 rw [getR_set hm]
 simp only [updR]
 by_cases e:j = m
 ·subst e
  rw [if_pos rfl]
  rcases (show o = 0 ∨ o = 1 ∨ o = 2 by omega) with rfl|rfl|rfl
  ·rw [if_neg (by simp)];rfl
  ·rw [if_pos ⟨rfl,rfl⟩];rfl
  ·rw [if_neg (by simp)];rfl
 ·rw [if_neg e,if_neg (fun h=>e h.1)]
theorem elem3 {x:Nat → AV} {v:AV} (h0:x 0 = elemC v 0) (h1:x 1 = elemC v 1) (h2:x 2 = elemC v 2):∀ o,o < 3 → x o = elemC v o:=fun o ho=>by
 rcases (show o = 0 ∨ o = 1 ∨ o = 2 by omega) with rfl|rfl|rfl <;> assumption
theorem step_len (R:List Rd) (k s:Nat):(stepF R k s).length ≤ R.length + 1:=by
 unfold stepF
 split
 ·omega
 ·split
  ·simp
  ·simp
theorem readK_len (n:Nat) (M:List Gl) (film:Int):∀ k,(readK n M film k).length ≤ k
 | 0=>Nat.le_refl _
 | k + 1=>Nat.le_trans (step_len _ k _) (by have:=readK_len n M film k;omega)
set_option maxHeartbeats 16000000
set_option maxRecDepth 100000
theorem gread_ok (z e z2 e2:Bool) (f:Films) (M:List Gl) (h:MsgOk f M) (hh:heldT M ≠ []) (a:Int) (ha:0 ≤ a ∧ a < f.fr.length) (F:Nat) (hF:f.fr.getD a.toNat 0 = F):ACall Tryz.prog 11 [aFilms z e f,aGls z2 e2 M,AI a] [] (fun r h=>r = .tup 2 (ofL [aRds (readK f.n.toNat M a F),AI 0]) ∧ h = []):=by
 have hn:=h.ff.n
 have hm:=h.n
 have hf4:=h.ff.l
 have hF2:=h.ff.fr a.toNat (by omega)
 have hp:=pow_10 hn.2
 have hl:=held_len M
 have hl2:0 < (heldT M).length:=List.length_pos_iff.2 hh
 have c1:=gCheck_ok z e z2 e2 f M h.ff (by omega) h.t h.k h.mid
 have c2:=film_ok z e f a (by omega)
 rw [decide_eq_true ha] at c2
 have c3:=held_ok z2 e2 M hm.1 hm.2 h.k h.mid
 (refine fcall_of mixed Tryz.func11 rfl (by decide) (hs:={ ord:=[(12,[(0,[]),(1,[]),(2,[]),(3,[]),(4,[0]),(5,[]),(6,[]),(7,[]),(8,[])])] }) ?k (ac:=?ac) ?c (rs:=?rs) ?r ?l ?H;(case k=>kernel_rfl);(case c=>(conv=>(lhs;cbv)));(case r=>(conv=>(lhs;cbv)));(case l=>exact Nat.le_of_ble_eq_true rfl))
 (repeat' ((try conv=>whnf);first|(with_reducible first|refine wT ?_|refine wF ?_|(refine wI (fun hq=>?_) (fun hq=>?_) <;> try simp only [zA,zE,zD,zJ,zB,zI,wK,wL] at hq)|refine wA ?_|refine wB ?_|refine wC ?_|refine wD ?_|refine wE ?_)|((with_reducible refine wN ?_ ?_);focus exact needA)|(with_reducible refine wG ?_)|(refine FCall.pure (c1) ⟨Ln.sameB _ rfl,Ln.sameB _ rfl,True.intro⟩ rfl ?_)|(refine FCall.pure (c2) ⟨Ln.sameB _ rfl,Ln.sameB _ rfl,True.intro⟩ rfl ?_)|(refine FCall.pure (c3) ⟨Ln.sameB _ rfl,True.intro⟩ rfl ?_)|(with_reducible refine wP ?_)))
 all_goals (try conv=>whnf)
 refine FLoop.of (ACalls.mono _) (X:=Nat × Nat × List Rd) (fun x=>[(2,AI a),(9,.ptr 0 0),(10,match x.2.1 with|0=>nilS|m + 1=>.own 1 (m + 1)),(11,aGls false false (heldT M)),(33,AI F),(34,AI x.1)]) (fun x=>match x.2.1 with
  | 0=>[.box 2 (cFilms z e f)]
  | m + 1=>[.box 2 (cFilms z e f),rowRd (m + 1) x.2.2]) (fun x=>x.1 ≤ F ∧ x.2.1 = x.2.2.length ∧ x.2.2 = readK f.n.toNat M a x.1) (fun x=>F - x.1) (0,0,[]) ⟨⟨Nat.zero_le _,rfl,rfl⟩,[1],Cut.A,Ln.A,Ln.A,Ln.A,Ln.A,Ln.eqI hF,Ln.A,True.intro⟩ ?_
 rintro ⟨k,m,R⟩ ⟨hk,hmR,hR⟩
 change k ≤ F at hk
 change m = R.length at hmR
 change R = readK f.n.toNat M a k at hR
 dsimp only
 have hRl:=readK_len f.n.toNat M a k
 rw [← hR] at hRl
 by_cases hlt:k < F
 ·have hs:readK f.n.toNat M a (k + 1) = stepF R k (headT f.n.toNat (atT (heldT M) a k)):=by rw [hR];rfl
  have c4:=at_s false (heldT M) a k (by omega) (by omega)
  have hal:=at_len (heldT M) a k
  have c5:=readings_ok z e f (atT (heldT M) a k) h.ff (by omega) (h.sg a k) (h.rd a k)
  have hne:=List.length_pos_iff.2 (h.rd a k)
  unfold headT at hs
  generalize rdT f.n.toNat (atT (heldT M) a k) = S at *
  obtain ⟨v,hv⟩:∃ v,S.getD (Int.toNat 0) 0 = v:=⟨_,rfl⟩
  rw [show S.getD 0 0 = v from hv] at hs
  by_cases h0:v = 0
  ·have hs2:readK f.n.toNat M a (k + 1) = R:=by rw [hs];unfold stepF;rw [if_pos h0]
   rcases m with _|m
   ·(repeat' ((try conv=>whnf);first|(with_reducible first|refine wT ?_|refine wF ?_|(refine wI (fun hq=>?_) (fun hq=>?_) <;> try simp only [zA,zE,zD,zJ,zB,zI,wK,wL] at hq)|refine wA ?_|refine wB ?_|refine wC ?_|refine wD ?_|refine wE ?_)|((with_reducible refine wN ?_ ?_);focus exact needA)|(with_reducible refine wG ?_)|(refine FCall.pure (c4) ⟨Ln.sameB _ rfl,Ln.sameB _ rfl,Ln.sameB _ rfl,True.intro⟩ rfl ?_)|(refine FCall.pure (c5) ⟨Ln.sameB _ rfl,Ln.sameB _ rfl,True.intro⟩ rfl ?_)|(with_reducible refine wP ?_)))
    all_goals (try conv=>whnf)
    all_goals first
     | (exfalso;omega)
     | exact ⟨⟨(k + 1,0,R),⟨hlt,hmR,hs2.symm⟩,by show _ < _;omega,[0],Cut.A,allA⟩⟩
   ·(repeat' ((try conv=>whnf);first|(with_reducible first|refine wT ?_|refine wF ?_|(refine wI (fun hq=>?_) (fun hq=>?_) <;> try simp only [zA,zE,zD,zJ,zB,zI,wK,wL] at hq)|refine wA ?_|refine wB ?_|refine wC ?_|refine wD ?_|refine wE ?_)|((with_reducible refine wN ?_ ?_);focus exact needA)|(with_reducible refine wG ?_)|(refine FCall.pure (c4) ⟨Ln.sameB _ rfl,Ln.sameB _ rfl,Ln.sameB _ rfl,True.intro⟩ rfl ?_)|(refine FCall.pure (c5) ⟨Ln.sameB _ rfl,Ln.sameB _ rfl,True.intro⟩ rfl ?_)|(with_reducible refine wP ?_)))
    all_goals (try conv=>whnf)
    all_goals first
     | (exfalso;omega)
     | exact ⟨⟨(k + 1,m + 1,R),⟨hlt,hmR,hs2.symm⟩,by show _ < _;omega,[0,1],Cut.A,allA⟩⟩
  ·rcases m with _|m
   ·have hs2:readK f.n.toNat M a (k + 1) = R ++ [⟨(k:Int),(k:Int) + 1,(v:Int)⟩]:=by
     rw [hs];unfold stepF;rw [if_neg h0,if_neg (by omega)]
    (repeat' ((try conv=>whnf);first|(with_reducible first|refine wT ?_|refine wF ?_|(refine wI (fun hq=>?_) (fun hq=>?_) <;> try simp only [zA,zE,zD,zJ,zB,zI,wK,wL] at hq)|refine wA ?_|refine wB ?_|refine wC ?_|refine wD ?_|refine wE ?_)|((with_reducible refine wN ?_ ?_);focus exact needA)|(with_reducible refine wG ?_)|(refine FCall.pure (c4) ⟨Ln.sameB _ rfl,Ln.sameB _ rfl,Ln.sameB _ rfl,True.intro⟩ rfl ?_)|(refine FCall.pure (c5) ⟨Ln.sameB _ rfl,Ln.sameB _ rfl,True.intro⟩ rfl ?_)|(with_reducible refine wP ?_)))
    all_goals (try conv=>whnf)
    all_goals first
     | (exfalso;omega)
     | exact ⟨⟨(k + 1,0 + 1,R ++ [⟨(k:Int),(k:Int) + 1,(v:Int)⟩]),⟨hlt,by show 0 + 1 = _;rw [List.length_append,← hmR];rfl,hs2.symm⟩,by show _ < _;omega,[0,1],wO rfl rfl rfl (wV rfl LnB.A (wV rfl (LnB.app (fun k hk=>absurd hk (Nat.not_lt_zero k)) (fun o ho=>by show cRd ((R ++ [_]).getD 0 rd0) o = _;rw [getR_n hmR,← hv];exact elem3 (x:=cRd _) rfl rfl rfl o ho)) wX)),allA⟩⟩
   ·have hix:(((m + 1:Nat):Int) - 1).toNat = m:=by omega
    have hla:lastR R = R.getD m rd0:=by unfold lastR;rw [← hmR];rfl
    by_cases hc:(R.getD (((m + 1:Nat):Int) - 1).toNat rd0).to = (k:Int) ∧ (R.getD (((m + 1:Nat):Int) - 1).toNat rd0).sg = (v:Int)
    ·have hs2:readK f.n.toNat M a (k + 1) = R.set m ⟨(R.getD m rd0).fr,(R.getD m rd0).to + 1,(R.getD m rd0).sg⟩:=by
      rw [hix] at hc
      rw [hs];unfold stepF;rw [if_neg h0,if_pos ⟨by omega,by rw [hla];exact hc⟩,hla,← hmR];rfl
     (repeat' ((try conv=>whnf);first|(with_reducible first|refine wT ?_|refine wF ?_|(refine wI (fun hq=>?_) (fun hq=>?_) <;> try simp only [zA,zE,zD,zJ,zB,zI,wK,wL] at hq)|refine wA ?_|refine wB ?_|refine wC ?_|refine wD ?_|refine wE ?_)|((with_reducible refine wN ?_ ?_);focus exact needA)|(with_reducible refine wG ?_)|(refine FCall.pure (c4) ⟨Ln.sameB _ rfl,Ln.sameB _ rfl,Ln.sameB _ rfl,True.intro⟩ rfl ?_)|(refine FCall.pure (c5) ⟨Ln.sameB _ rfl,Ln.sameB _ rfl,True.intro⟩ rfl ?_)|(with_reducible refine wP ?_)))
     all_goals (try conv=>whnf)
     all_goals first
      | (exfalso;omega)
      | exact ⟨⟨(k + 1,m + 1,R.set m ⟨(R.getD m rd0).fr,(R.getD m rd0).to + 1,(R.getD m rd0).sg⟩),⟨hlt,by show m + 1 = _;rw [List.length_set];exact hmR,hs2.symm⟩,by show _ < _;omega,[0,1],wO rfl rfl rfl (wV rfl LnB.A (wV rfl (LnB.rowE (Nat.le_refl _) (fun j hj o ho=>by show _ = updR _ (((m + 1:Nat):Int) - 1).toNat 1 _ j o;rw [hix];exact set_row (by omega) ho)) wX)),allA⟩⟩
    ·have hs2:readK f.n.toNat M a (k + 1) = R ++ [⟨(k:Int),(k:Int) + 1,(v:Int)⟩]:=by
      rw [hix] at hc
      rw [hs];unfold stepF;rw [if_neg h0,if_neg (by rw [hla];exact fun h=>hc h.2)]
     (repeat' ((try conv=>whnf);first|(with_reducible first|refine wT ?_|refine wF ?_|(refine wI (fun hq=>?_) (fun hq=>?_) <;> try simp only [zA,zE,zD,zJ,zB,zI,wK,wL] at hq)|refine wA ?_|refine wB ?_|refine wC ?_|refine wD ?_|refine wE ?_)|((with_reducible refine wN ?_ ?_);focus exact needA)|(with_reducible refine wG ?_)|(refine FCall.pure (c4) ⟨Ln.sameB _ rfl,Ln.sameB _ rfl,Ln.sameB _ rfl,True.intro⟩ rfl ?_)|(refine FCall.pure (c5) ⟨Ln.sameB _ rfl,Ln.sameB _ rfl,True.intro⟩ rfl ?_)|(with_reducible refine wP ?_)))
     all_goals (try conv=>whnf)
     all_goals first
      | (exfalso;omega)
      | exact ⟨⟨(k + 1,m + 1 + 1,R ++ [⟨(k:Int),(k:Int) + 1,(v:Int)⟩]),⟨hlt,by show m + 1 + 1 = _;rw [List.length_append,← hmR];rfl,hs2.symm⟩,by show _ < _;omega,[0,2],wO rfl rfl rfl (wV rfl LnB.A (wV rfl (LnB.app (fun j hj o ho=>by show cRd ((R ++ [_]).getD j rd0) o = _;rw [getR_l (by omega)]) (fun o ho=>by show cRd ((R ++ [_]).getD (m + 1) rd0) o = _;rw [getR_n hmR,← hv];exact elem3 (x:=cRd _) rfl rfl rfl o ho)) wX)),allA⟩⟩
 ·obtain rfl:k = F:=by omega
  rw [← hR]
  rcases m with _|m
  ·(repeat' ((try conv=>whnf);first|(with_reducible first|refine wT ?_|refine wF ?_|(refine wI (fun hq=>?_) (fun hq=>?_) <;> try simp only [zA,zE,zD,zJ,zB,zI,wK,wL] at hq)|refine wA ?_|refine wB ?_|refine wC ?_|refine wD ?_|refine wE ?_)|((with_reducible refine wN ?_ ?_);focus exact needA)|(with_reducible refine wG ?_)|(with_reducible refine wP ?_)))
   all_goals (try conv=>whnf)
   exact ⟨⟨.tup 2 (ofL [aRds R,AI 0]),[],[],Cut.nil _,Ln.tupN ⟨⟨True.intro,Ln.nilZ hmR.symm⟩,Ln.A⟩,rfl,rfl⟩⟩
  ·(repeat' ((try conv=>whnf);first|(with_reducible first|refine wT ?_|refine wF ?_|(refine wI (fun hq=>?_) (fun hq=>?_) <;> try simp only [zA,zE,zD,zJ,zB,zI,wK,wL] at hq)|refine wA ?_|refine wB ?_|refine wC ?_|refine wD ?_|refine wE ?_)|((with_reducible refine wN ?_ ?_);focus exact needA)|(with_reducible refine wG ?_)|(with_reducible refine wP ?_)))
   all_goals (try conv=>whnf)
   exact ⟨⟨.tup 2 (ofL [aRds R,AI 0]),[],[],Cut.nil _,Ln.tupN ⟨⟨True.intro,Ln.pubZ (by omega) (goneB rfl) rfl (Nat.le_refl _) hmR (fun _ _ _ _=>rfl)⟩,Ln.A⟩,rfl,rfl⟩⟩
end Go.Proofs.YtodpjdmdmmnlpaaGreat

namespace Go.Proofs.YtodpjdmdmmnlpaaGreat

/-- The set of some signs. -/
def setU (l:List Int):Nat → Nat
 | 0=>0
 | k + 1=>setU l k ||| 2 ^ (l.getD k 0).toNat
theorem setU_lt {l:List Int} (h:∀ n,n ∈ l → 0 ≤ n ∧ n < 10):∀ k,k ≤ l.length → setU l k < 1024
 | 0,_=>show (0:Nat) < 1024 by decide
 | k + 1,hk=>by
  have hm:l.getD k 0 ∈ l:=by rw [List.getD,List.getElem?_eq_getElem (by omega)];exact List.getElem_mem _
  have:=h _ hm
  exact Nat.or_lt_two_pow (n:=10) (setU_lt h k (by omega)) (Nat.pow_lt_pow_right (by decide) (by omega))
theorem setU_bit {l:List Int} {v:Int}:∀ {k i:Nat},i < k → l.getD i 0 = v → (setU l k).testBit v.toNat = true
 | k + 1,i,hi,hv=>by
  simp only [setU,Nat.testBit_or,Bool.or_eq_true]
  by_cases e:i = k
  ·subst e;right;rw [hv];exact Nat.testBit_two_pow_self
  ·exact .inl (setU_bit (by omega) hv)
/-- What an author writes. -/
def setS (l:List Ent) (s:Seen):Nat:=setU (findT l s) (findT l s).length
def msgT (l:List Ent) (a b:Int) (S:Nat → Seen) (j:Nat):Gl:=⟨j,0,0,a,b,setS l (S j)⟩
def msgsT (l:List Ent) (a b:Int) (S:Nat → Seen) (n:Nat):List Gl:=(List.range n).map (msgT l a b S)
def fi10 : Films:=⟨[10],10⟩
theorem fi10_ok : FilmsOk fi10:=films_d (by decide)
/-- The law's premises. -/
structure SeenLaw (l:List Ent) (i:Nat) (a b:Int) (S:Nat → Seen) (n:Nat):Prop where
 hl:BookOk l
 hi:i < l.length
 sm:∀ k,k < l.length → (l.getD k en0).sg < 10
 n1:1 ≤ n ∧ n ≤ 6
 ab:0 ≤ a ∧ a < b ∧ b ≤ 10
 sn:∀ j,j < n → SeenOk (S j) ∧ agR (l.getD i en0) (S j) = true
section
variable {l:List Ent} {i:Nat} {a b:Int} {S:Nat → Seen} {n:Nat}
theorem find_in (hl:BookOk l) (sm:∀ k,k < l.length → (l.getD k en0).sg < 10) {s:Seen}:∀ m,m ∈ findT l s → 0 ≤ m ∧ m < 10:=fun m hm=>by
 obtain ⟨x,hx,rfl,_⟩:=(find_mem hl m).1 hm
 obtain ⟨k,hk,rfl⟩:=List.getElem_of_mem hx
 have e:l.getD k en0 = l[k]:=by rw [List.getD,List.getElem?_eq_getElem hk];rfl
 have h1:=(hl.en k hk).sg
 have h2:=sm k hk
 rw [e] at h1 h2
 exact ⟨h1.1,h2⟩
abbrev vSg (l:List Ent) (i:Nat):Int:=(l.getD i en0).sg
theorem SeenLaw.v (h:SeenLaw l i a b S n):0 ≤ vSg l i ∧ vSg l i < 10:=⟨(h.hl.en i h.hi).sg.1,h.sm i h.hi⟩
theorem SeenLaw.set (h:SeenLaw l i a b S n) {j:Nat} (hj:j < n):setS l (S j) < 1024 ∧ (setS l (S j)).testBit (vSg l i).toNat = true:=by
 refine ⟨setU_lt (find_in h.hl h.sm) _ (Nat.le_refl _),?_⟩
 have hm:vSg l i ∈ findT l (S j):=(find_mem h.hl _).2 ⟨l.getD i en0,by rw [List.getD,List.getElem?_eq_getElem h.hi];exact List.getElem_mem _,rfl,ag_RP (h.sn j hj).1.lost.1 (h.sn j hj).2⟩
 obtain ⟨k,hk,e⟩:=List.getElem_of_mem hm
 exact setU_bit hk (by rw [List.getD,List.getElem?_eq_getElem hk];exact e)
theorem msgs_len : (msgsT l a b S n).length = n:=by simp [msgsT]
theorem msgs_get {j:Nat} (hj:j < n):(msgsT l a b S n).getD j gl0 = msgT l a b S j:=by simp [msgsT,List.getD,hj]
theorem msgs_mem {g:Gl} (hg:g ∈ msgsT l a b S n):∃ j,j < n ∧ g = msgT l a b S j:=by
 obtain ⟨j,hj,rfl⟩:=List.mem_map.1 hg
 exact ⟨j,List.mem_range.1 hj,rfl⟩
theorem SeenLaw.ok (h:SeenLaw l i a b S n):MsgOk fi10 (msgsT l a b S n):=by
 have h1:=h.n1
 have h2:=h.ab
 refine ⟨fi10_ok,by rw [msgs_len];omega,fun k hk=>?_,?_⟩
 ·rw [msgs_len] at hk
  rw [msgs_get hk]
  have hs:=(h.set hk).1
  exact ⟨⟨by show (0:Int) ≤ (k:Int);omega,by show (k:Int) ≤ 7;omega⟩,⟨(show (0:Int) ≤ 0 by decide),(show (0:Int) ≤ 9999 by decide)⟩,⟨(show (0:Int) ≤ 0 by decide),(show (0:Int) < ((1:Nat):Int) by decide)⟩,⟨h2.1,h2.2.1⟩,h2.2.2,⟨Int.natCast_nonneg _,by show ((setS l (S k):Nat):Int) < ((2 ^ 10:Nat):Int);omega⟩⟩
 ·unfold Keys msgsT
  refine List.pairwise_map.2 (List.pairwise_lt_range.imp fun {x y} hxy e=>?_)
  have e1:(x:Int) = (y:Int):=e.1
  omega
theorem SeenLaw.sg (h:SeenLaw l i a b S n) {g:Gl} (hg:g ∈ msgsT l a b S n):g.sg.toNat.testBit (vSg l i).toNat = true:=by
 obtain ⟨j,hj,e⟩:=msgs_mem hg
 have hs:g.sg = ((setS l (S j):Nat):Int):=by rw [e];rfl
 rw [hs,Int.toNat_natCast]
 exact (h.set hj).2
theorem sg_ne {g:Gl} {v:Nat} (h:g.sg.toNat.testBit v = true):g.sg ≠ 0:=fun e=>by
 rw [e] at h
 simp at h
theorem SeenLaw.held (h:SeenLaw l i a b S n):heldT (msgsT l a b S n) = srt (msgsT l a b S n):=by
 unfold heldT
 refine List.filter_eq_self.2 fun g hg=>?_
 have hp:=srt_perm (msgsT l a b S n)
 have hgm:=hp.mem_iff.1 hg
 have h0:=sg_ne (h.sg hgm)
 unfold goneG
 rw [decide_eq_false h0,Bool.false_or,Bool.not_eq_true',List.any_eq_false]
 intro o ho
 obtain ⟨j,hj,rfl⟩:=msgs_mem hgm
 obtain ⟨k,hk,rfl⟩:=msgs_mem (hp.mem_iff.1 ho)
 unfold laterB
 show ¬ ((decide ((k:Int) = (j:Int)) && decide ((0:Int) < 0) && _) = true)
 simp
theorem SeenLaw.heldNe (h:SeenLaw l i a b S n):heldT (msgsT l a b S n) ≠ []:=by
 rw [h.held]
 intro e
 have:=(srt_perm (msgsT l a b S n)).length_eq
 rw [e,msgs_len] at this
 have:=h.n1
 simp at *
 omega
theorem SeenLaw.at_in (h:SeenLaw l i a b S n) {k:Int} (hk:a ≤ k ∧ k < b):atT (heldT (msgsT l a b S n)) 0 k = srt (msgsT l a b S n):=by
 rw [h.held]
 unfold atT
 refine List.filter_eq_self.2 fun g hg=>?_
 obtain ⟨j,hj,rfl⟩:=msgs_mem ((srt_perm (msgsT l a b S n)).mem_iff.1 hg)
 unfold outB
 show (!(decide ((0:Int) ≠ 0) || decide (k < a) || decide (b ≤ k))) = true
 rw [decide_eq_false (by omega),decide_eq_false (by omega),decide_eq_false (by omega)]
 rfl
theorem SeenLaw.at_out (h:SeenLaw l i a b S n) {k:Int} (hk:k < a ∨ b ≤ k):atT (heldT (msgsT l a b S n)) 0 k = []:=by
 rw [h.held]
 unfold atT
 refine List.filter_eq_nil_iff.2 fun g hg=>?_
 obtain ⟨j,hj,rfl⟩:=msgs_mem ((srt_perm (msgsT l a b S n)).mem_iff.1 hg)
 unfold outB
 show ¬ ((!(decide ((0:Int) ≠ 0) || decide (k < a) || decide (b ≤ k))) = true)
 rcases hk with hk|hk
 ·rw [decide_eq_true hk];simp
 ·rw [decide_eq_true hk];simp
theorem popK_zero {x:Nat}:∀ {k:Nat},popK x k = 0 → ∀ j,j < k → x.testBit j = false
 | k + 1,h,j,hj=>by
  simp only [popK] at h
  by_cases e:j = k
  ·subst e
   by_cases hb:x.testBit j = true
   ·rw [if_pos hb] at h;omega
   ·simpa using hb
  ·exact popK_zero (k:=k) (by omega) j (by omega)
theorem popT_zero {x:Nat} (hx:x < 1024) (h:popT x = 0):x = 0:=by
 apply Nat.eq_of_testBit_eq
 intro j
 rw [Nat.zero_testBit]
 by_cases hj:j < 10
 ·exact popK_zero h j hj
 ·exact Nat.testBit_lt_two_pow (Nat.lt_of_lt_of_le hx ((show 1024 ≤ 2 ^ j from Nat.pow_le_pow_right (n:=2) (i:=10) (by decide) (by omega:10 ≤ j))))
theorem popT_two {v:Nat} (hv:v < 10):popT (2 ^ v) = 1:=by
 rcases (show v = 0 ∨ v = 1 ∨ v = 2 ∨ v = 3 ∨ v = 4 ∨ v = 5 ∨ v = 6 ∨ v = 7 ∨ v = 8 ∨ v = 9 by omega) with rfl|rfl|rfl|rfl|rfl|rfl|rfl|rfl|rfl|rfl <;> decide
theorem head_mem {l:List Nat} (h:l ≠ []):l.getD 0 0 ∈ l:=by
 cases l with
 | nil=>exact absurd rfl h
 | cons x t=>exact List.mem_cons_self
theorem head_nil : headT 10 [] = 0:=by
 have ok:=rdK_ok [] (2 ^ 10)
 have h0:=(ok.all 0 (by decide) rfl).1
 have hm:=head_mem h0
 obtain ⟨h1,_,h3⟩:=ok.el _ hm
 have:=h3 0 (by decide) rfl
 exact popT_zero h1 (Nat.le_zero.1 this)
theorem miss_two {g:Gl} {v:Nat} (h:g.sg.toNat.testBit v = true):missB (2 ^ v) g = false:=by
 unfold missB
 refine decide_eq_false fun e=>?_
 have:=congrArg (fun x=>x.testBit v) e
 simp [Nat.testBit_and,h,Nat.testBit_two_pow_self] at this
theorem SeenLaw.rd (h:SeenLaw l i a b S n):2 ^ (vSg l i).toNat ∈ rdT 10 (srt (msgsT l a b S n)) ∧ ∀ x,x ∈ rdT 10 (srt (msgsT l a b S n)) → x < 1024 ∧ popT x = 1:=by
 have hv:=h.v
 have ok:=rdK_ok (srt (msgsT l a b S n)) (2 ^ 10)
 have hp:=srt_perm (msgsT l a b S n)
 have hlt:2 ^ (vSg l i).toNat < 2 ^ 10:=Nat.pow_lt_pow_right (by decide) (by omega)
 have h2:(srt (msgsT l a b S n)).any (missB (2 ^ (vSg l i).toNat)) = false:=by
  rw [List.any_eq_false]
  intro g hg
  rw [miss_two (h.sg (hp.mem_iff.1 hg))];decide
 have hpop:popT (2 ^ (vSg l i).toNat) = 1:=popT_two (by omega)
 have one:∀ x,x ∈ rdT 10 (srt (msgsT l a b S n)) → x < 1024 ∧ popT x = 1:=fun x hx=>by
  obtain ⟨h1,h3,h4⟩:=ok.el x hx
  refine ⟨h1,?_⟩
  have hle:=h4 _ hlt h2
  rw [hpop] at hle
  have hne:popT x ≠ 0:=fun e=>by
   have:=popT_zero h1 e
   subst this
   rw [List.any_eq_false] at h3
   have hm:msgT l a b S 0 ∈ srt (msgsT l a b S n):=hp.mem_iff.2 (List.mem_map.2 ⟨0,List.mem_range.2 (by have:=h.n1;omega),rfl⟩)
   have:=h3 _ hm
   unfold missB at this
   simp at this
  omega
 exact ⟨(ok.all _ hlt h2).2 fun x hx=>by rw [hpop,(one x hx).2];exact Nat.le_refl _,one⟩
theorem or_bit {l:List Nat} {v:Nat}:∀ {k j:Nat},j < k → (l.getD j 0).testBit v = true → (orT l k).testBit v = true
 | k + 1,j,hj,hb=>by
  simp only [orT,Nat.testBit_or,Bool.or_eq_true]
  by_cases e:j = k
  ·subst e;exact .inr hb
  ·exact .inl (or_bit (by omega) hb)
theorem SeenLaw.may (h:SeenLaw l i a b S n):(orT (rdT 10 (atT (heldT (msgsT l a b S n)) 0 a)) (rdT 10 (atT (heldT (msgsT l a b S n)) 0 a)).length).testBit (vSg l i).toNat = true:=by
 rw [h.at_in ⟨Int.le_refl _,h.ab.2.1⟩]
 obtain ⟨j,hj,e⟩:=List.getElem_of_mem h.rd.1
 exact or_bit hj (by rw [List.getD,List.getElem?_eq_getElem hj,Option.getD_some,e];exact Nat.testBit_two_pow_self)
theorem SeenLaw.head (h:SeenLaw l i a b S n):∃ x,x < 1024 ∧ popT x = 1 ∧ ∀ k:Int,a ≤ k → k < b → headT 10 (atT (heldT (msgsT l a b S n)) 0 k) = x:=by
 have hr:=h.rd
 have hm:=head_mem (l:=rdT 10 (srt (msgsT l a b S n))) (List.ne_nil_of_mem hr.1)
 refine ⟨_,(hr.2 _ hm).1,(hr.2 _ hm).2,fun k h1 h2=>?_⟩
 rw [h.at_in ⟨h1,h2⟩];rfl
theorem SeenLaw.read (h:SeenLaw l i a b S n):∃ x:Nat,x < 1024 ∧ popT x = 1 ∧ readK 10 (msgsT l a b S n) 0 10 = [⟨a,b,x⟩]:=by
 obtain ⟨x,h1,h2,hx⟩:=h.head
 refine ⟨x,h1,h2,?_⟩
 have hab:=h.ab
 have hne:x ≠ 0:=fun e=>by subst e;exact absurd h2 (by decide)
 have key:∀ k:Nat,k ≤ 10 → readK 10 (msgsT l a b S n) 0 k = if (k:Int) ≤ a then [] else [⟨a,min (k:Int) b,x⟩]:=by
  intro k
  induction k with
  | zero=>intro _;rw [if_pos (by omega)];rfl
  | succ k ih =>
   intro hk
   simp only [readK]
   rw [ih (by omega)]
   by_cases c1:(k:Int) < a
   ·rw [if_pos (by omega),if_pos (by omega),h.at_out (.inl c1),head_nil]
    rfl
   ·by_cases c2:(k:Int) < b
    ·rw [hx k (by omega) c2]
     by_cases c3:(k:Int) = a
     ·rw [if_pos (by omega),if_neg (by omega)]
      unfold stepF
      rw [if_neg hne,if_neg (by simp)]
      rw [show min (((k + 1:Nat)):Int) b = (k:Int) + 1 by omega,c3]
      rfl
     ·rw [if_neg (by omega),if_neg (by omega)]
      unfold stepF
      rw [if_neg hne,if_pos ⟨Nat.zero_lt_one,by show min (k:Int) b = k;omega,rfl⟩]
      show [(⟨a,min (k:Int) b + 1,x⟩:Rd)] = _
      rw [show min (((k + 1:Nat)):Int) b = min (k:Int) b + 1 by omega]
    ·rw [h.at_out (.inr (by omega)),head_nil,if_neg (by omega),if_neg (by omega)]
     unfold stepF
     rw [if_pos rfl]
     rw [show min (((k + 1:Nat)):Int) b = min (k:Int) b by omega]
 rw [key 10 (Nat.le_refl _),if_neg (by omega)]
 rw [show min ((10:Nat):Int) b = b by omega]
end
end Go.Proofs.YtodpjdmdmmnlpaaGreat

namespace Go.Proofs.YtodpjdmdmmnlpaaGreat
open Go.RowKit

abbrev aFind (l:List Ent) (s:Seen):AV:=aInts (decide ((findT l s).length = 0)) false (findT l s)
theorem book_len (f:EnF) (l:List Ent):(bookL f l l.length).length = (fstK l l.length).length:=List.length_map _
theorem book_at (f:EnF) {l:List Ent} {i:Nat} (h:i < (bookL f l l.length).length):(bookL f l l.length).getD i default = ([(l.getD (fstI l i) en0).id],vE f l (fstI l i)):=by
 have h':i < (fstK l l.length).length:=by rwa [book_len] at h
 unfold bookL fstI
 simp [List.getD,h',pE]
theorem keysM_len (S:List (List Int × AV)):(keysM S).length = S.length:=List.length_map _
set_option maxHeartbeats 8000000
set_option maxRecDepth 100000
theorem mkeys_ok (L:List (List Int × AV)):ACall Tryz.prog 42 [.mpv 0] [.mp 0 L] (fun r h=>r = fKeys ∧ h = [.mp 0 L,bxKeys]):=by
 (refine fcall_of mixed Tryz.func42 rfl (by decide) (hs:={}) ?k (ac:=?ac) ?c (rs:=?rs) ?r ?l ?H;(case k=>kernel_rfl);(case c=>(conv=>(lhs;cbv)));(case r=>(conv=>(lhs;cbv)));(case l=>exact Nat.le_of_ble_eq_true rfl))
 (repeat' ((try conv=>whnf);first|(with_reducible first|refine wT ?_|refine wF ?_|(refine wI (fun hq=>?_) (fun hq=>?_) <;> try simp only [zA,zE,zD,zJ,zB,zI,wK,wL] at hq)|refine wA ?_|refine wB ?_|refine wC ?_|refine wD ?_|refine wE ?_)|((with_reducible refine wN ?_ ?_);focus exact needA)|(with_reducible refine wG ?_)|(with_reducible refine wP ?_)))
 all_goals (try conv=>whnf)
 exact ⟨⟨fKeys,[.mp 0 L,bxKeys],[0,1],Cut.A,Ln.A,rfl,rfl⟩⟩
theorem pfind_ok (f:EnF) (l:List Ent) (hl:BookOk l) (z e:Bool) (s:Seen) (hs:SeenOk s):ACall Tryz.prog 23 [.mpv 0,aSeen z e s] [mBook f l] (fun r h=>r = aFind l s ∧ h = [mBook f l]):=by
 have n40:=hl.n
 have hbl:=book_len f l
 have hfl:=fst_len (l:=l) l.length
 (refine fcall_of mixed Tryz.func23 rfl (by decide) (hs:={}) ?k (ac:=?ac) ?c (rs:=?rs) ?r ?l ?H;(case k=>kernel_rfl);(case c=>(conv=>(lhs;cbv)));(case r=>(conv=>(lhs;cbv)));(case l=>exact Nat.le_of_ble_eq_true rfl))
 (repeat' ((try conv=>whnf);first|(with_reducible first|refine wT ?_|refine wF ?_|(refine wI (fun hq=>?_) (fun hq=>?_) <;> try simp only [zA,zE,zD,zJ,zB,zI,wK,wL] at hq)|refine wA ?_|refine wB ?_|refine wC ?_|refine wD ?_|refine wE ?_)|((with_reducible refine wN ?_ ?_);focus exact needA)|(with_reducible refine wG ?_)|(with_reducible refine wP ?_)))
 all_goals (try conv=>whnf)
 refine FLoop.of (ACalls.mono _) (X:=List Nat × List (List Int × AV)) (fun x=>[(3,.ptr 1 0),(5,.mpv 2),(10,.ptr 3 0)]) (fun x=>[mBook f l,.box 12 (cSeen z e s),.mp 0 x.2,.mit (.mpv 0) (bookL f l l.length).length x.1]) (fun x=>x.1.Nodup ∧ (∀ i ∈ x.1,i < (bookL f l l.length).length) ∧ SgI (fun i=>(l.getD (fstI l i) en0).sg) (fun i=>agP (l.getD (fstI l i) en0) s) x.1 x.2) (fun x=>(bookL f l l.length).length - x.1.length) ([],[]) ⟨⟨List.nodup_nil,(fun i hi=>by cases hi),sgI_nil _ _⟩,[0,1,2,3],Cut.A,allA⟩ ?_
 rintro ⟨sE,S⟩ ⟨hnd,hlt,hS⟩
 change sE.Nodup at hnd
 change ∀ i,i ∈ sE → i < (bookL f l l.length).length at hlt
 dsimp only
 change SgI _ _ sE S at hS
 have hle:sE.length ≤ (fstK l l.length).length:=by
  have:=List.Nodup.length_le_of_subset hnd (l₂:=List.range (fstK l l.length).length) (fun x hx=>List.mem_range.2 (by have:=hlt x hx;omega))
  rwa [List.length_range] at this
 have hSl:S.length ≤ 1000:=by
  have hsub:∀ x ∈ S.map (·.1),x ∈ sE.map fun i=>[(l.getD (fstI l i) en0).sg]:=fun x hx=>by
   obtain ⟨p,hp,rfl⟩:=List.mem_map.1 hx
   obtain ⟨n,c,rfl,_⟩:=hS.sh p hp
   obtain ⟨i,hi,_,e⟩:=(hS.mem n).1 hx
   exact List.mem_map.2 ⟨i,hi,by rw [e]⟩
  have:=List.Nodup.length_le_of_subset hS.nod (fun x hx=>hsub x hx)
  rw [List.length_map,List.length_map] at this
  omega
 have new:∀ i,i < (bookL f l l.length).length → i ∉ sE → (sE ++ [i]).Nodup ∧ (∀ j,j ∈ sE ++ [i] → j < (bookL f l l.length).length):=fun i hi hn=>by
  refine ⟨?_,fun j hj=>?_⟩
  ·rw [List.nodup_append]
   exact ⟨hnd,by simp,fun a ha b hb=>by rw [List.mem_singleton.1 hb];intro e;exact hn (e ▸ ha)⟩
  ·rcases List.mem_append.1 hj with h|h
   ·exact hlt j h
   ·rw [List.mem_singleton.1 h];exact hi
 have less:∀ i,i < (bookL f l l.length).length → i ∉ sE → (bookL f l l.length).length - (sE ++ [i]).length < (bookL f l l.length).length - sE.length:=fun i hi hn=>by
  have:=List.Nodup.length_le_of_subset (l₁:=sE ++ [i]) (new i hi hn).1 (l₂:=List.range (fstK l l.length).length) (fun x hx=>List.mem_range.2 (by have:=(new i hi hn).2 x hx;omega))
  rw [List.length_range,List.length_append,List.length_singleton] at this
  rw [List.length_append,List.length_singleton]
  omega
 (repeat' ((try conv=>whnf);first|(with_reducible first|refine wT ?_|refine wF ?_|(refine wI (fun hq=>?_) (fun hq=>?_) <;> try simp only [zA,zE,zD,zJ,zB,zI,wK,wL] at hq)|refine wA ?_|refine wB ?_|refine wC ?_|refine wD ?_|refine wE ?_)|((with_reducible refine wN ?_ ?_);focus exact needA)|(with_reducible refine wG ?_)|(refine FNext.mk (fun hlen=>?_) (fun i hi hn=>?_))|((refine FCall.give [2] [] ((mkeys_ok S)) rfl rfl ⟨⟨_,rfl,trivial,LnB.A⟩,True.intro⟩ ⟨Ln.A,True.intro⟩ ?_);rintro _ _ ⟨rfl,rfl⟩;(refine ⟨by first|exact Nat.le_of_ble_eq_true rfl|omega,.inl rfl,?_⟩))|((refine FCall.give [2,4] [] ((psorted_ok S hSl)) rfl rfl ⟨⟨_,rfl,trivial,LnB.A⟩,⟨_,rfl,trivial,LnB.A⟩,True.intro⟩ ⟨Ln.A,True.intro⟩ ?_);rintro _ _ ⟨rfl,rfl⟩;(refine ⟨by first|exact Nat.le_of_ble_eq_true rfl|omega,.inl rfl,?_⟩))|(with_reducible refine wP ?_)))
 all_goals (try conv=>whnf)
 ·have hall:∀ i,i ∈ sE ↔ i < (fstK l l.length).length:=fun i=>by
   constructor
   ·intro h;have:=hlt i h;omega
   ·intro h
    apply Classical.byContradiction
    intro hn
    have:=less i (by omega) hn
    omega
  have hf:=sgI_all hl hS hall
  have hz:S.length = (findT l s).length:=by rw [← hf,sortI_len,keysM_len]
  rw [hf,hz]
  exact ⟨⟨aFind l s,[mBook f l],[0],Cut.A,Ln.A,rfl,rfl⟩⟩
 ·have hj:=fstI_lt (l:=l) (i:=i) (by omega)
  have cA:=pagrees_ok (f.fz (fstI l i)) (decide ((canF (l.getD (fstI l i) en0).fm).mv.length = 0)) z e (canE (l.getD (fstI l i) en0)) s (can_ok (hl.en _ hj).fm) (hl.en _ hj).rg hs
  rw [ag_can (hl.en _ hj).fm s] at cA
  have hsg:0 ≤ (canE (l.getD (fstI l i) en0)).sg ∧ (canE (l.getD (fstI l i) en0)).sg ≤ 999:=(hl.en _ hj).sg
  by_cases ha:agP (l.getD (fstI l i) en0) s = true
  ·rw [ha] at cA
   rcases ho:aidx S [(l.getD (fstI l i) en0).sg] with _|k
   ·obtain ⟨hlk,hS2⟩:=sgI_new (i:=i) hS ha ho
    (repeat' ((try conv=>whnf);first|(with_reducible first|refine wT ?_|refine wF ?_|(refine wI (fun hq=>?_) (fun hq=>?_) <;> try simp only [zA,zE,zD,zJ,zB,zI,wK,wL] at hq)|refine wA ?_|refine wB ?_|refine wC ?_|refine wD ?_|refine wE ?_)|((with_reducible refine wN ?_ ?_);focus exact needA)|(with_reducible refine wG ?_)|(refine FEnt.of (book_at f hi) ?_)|(refine FLast.app ?_)|(refine FCall.pure (cA) ⟨Ln.sameB _ rfl,Ln.sameB _ rfl,True.intro⟩ rfl ?_)|(refine FLook.no hlk ?_)|(refine Need.in64 (by omega) ?_)|(with_reducible refine wP ?_)))
    all_goals (try conv=>whnf)
    exact ⟨⟨(sE ++ [i],aput S [(l.getD (fstI l i) en0).sg] (AI (0 + 1))),⟨(new i hi hn).1,(new i hi hn).2,hS2⟩,less i hi hn,[0,1,2,3],Cut.A,allA⟩⟩
   ·obtain ⟨c,hc0,hc1,hlk,hS2⟩:=sgI_old (i:=i) hS ha ho
    (repeat' ((try conv=>whnf);first|(with_reducible first|refine wT ?_|refine wF ?_|(refine wI (fun hq=>?_) (fun hq=>?_) <;> try simp only [zA,zE,zD,zJ,zB,zI,wK,wL] at hq)|refine wA ?_|refine wB ?_|refine wC ?_|refine wD ?_|refine wE ?_)|((with_reducible refine wN ?_ ?_);focus exact needA)|(with_reducible refine wG ?_)|(refine FEnt.of (book_at f hi) ?_)|(refine FLast.app ?_)|(refine FCall.pure (cA) ⟨Ln.sameB _ rfl,Ln.sameB _ rfl,True.intro⟩ rfl ?_)|(refine FLook.yes hlk ?_)|(refine Need.in64 (by omega) ?_)|(with_reducible refine wP ?_)))
    all_goals (try conv=>whnf)
    exact ⟨⟨(sE ++ [i],aput S [(l.getD (fstI l i) en0).sg] (AI (c + 1))),⟨(new i hi hn).1,(new i hi hn).2,hS2⟩,less i hi hn,[0,1,2,3],Cut.A,allA⟩⟩
  ·rw [show agP (l.getD (fstI l i) en0) s = false by simpa using ha] at cA
   have hS2:=sgI_no (i:=i) hS (by simpa using ha)
   (repeat' ((try conv=>whnf);first|(with_reducible first|refine wT ?_|refine wF ?_|(refine wI (fun hq=>?_) (fun hq=>?_) <;> try simp only [zA,zE,zD,zJ,zB,zI,wK,wL] at hq)|refine wA ?_|refine wB ?_|refine wC ?_|refine wD ?_|refine wE ?_)|((with_reducible refine wN ?_ ?_);focus exact needA)|(with_reducible refine wG ?_)|(refine FEnt.of (book_at f hi) ?_)|(refine FLast.app ?_)|(refine FCall.pure (cA) ⟨Ln.sameB _ rfl,Ln.sameB _ rfl,True.intro⟩ rfl ?_)|(with_reducible refine wP ?_)))
   all_goals (try conv=>whnf)
   exact ⟨⟨(sE ++ [i],S),⟨(new i hi hn).1,(new i hi hn).2,hS2⟩,less i hi hn,[0,1,2,3],Cut.A,allA⟩⟩
end Go.Proofs.YtodpjdmdmmnlpaaGreat

namespace Go.Proofs.YtodpjdmdmmnlpaaGreat
open Go.RowKit

set_option maxHeartbeats 8000000
set_option maxRecDepth 100000
theorem pFind_ok (f:EnF) (l:List Ent) (hl:BookOk l) (z e:Bool) (s:Seen) (hs:SeenOk s):ACall Tryz.prog 9 [aEnts f l,aSeen z e s] [] (fun r h=>r = .tup 2 (ofL [aFind l s,AI 0]) ∧ h = []):=by
 have cL:=plook_ok f l hl z e s hs
 have cF:=pfind_ok f l hl z e s hs
 (refine fcall_of mixed Tryz.func9 rfl (by decide) (hs:={}) ?k (ac:=?ac) ?c (rs:=?rs) ?r ?l ?H;(case k=>kernel_rfl);(case c=>(conv=>(lhs;cbv)));(case r=>(conv=>(lhs;cbv)));(case l=>exact Nat.le_of_ble_eq_true rfl))
 (repeat' ((try conv=>whnf);first|(with_reducible first|refine wT ?_|refine wF ?_|(refine wI (fun hq=>?_) (fun hq=>?_) <;> try simp only [zA,zE,zD,zJ,zB,zI,wK,wL] at hq)|refine wA ?_|refine wB ?_|refine wC ?_|refine wD ?_|refine wE ?_)|((with_reducible refine wN ?_ ?_);focus exact needA)|(with_reducible refine wG ?_)|((refine FCall.give [] [] (cL) rfl rfl True.intro ⟨Ln.A,Ln.A,True.intro⟩ ?_);rintro _ _ ⟨rfl,rfl⟩;(refine ⟨by first|exact Nat.le_of_ble_eq_true rfl|omega,.inl rfl,?_⟩))|((refine FCall.give [1] [] (cF) rfl rfl ⟨⟨_,rfl,trivial,LnB.A⟩,True.intro⟩ ⟨Ln.A,Ln.A,True.intro⟩ ?_);rintro _ _ ⟨rfl,rfl⟩;(refine ⟨by first|exact Nat.le_of_ble_eq_true rfl|omega,.inl rfl,?_⟩))|(with_reducible refine wP ?_)))
 all_goals (try conv=>whnf)
 all_goals first
  | (exfalso;omega)
  | ((refine ⟨⟨_,[],[],Cut.nil _,Ln.sameB _ rfl,?_,rfl⟩⟩);rfl)
end Go.Proofs.YtodpjdmdmmnlpaaGreat

namespace Go.Proofs.YtodpjdmdmmnlpaaGreat
open Go.RowKit

def exL : List Ent:=[⟨1,10,3,⟨3,-1,-1,2,0,[1,2]⟩,0,60⟩,⟨2,20,6,⟨-1,3,1,2,0,[7,6]⟩,40,120⟩,⟨3,30,7,⟨5,5,0,2,4,[0]⟩,0,120⟩,⟨4,10,4,⟨4,-1,0,3,0,[2,2,6]⟩,0,120⟩]
def exS : Seen:=⟨8589934591,8589934591,1,255,2,-3,3,2,3,0,120,[4]⟩
def exFi : Films:=⟨[10,4],5⟩
def exM : List Gl:=[⟨0,1,0,0,6,3⟩,⟨1,1,0,2,8,4⟩,⟨2,5,0,4,10,6⟩,⟨0,2,0,5,7,1⟩,⟨1,7,1,0,4,16⟩]
def exEF : EnF:=⟨false,true,fun _=>false,fun _=>true⟩
theorem exL_ok : BookOk exL:=book_d (by decide +kernel)
theorem exS_ok : SeenOk exS:=seen_d (by decide +kernel)
theorem exFind : findT exL exS = [10,20]:=by decide +kernel
theorem exFi_ok : FilmsOk exFi:=films_d (by decide +kernel)
theorem exM_ok : MsgOk exFi exM:=⟨exFi_ok,by decide,fun k hk=>by
 rcases (show k = 0 ∨ k = 1 ∨ k = 2 ∨ k = 3 ∨ k = 4 by have:k < 5:=hk;omega) with rfl|rfl|rfl|rfl|rfl <;> (constructor <;> decide +kernel),by unfold Keys;decide +kernel⟩
theorem exHeld : heldT exM ≠ []:=by decide +kernel
instance : DecidableEq Rd:=fun a b=>if h:a.fr = b.fr ∧ a.to = b.to ∧ a.sg = b.sg then .isTrue (by cases a;cases b;simp_all) else .isFalse (by rintro rfl;exact h ⟨rfl,rfl,rfl⟩)
theorem exRead : readK 5 exM 0 10 = [⟨2,5,4⟩,⟨5,7,5⟩,⟨7,8,4⟩,⟨8,10,2⟩]:=by decide +kernel
theorem n1 {p:Nat → Prop} (h0:p 0):∀ k,k < 1 → p k:=fun k hk=>by
 obtain rfl:k = 0:=by omega
 exact h0
theorem n2 {p:Nat → Prop} (h0:p 0) (h1:p 1):∀ k,k < 2 → p k:=fun k hk=>by
 rcases (show k = 0 ∨ k = 1 by omega) with rfl|rfl <;> assumption
theorem n3 {p:Nat → Prop} (h0:p 0) (h1:p 1) (h2:p 2):∀ k,k < 3 → p k:=fun k hk=>by
 rcases (show k = 0 ∨ k = 1 ∨ k = 2 by omega) with rfl|rfl|rfl <;> assumption
theorem n4 {p:Nat → Prop} (h0:p 0) (h1:p 1) (h2:p 2) (h3:p 3):∀ k,k < 4 → p k:=fun k hk=>by
 rcases (show k = 0 ∨ k = 1 ∨ k = 2 ∨ k = 3 by omega) with rfl|rfl|rfl|rfl <;> assumption
theorem n5 {p:Nat → Prop} (h0:p 0) (h1:p 1) (h2:p 2) (h3:p 3) (h4:p 4):∀ k,k < 5 → p k:=fun k hk=>by
 rcases (show k = 0 ∨ k = 1 ∨ k = 2 ∨ k = 3 ∨ k = 4 by omega) with rfl|rfl|rfl|rfl|rfl <;> assumption
theorem n6 {p:Nat → Prop} (h0:p 0) (h1:p 1) (h2:p 2) (h3:p 3) (h4:p 4) (h5:p 5):∀ k,k < 6 → p k:=fun k hk=>by
 rcases (show k = 0 ∨ k = 1 ∨ k = 2 ∨ k = 3 ∨ k = 4 ∨ k = 5 by omega) with rfl|rfl|rfl|rfl|rfl|rfl <;> assumption
theorem n11 {p:Nat → Prop} (h0:p 0) (h1:p 1) (h2:p 2) (h3:p 3) (h4:p 4) (h5:p 5) (h6:p 6) (h7:p 7) (h8:p 8) (h9:p 9) (h10:p 10):∀ k,k < 11 → p k:=fun k hk=>by
 rcases (show k = 0 ∨ k = 1 ∨ k = 2 ∨ k = 3 ∨ k = 4 ∨ k = 5 ∨ k = 6 ∨ k = 7 ∨ k = 8 ∨ k = 9 ∨ k = 10 by omega) with rfl|rfl|rfl|rfl|rfl|rfl|rfl|rfl|rfl|rfl|rfl <;> assumption
theorem n12 {p:Nat → Prop} (h0:p 0) (h1:p 1) (h2:p 2) (h3:p 3) (h4:p 4) (h5:p 5) (h6:p 6) (h7:p 7) (h8:p 8) (h9:p 9) (h10:p 10) (h11:p 11):∀ k,k < 12 → p k:=fun k hk=>by
 rcases (show k = 0 ∨ k = 1 ∨ k = 2 ∨ k = 3 ∨ k = 4 ∨ k = 5 ∨ k = 6 ∨ k = 7 ∨ k = 8 ∨ k = 9 ∨ k = 10 ∨ k = 11 by omega) with rfl|rfl|rfl|rfl|rfl|rfl|rfl|rfl|rfl|rfl|rfl|rfl <;> assumption
theorem LeV.ints {l:List Int} {c:Nat → Nat → AV} {n:Nat} (hn:n = l.length) (h:∀ k,k < n → c k 0 = AI (l.getD k 0)):LeV (.sl false true n 1 c) (aInts false true l):=by
 subst hn
 exact LeV.sl (fun h=>h) (fun k hk o ho=>by obtain rfl:o = 0:=(by omega);exact LeV.of (h k hk).symm)
theorem LeV.rf {a b:AV} (h:a = b):LeV a b:=LeV.of h.symm
set_option maxHeartbeats 8000000
set_option maxRecDepth 100000
theorem span1_ok (a b:Int):ACall Tryz.prog 35 [AI a,AI b] [] (fun r h=>r = .agg 2 (ofL [AI a,AI b]) ∧ h = []):=by
 (refine fcall_of mixed Tryz.func35 rfl (by decide) (hs:={}) ?k (ac:=?ac) ?c (rs:=?rs) ?r ?l ?H;(case k=>kernel_rfl);(case c=>(conv=>(lhs;cbv)));(case r=>(conv=>(lhs;cbv)));(case l=>exact Nat.le_of_ble_eq_true rfl))
 (repeat' ((try conv=>whnf);first|(with_reducible first|refine wT ?_|refine wF ?_|(refine wI (fun hq=>?_) (fun hq=>?_) <;> try simp only [zA,zE,zD,zJ,zB,zI,wK,wL] at hq)|refine wA ?_|refine wB ?_|refine wC ?_|refine wD ?_|refine wE ?_)|((with_reducible refine wN ?_ ?_);focus exact needA)|(with_reducible refine wG ?_)|(with_reducible refine wP ?_)))
 all_goals (try conv=>whnf)
 all_goals ((refine ⟨⟨_,[],[],Cut.nil _,Ln.sameB _ rfl,?_,rfl⟩⟩);rfl)
theorem ex1_ok : ACall Tryz.prog 17 [] [] (fun r h=>r = .tup 2 (ofL [aEnts exEF exL,aSeen false true exS]) ∧ h = []):=by
 (refine fcall_of mixed Tryz.func17 rfl (by decide) (hs:={}) ?k (ac:=?ac) ?c (rs:=?rs) ?r ?l ?H;(case k=>kernel_rfl);(case c=>(conv=>(lhs;cbv)));(case r=>(conv=>(lhs;cbv)));(case l=>exact Nat.le_of_ble_eq_true rfl))
 (repeat' ((try conv=>whnf);first|(with_reducible first|refine wT ?_|refine wF ?_|(refine wI (fun hq=>?_) (fun hq=>?_) <;> try simp only [zA,zE,zD,zJ,zB,zI,wK,wL] at hq)|refine wA ?_|refine wB ?_|refine wC ?_|refine wD ?_|refine wE ?_)|((with_reducible refine wN ?_ ?_);focus exact needA)|(with_reducible refine wG ?_)|(refine FCall.pure ((span1_ok _ _)) ⟨Ln.sameB _ rfl,Ln.sameB _ rfl,True.intro⟩ rfl ?_)|(with_reducible refine wP ?_)))
 all_goals (try conv=>whnf)
 refine ⟨⟨.tup 2 (ofL [aEnts exEF exL,aSeen false true exS]),[],[],Cut.nil _,Ln.tupN ⟨⟨True.intro,Ln.le _ _ True.intro (LeV.sl (fun h=>h) ?en)⟩,Ln.le _ _ ?pu (LeV.agg ?se)⟩,rfl,rfl⟩⟩
 case en=>exact n4 (n11 (LeV.rf rfl) (LeV.rf rfl) (LeV.rf rfl) (LeV.rf rfl) (LeV.rf rfl) (LeV.rf rfl) (LeV.rf rfl) (LeV.rf rfl) (LeV.ints rfl (n2 rfl rfl)) (LeV.rf rfl) (LeV.rf rfl)) (n11 (LeV.rf rfl) (LeV.rf rfl) (LeV.rf rfl) (LeV.rf rfl) (LeV.rf rfl) (LeV.rf rfl) (LeV.rf rfl) (LeV.rf rfl) (LeV.ints rfl (n2 rfl rfl)) (LeV.rf rfl) (LeV.rf rfl)) (n11 (LeV.rf rfl) (LeV.rf rfl) (LeV.rf rfl) (LeV.rf rfl) (LeV.rf rfl) (LeV.rf rfl) (LeV.rf rfl) (LeV.rf rfl) (LeV.ints rfl (n1 rfl)) (LeV.rf rfl) (LeV.rf rfl)) (n11 (LeV.rf rfl) (LeV.rf rfl) (LeV.rf rfl) (LeV.rf rfl) (LeV.rf rfl) (LeV.rf rfl) (LeV.rf rfl) (LeV.rf rfl) (LeV.ints rfl (n3 rfl rfl rfl)) (LeV.rf rfl) (LeV.rf rfl))
 case se=>exact n12 (LeV.rf rfl) (LeV.rf rfl) (LeV.rf rfl) (LeV.rf rfl) (LeV.rf rfl) (LeV.rf rfl) (LeV.rf rfl) (LeV.rf rfl) (LeV.rf rfl) (LeV.rf rfl) (LeV.rf rfl) (LeV.ints rfl (n1 rfl))
 case pu=>exact n12 trivial trivial trivial trivial trivial trivial trivial trivial trivial trivial trivial trivial
theorem ex2_ok : ACall Tryz.prog 18 [] [] (fun r h=>r = .tup 2 (ofL [aFilms false true exFi,aGls false true exM]) ∧ h = []):=by
 (refine fcall_of mixed Tryz.func18 rfl (by decide) (hs:={}) ?k (ac:=?ac) ?c (rs:=?rs) ?r ?l ?H;(case k=>kernel_rfl);(case c=>(conv=>(lhs;cbv)));(case r=>(conv=>(lhs;cbv)));(case l=>exact Nat.le_of_ble_eq_true rfl))
 (repeat' ((try conv=>whnf);first|(with_reducible first|refine wT ?_|refine wF ?_|(refine wI (fun hq=>?_) (fun hq=>?_) <;> try simp only [zA,zE,zD,zJ,zB,zI,wK,wL] at hq)|refine wA ?_|refine wB ?_|refine wC ?_|refine wD ?_|refine wE ?_)|((with_reducible refine wN ?_ ?_);focus exact needA)|(with_reducible refine wG ?_)|(with_reducible refine wP ?_)))
 all_goals (try conv=>whnf)
 refine ⟨⟨.tup 2 (ofL [aFilms false true exFi,aGls false true exM]),[],[],Cut.nil _,Ln.tupN ⟨⟨True.intro,Ln.aggN ⟨⟨True.intro,Ln.le _ _ True.intro (LeV.ints rfl (n2 rfl rfl))⟩,Ln.A⟩⟩,Ln.sl _ _ _ _ _ _ _ (fun h=>h) ?gl⟩,rfl,rfl⟩⟩
 case gl=>exact n5 (n6 rfl rfl rfl rfl rfl rfl) (n6 rfl rfl rfl rfl rfl rfl) (n6 rfl rfl rfl rfl rfl rfl) (n6 rfl rfl rfl rfl rfl rfl) (n6 rfl rfl rfl rfl rfl rfl)
end Go.Proofs.YtodpjdmdmmnlpaaGreat

namespace Go.Proofs.YtodpjdmdmmnlpaaGreat
open Go.RowKit

set_option maxHeartbeats 8000000
set_option maxRecDepth 100000
theorem read_ok : ACall Tryz.prog 6 [] [] (fun r h=>r = .bool true ∧ h = []):=by
 have cF:=pFind_ok exEF exL exL_ok false true exS exS_ok
 have cR:=gread_ok false true false true exFi exM exM_ok exHeld 0 (by decide) 10 rfl
 unfold aFind at cF
 rw [exFind] at cF
 rw [show exFi.n.toNat = 5 from rfl,exRead] at cR
 (refine fcall_of mixed Tryz.func6 rfl (by decide) (hs:={}) ?k (ac:=?ac) ?c (rs:=?rs) ?r ?l ?H;(case k=>kernel_rfl);(case c=>(conv=>(lhs;cbv)));(case r=>(conv=>(lhs;cbv)));(case l=>exact Nat.le_of_ble_eq_true rfl))
 (repeat' ((try conv=>whnf);first|(with_reducible first|refine wT ?_|refine wF ?_|(refine wI (fun hq=>?_) (fun hq=>?_) <;> try simp only [zA,zE,zD,zJ,zB,zI,wK,wL] at hq)|refine wA ?_|refine wB ?_|refine wC ?_|refine wD ?_|refine wE ?_)|((with_reducible refine wN ?_ ?_);focus exact needA)|(with_reducible refine wG ?_)|(refine FCall.pure ex1_ok True.intro rfl ?_)|(refine FCall.pure ex2_ok True.intro rfl ?_)|(refine FCall.pure (cF) ⟨Ln.sameB _ rfl,Ln.sameB _ rfl,True.intro⟩ rfl ?_)|(refine FCall.pure (cR) ⟨Ln.sameB _ rfl,Ln.sameB _ rfl,Ln.sameB _ rfl,True.intro⟩ rfl ?_)|(refine FIdx.nat (by decide) ?_)|(with_reducible refine wP ?_)))
 all_goals (try conv=>whnf)
 all_goals ((refine ⟨⟨_,[],[],Cut.nil _,Ln.sameB _ rfl,?_,rfl⟩⟩);rfl)
end Go.Proofs.YtodpjdmdmmnlpaaGreat

namespace Go.Proofs.YtodpjdmdmmnlpaaGreat
open Go.RowKit

theorem eq6_no {a b c d e f a' b' c' d' e' f':Int} (h:¬ (a = a' ∧ b = b')):(decide (a = a') && (decide (b = b') && (decide (c = c') && (decide (d = d') && (decide (e = e') && (decide (f = f') && true)))))) = false:=by
 by_cases h1:a = a'
 ·rw [decide_eq_false (p:=b = b') (fun e=>h ⟨h1,e⟩),Bool.false_and,Bool.and_false]
 ·rw [decide_eq_false h1,Bool.false_and]
set_option maxHeartbeats 8000000
set_option maxRecDepth 100000
theorem within2_ok (n lo hi:Int):ACall Tryz.prog 43 [AI n,AI lo,AI hi] [] (fun r h=>r = .bool (inB n lo hi) ∧ h = []):=by
 (refine fcall_of mixed Tryz.func43 rfl (by decide) (hs:={}) ?k (ac:=?ac) ?c (rs:=?rs) ?r ?l ?H;(case k=>kernel_rfl);(case c=>(conv=>(lhs;cbv)));(case r=>(conv=>(lhs;cbv)));(case l=>exact Nat.le_of_ble_eq_true rfl))
 (repeat' ((try conv=>whnf);first|(with_reducible first|refine wT ?_|refine wF ?_|(refine wI (fun hq=>?_) (fun hq=>?_) <;> try simp only [zA,zE,zD,zJ,zB,zI,wK,wL] at hq)|refine wA ?_|refine wB ?_|refine wC ?_|refine wD ?_|refine wE ?_)|((with_reducible refine wN ?_ ?_);focus exact needA)|(with_reducible refine wG ?_)|(with_reducible refine wP ?_)))
 all_goals ((refine ⟨⟨_,[],[],Cut.nil _,Ln.sameB _ rfl,?_,rfl⟩⟩);unfold inB;(exact avB))
theorem rfilms_ok (z e:Bool) (f:Films) (h:FilmsOk f):ACall Tryz.prog 24 [aFilms z e f] [] (fun r h=>r = .bool true ∧ h = []):=by
 have h1:=h.l
 have h2:=h.n
 (refine fcall_of mixed Tryz.func24 rfl (by decide) (hs:={}) ?k (ac:=?ac) ?c (rs:=?rs) ?r ?l ?H;(case k=>kernel_rfl);(case c=>(conv=>(lhs;cbv)));(case r=>(conv=>(lhs;cbv)));(case l=>exact Nat.le_of_ble_eq_true rfl))
 (repeat' ((try conv=>whnf);first|(with_reducible first|refine wT ?_|refine wF ?_|(refine wI (fun hq=>?_) (fun hq=>?_) <;> try simp only [zA,zE,zD,zJ,zB,zI,wK,wL] at hq)|refine wA ?_|refine wB ?_|refine wC ?_|refine wD ?_|refine wE ?_)|((with_reducible refine wN ?_ ?_);focus exact needA)|(with_reducible refine wG ?_)|(with_reducible refine wP ?_)))
 all_goals (try conv=>whnf)
 refine FLoop.of (ACalls.mono _) (X:=Nat) (fun i=>[(1,.ptr 0 0),(3,AI i)]) (fun _=>[.box 2 (cFilms z e f)]) (fun i=>i ≤ f.fr.length) (fun i=>f.fr.length - i) 0 ⟨Nat.zero_le _,[0],Cut.A,allA⟩ ?_
 intro i hi
 by_cases hlt:i < f.fr.length
 ·have h3:=h.fr i hlt
  (repeat' ((try conv=>whnf);first|(with_reducible first|refine wT ?_|refine wF ?_|(refine wI (fun hq=>?_) (fun hq=>?_) <;> try simp only [zA,zE,zD,zJ,zB,zI,wK,wL] at hq)|refine wA ?_|refine wB ?_|refine wC ?_|refine wD ?_|refine wE ?_)|((with_reducible refine wN ?_ ?_);focus exact needA)|(with_reducible refine wG ?_)|(refine FCall.pure ((within2_ok _ _ _)) ⟨Ln.sameB _ rfl,Ln.sameB _ rfl,Ln.sameB _ rfl,True.intro⟩ rfl ?_)|(with_reducible refine wP ?_)))
  all_goals (try conv=>whnf)
  all_goals first
   | (exfalso;omega)
   | (exact ⟨⟨(i + 1),hlt,by show _ < _;omega,[0],Cut.A,allA⟩⟩)
 ·(repeat' ((try conv=>whnf);first|(with_reducible first|refine wT ?_|refine wF ?_|(refine wI (fun hq=>?_) (fun hq=>?_) <;> try simp only [zA,zE,zD,zJ,zB,zI,wK,wL] at hq)|refine wA ?_|refine wB ?_|refine wC ?_|refine wD ?_|refine wE ?_)|((with_reducible refine wN ?_ ?_);focus exact needA)|(with_reducible refine wG ?_)|(refine FCall.pure ((within2_ok _ _ _)) ⟨Ln.sameB _ rfl,Ln.sameB _ rfl,Ln.sameB _ rfl,True.intro⟩ rfl ?_)|(with_reducible refine wP ?_)))
  all_goals (try conv=>whnf)
  all_goals first
   | (exfalso;omega)
   | ((refine ⟨⟨_,[],[],Cut.nil _,Ln.sameB _ rfl,?_,rfl⟩⟩);exact bool_eq (decide_eq_true (by omega)))
theorem rare_ok (z e z2 e2:Bool) (f:Films) (M:List Gl) (h:MsgOk f M):ACall Tryz.prog 25 [aFilms z e f,aGls z2 e2 M] [] (fun r h=>r = .bool true ∧ h = []):=by
 have h1:=h.ff.l
 have h2:=h.ff.n
 have h3:=h.n
 have hp:=pow_10 h2.2
 (refine fcall_of mixed Tryz.func25 rfl (by decide) (hs:={}) ?k (ac:=?ac) ?c (rs:=?rs) ?r ?l ?H;(case k=>kernel_rfl);(case c=>(conv=>(lhs;cbv)));(case r=>(conv=>(lhs;cbv)));(case l=>exact Nat.le_of_ble_eq_true rfl))
 (repeat' ((try conv=>whnf);first|(with_reducible first|refine wT ?_|refine wF ?_|(refine wI (fun hq=>?_) (fun hq=>?_) <;> try simp only [zA,zE,zD,zJ,zB,zI,wK,wL] at hq)|refine wA ?_|refine wB ?_|refine wC ?_|refine wD ?_|refine wE ?_)|((with_reducible refine wN ?_ ?_);focus exact needA)|(with_reducible refine wG ?_)|(with_reducible refine wP ?_)))
 all_goals (try conv=>whnf)
 refine FLoop.of (ACalls.mono _) (X:=Nat) (fun i=>[(1,aGls z2 e2 M),(2,.ptr 0 0),(5,AI i)]) (fun _=>[.box 2 (cFilms z e f)]) (fun i=>i ≤ M.length) (fun i=>M.length - i) 0 ⟨Nat.zero_le _,[0],Cut.A,allA⟩ ?_
 intro i hi
 by_cases hlt:i < M.length
 ·have t:=h.t i hlt
  have t1:=t.au
  have t2:=t.st
  have t3:=t.fi
  have t4:=t.fr
  have t5:=t.to
  have t6:=t.sg
  (repeat' ((try conv=>whnf);first|(with_reducible first|refine wT ?_|refine wF ?_|(refine wI (fun hq=>?_) (fun hq=>?_) <;> try simp only [zA,zE,zD,zJ,zB,zI,wK,wL] at hq)|refine wA ?_|refine wB ?_|refine wC ?_|refine wD ?_|refine wE ?_)|((with_reducible refine wN ?_ ?_);focus exact needA)|(with_reducible refine wG ?_)|(refine FCall.pure ((within2_ok _ _ _)) ⟨Ln.sameB _ rfl,Ln.sameB _ rfl,Ln.sameB _ rfl,True.intro⟩ rfl ?_)|(refine Fits.inU (by omega) ?_)|(refine FBit.shl1I rfl (by omega) ?_)|(with_reducible refine wP ?_)))
  all_goals (try conv=>whnf)
  all_goals first
   | (exfalso;omega)
   | (exact ⟨⟨(i + 1),hlt,by show _ < _;omega,[0],Cut.A,allA⟩⟩)
 ·(repeat' ((try conv=>whnf);first|(with_reducible first|refine wT ?_|refine wF ?_|(refine wI (fun hq=>?_) (fun hq=>?_) <;> try simp only [zA,zE,zD,zJ,zB,zI,wK,wL] at hq)|refine wA ?_|refine wB ?_|refine wC ?_|refine wD ?_|refine wE ?_)|((with_reducible refine wN ?_ ?_);focus exact needA)|(with_reducible refine wG ?_)|(with_reducible refine wP ?_)))
  all_goals (try conv=>whnf)
  all_goals ((refine ⟨⟨_,[],[],Cut.nil _,Ln.sameB _ rfl,?_,rfl⟩⟩);exact bool_eq (decide_eq_true (by omega)))
theorem rclash_ok (z e:Bool) (M:List Gl) (hl:M.length ≤ 1000) (hk:Keys M):ACall Tryz.prog 26 [aGls z e M] [] (fun r h=>r = .bool false ∧ h = []):=by
 (refine fcall_of mixed Tryz.func26 rfl (by decide) (hs:={}) ?k (ac:=?ac) ?c (rs:=?rs) ?r ?l ?H;(case k=>kernel_rfl);(case c=>(conv=>(lhs;cbv)));(case r=>(conv=>(lhs;cbv)));(case l=>exact Nat.le_of_ble_eq_true rfl))
 (repeat' ((try conv=>whnf);first|(with_reducible first|refine wT ?_|refine wF ?_|(refine wI (fun hq=>?_) (fun hq=>?_) <;> try simp only [zA,zE,zD,zJ,zB,zI,wK,wL] at hq)|refine wA ?_|refine wB ?_|refine wC ?_|refine wD ?_|refine wE ?_)|((with_reducible refine wN ?_ ?_);focus exact needA)|(with_reducible refine wG ?_)|(with_reducible refine wP ?_)))
 all_goals (try conv=>whnf)
 refine FLoop.of (ACalls.mono _) (X:=Nat) (fun i=>[(0,aGls z e M),(3,AI i)]) (fun _=>[]) (fun i=>i ≤ M.length) (fun i=>M.length - i) 0 ⟨Nat.zero_le _,[],Cut.A,allA⟩ ?_
 intro i hi
 by_cases hlt:i < M.length
 ·(repeat' ((try conv=>whnf);first|(with_reducible first|refine wT ?_|refine wF ?_|(refine wI (fun hq=>?_) (fun hq=>?_) <;> try simp only [zA,zE,zD,zJ,zB,zI,wK,wL] at hq)|refine wA ?_|refine wB ?_|refine wC ?_|refine wD ?_|refine wE ?_)|((with_reducible refine wN ?_ ?_);focus exact needA)|(with_reducible refine wG ?_)|(with_reducible refine wP ?_)))
  all_goals (try conv=>whnf)
  refine FLoop.of (ACalls.mono _) (X:=Nat) (fun k=>[(0,aGls z e M),(3,AI i),(4,AI k)]) (fun _=>[]) (fun k=>k ≤ i) (fun k=>i - k) 0 ⟨Nat.zero_le _,[],Cut.A,allA⟩ ?_
  intro k hk2
  by_cases hlk:k < i
  ·have hne:=keys_at hk hlt (show k < M.length by omega) (by omega)
   have h6:=eq6_no (c:=(M.getD i gl0).fi) (d:=(M.getD i gl0).fr) (e:=(M.getD i gl0).to) (f:=(M.getD i gl0).sg) (c':=(M.getD k gl0).fi) (d':=(M.getD k gl0).fr) (e':=(M.getD k gl0).to) (f':=(M.getD k gl0).sg) hne
   by_cases ha:(M.getD i gl0).au = (M.getD k gl0).au
   ·have hst:¬ (M.getD i gl0).st = (M.getD k gl0).st:=fun e=>hne ⟨ha,e⟩
    (repeat' ((try conv=>whnf);first|(with_reducible first|refine wT ?_|refine wF ?_|(refine wI (fun hq=>?_) (fun hq=>?_) <;> try simp only [zA,zE,zD,zJ,zB,zI,wK,wL] at hq)|refine wA ?_|refine wB ?_|refine wC ?_|refine wD ?_|refine wE ?_)|((with_reducible refine wN ?_ ?_);focus exact needA)|(with_reducible refine wG ?_)|(with_reducible refine wP ?_)))
    all_goals (try conv=>whnf)
    (exact ⟨⟨(k + 1),hlk,by show _ < _;omega,[],Cut.A,allA⟩⟩)
   ·(repeat' ((try conv=>whnf);first|(with_reducible first|refine wT ?_|refine wF ?_|(refine wI (fun hq=>?_) (fun hq=>?_) <;> try simp only [zA,zE,zD,zJ,zB,zI,wK,wL] at hq)|refine wA ?_|refine wB ?_|refine wC ?_|refine wD ?_|refine wE ?_)|((with_reducible refine wN ?_ ?_);focus exact needA)|(with_reducible refine wG ?_)|(with_reducible refine wP ?_)))
    all_goals (try conv=>whnf)
    (exact ⟨⟨(k + 1),hlk,by show _ < _;omega,[],Cut.A,allA⟩⟩)
  ·obtain rfl:k = i:=by omega
   (repeat' ((try conv=>whnf);first|(with_reducible first|refine wT ?_|refine wF ?_|(refine wI (fun hq=>?_) (fun hq=>?_) <;> try simp only [zA,zE,zD,zJ,zB,zI,wK,wL] at hq)|refine wA ?_|refine wB ?_|refine wC ?_|refine wD ?_|refine wE ?_)|((with_reducible refine wN ?_ ?_);focus exact needA)|(with_reducible refine wG ?_)|(with_reducible refine wP ?_)))
   all_goals (try conv=>whnf)
   (exact ⟨⟨(k + 1),hlt,by show _ < _;omega,[],Cut.A,allA⟩⟩)
 ·(repeat' ((try conv=>whnf);first|(with_reducible first|refine wT ?_|refine wF ?_|(refine wI (fun hq=>?_) (fun hq=>?_) <;> try simp only [zA,zE,zD,zJ,zB,zI,wK,wL] at hq)|refine wA ?_|refine wB ?_|refine wC ?_|refine wD ?_|refine wE ?_)|((with_reducible refine wN ?_ ?_);focus exact needA)|(with_reducible refine wG ?_)|(with_reducible refine wP ?_)))
  all_goals (try conv=>whnf)
  (refine ⟨⟨_,[],[],Cut.nil _,Ln.sameB _ rfl,?_,rfl⟩⟩)
  rfl
theorem rCheck_ok (z e z2 e2:Bool) (f:Films) (M:List Gl) (h:MsgOk f M):ACall Tryz.prog 10 [aFilms z e f,aGls z2 e2 M] [] (fun r h=>r = AI 0 ∧ h = []):=by
 have h3:=h.n
 have c1:=rfilms_ok z e f h.ff
 have c2:=rare_ok z e z2 e2 f M h
 have c3:=rclash_ok z2 e2 M (by omega) h.k
 (refine fcall_of mixed Tryz.func10 rfl (by decide) (hs:={}) ?k (ac:=?ac) ?c (rs:=?rs) ?r ?l ?H;(case k=>kernel_rfl);(case c=>(conv=>(lhs;cbv)));(case r=>(conv=>(lhs;cbv)));(case l=>exact Nat.le_of_ble_eq_true rfl))
 (repeat' ((try conv=>whnf);first|(with_reducible first|refine wT ?_|refine wF ?_|(refine wI (fun hq=>?_) (fun hq=>?_) <;> try simp only [zA,zE,zD,zJ,zB,zI,wK,wL] at hq)|refine wA ?_|refine wB ?_|refine wC ?_|refine wD ?_|refine wE ?_)|((with_reducible refine wN ?_ ?_);focus exact needA)|(with_reducible refine wG ?_)|(refine FCall.pure (c1) ⟨Ln.sameB _ rfl,True.intro⟩ rfl ?_)|(refine FCall.pure (c2) ⟨Ln.sameB _ rfl,Ln.sameB _ rfl,True.intro⟩ rfl ?_)|(refine FCall.pure (c3) ⟨Ln.sameB _ rfl,True.intro⟩ rfl ?_)|(with_reducible refine wP ?_)))
 all_goals (try conv=>whnf)
 (refine ⟨⟨_,[],[],Cut.nil _,Ln.sameB _ rfl,?_,rfl⟩⟩)
 rfl
theorem rSize_ok (x:Nat) (hx:x < 1024):ACall Tryz.prog 13 [AI x] [] (fun r h=>r = AI (popT x:Nat) ∧ h = []):=by
 have hb:∀ k,popK x k ≤ k:=fun k=>by
  induction k with
  | zero=>exact Nat.le_refl _
  | succ k ih=>simp only [popK];split <;> omega
 (refine fcall_of mixed Tryz.func13 rfl (by decide) (hs:={}) ?k (ac:=?ac) ?c (rs:=?rs) ?r ?l ?H;(case k=>kernel_rfl);(case c=>(conv=>(lhs;cbv)));(case r=>(conv=>(lhs;cbv)));(case l=>exact Nat.le_of_ble_eq_true rfl))
 (repeat' ((try conv=>whnf);first|(with_reducible first|refine wT ?_|refine wF ?_|(refine wI (fun hq=>?_) (fun hq=>?_) <;> try simp only [zA,zE,zD,zJ,zB,zI,wK,wL] at hq)|refine wA ?_|refine wB ?_|refine wC ?_|refine wD ?_|refine wE ?_)|((with_reducible refine wN ?_ ?_);focus exact needA)|(with_reducible refine wG ?_)|(with_reducible refine wP ?_)))
 all_goals (try conv=>whnf)
 refine FLoop.of (ACalls.mono _) (X:=Nat) (fun i=>[(0,AI x),(3,AI (popK x i:Nat)),(4,AI i)]) (fun _=>[]) (fun i=>i ≤ 10) (fun i=>10 - i) 0 ⟨Nat.zero_le _,[],Cut.A,allA⟩ ?_
 intro i hi
 have hle:=hb i
 by_cases hlt:i < 10
 ·have hst:popK x (i + 1) = popK x i + if x.testBit i then 1 else 0:=rfl
  cases hq:x.testBit i
  ·rw [hq,if_neg (by decide)] at hst
   (repeat' ((try conv=>whnf);first|(with_reducible first|refine wT ?_|refine wF ?_|(refine wI (fun hq=>?_) (fun hq=>?_) <;> try simp only [zA,zE,zD,zJ,zB,zI,wK,wL] at hq)|refine wA ?_|refine wB ?_|refine wC ?_|refine wD ?_|refine wE ?_)|((with_reducible refine wN ?_ ?_);focus exact needA)|(with_reducible first|refine FBit.hasT rfl (by assumption) ?_|refine FBit.hasF rfl (by assumption) ?_|refine FBit.shrN rfl (by omega) ?_|refine FBit.half rfl ?_|refine FBit.shl1 rfl (by omega) ?_|refine Fits.inU (by omega) ?_|refine FBit.shrNI rfl (by omega) ?_|refine FBit.shrIN rfl (by omega) (by omega) ?_|refine FBit.shrI rfl (by omega) (by omega) ?_|refine FBit.shl1I rfl (by omega) ?_)|(with_reducible refine FBit.has rfl (fun hq=>?_) (fun hq=>?_))|(with_reducible first|refine FBit.and1 rfl ?_|refine FBit.andN rfl (by omega) (by omega) ?_|refine FBit.orN rfl (by omega) (by omega) ?_|refine FBit.andNotN rfl (by omega) (by omega) ?_)|(with_reducible refine wG ?_)|(with_reducible refine wP ?_)))
   all_goals (try conv=>whnf)
   (exact ⟨⟨(i + 1),hlt,by show _ < _;omega,[],Cut.A,allA⟩⟩)
  ·rw [hq,if_pos rfl] at hst
   (repeat' ((try conv=>whnf);first|(with_reducible first|refine wT ?_|refine wF ?_|(refine wI (fun hq=>?_) (fun hq=>?_) <;> try simp only [zA,zE,zD,zJ,zB,zI,wK,wL] at hq)|refine wA ?_|refine wB ?_|refine wC ?_|refine wD ?_|refine wE ?_)|((with_reducible refine wN ?_ ?_);focus exact needA)|(with_reducible first|refine FBit.hasT rfl (by assumption) ?_|refine FBit.hasF rfl (by assumption) ?_|refine FBit.shrN rfl (by omega) ?_|refine FBit.half rfl ?_|refine FBit.shl1 rfl (by omega) ?_|refine Fits.inU (by omega) ?_|refine FBit.shrNI rfl (by omega) ?_|refine FBit.shrIN rfl (by omega) (by omega) ?_|refine FBit.shrI rfl (by omega) (by omega) ?_|refine FBit.shl1I rfl (by omega) ?_)|(with_reducible refine FBit.has rfl (fun hq=>?_) (fun hq=>?_))|(with_reducible first|refine FBit.and1 rfl ?_|refine FBit.andN rfl (by omega) (by omega) ?_|refine FBit.orN rfl (by omega) (by omega) ?_|refine FBit.andNotN rfl (by omega) (by omega) ?_)|(with_reducible refine wG ?_)|(with_reducible refine wP ?_)))
   all_goals (try conv=>whnf)
   (exact ⟨⟨(i + 1),hlt,by show _ < _;omega,[],Cut.A,allA⟩⟩)
 ·obtain rfl:i = 10:=by omega
  (repeat' ((try conv=>whnf);first|(with_reducible first|refine wT ?_|refine wF ?_|(refine wI (fun hq=>?_) (fun hq=>?_) <;> try simp only [zA,zE,zD,zJ,zB,zI,wK,wL] at hq)|refine wA ?_|refine wB ?_|refine wC ?_|refine wD ?_|refine wE ?_)|((with_reducible refine wN ?_ ?_);focus exact needA)|(with_reducible first|refine FBit.hasT rfl (by assumption) ?_|refine FBit.hasF rfl (by assumption) ?_|refine FBit.shrN rfl (by omega) ?_|refine FBit.half rfl ?_|refine FBit.shl1 rfl (by omega) ?_|refine Fits.inU (by omega) ?_|refine FBit.shrNI rfl (by omega) ?_|refine FBit.shrIN rfl (by omega) (by omega) ?_|refine FBit.shrI rfl (by omega) (by omega) ?_|refine FBit.shl1I rfl (by omega) ?_)|(with_reducible refine FBit.has rfl (fun hq=>?_) (fun hq=>?_))|(with_reducible first|refine FBit.and1 rfl ?_|refine FBit.andN rfl (by omega) (by omega) ?_|refine FBit.orN rfl (by omega) (by omega) ?_|refine FBit.andNotN rfl (by omega) (by omega) ?_)|(with_reducible refine wG ?_)|(with_reducible refine wP ?_)))
  all_goals (try conv=>whnf)
  (refine ⟨⟨_,[],[],Cut.nil _,Ln.sameB _ rfl,?_,rfl⟩⟩)
  rfl
end Go.Proofs.YtodpjdmdmmnlpaaGreat

namespace Go.Proofs.YtodpjdmdmmnlpaaGreat
open Go.RowKit

def longB (l:List Ent):Bool:=!(l.all fun x=>decide (x.fm.mv.length ≤ 20)) || decide (60 < (l.length:Int))
def farB (l:List Ent):Bool:=longB l || (bookB l && decide (12 < (l.length:Int)))
theorem near_long {l:List Ent} (h:longB l = false):l.length ≤ 60 ∧ ∀ i,i < l.length → (l.getD i en0).fm.mv.length ≤ 20:=by
 unfold longB at h
 simp only [Bool.or_eq_false_iff,Bool.not_eq_false',decide_eq_false_iff_not] at h
 exact ⟨by omega,fun i hi=>by have:=all_getD en0 h.1 hi;simpa using this⟩
theorem nearB_of {l:List Ent} (h:longB l = false):NearB l:=⟨by have:=(near_long h).1;omega,fun i hi=>by have:=(near_long h).2 i hi;omega⟩
theorem rany_no {p:Nat → Bool} {n:Nat} (h:∀ k,k < n → p k = false):(List.range n).any p = false:=by
 rw [List.any_eq_false];intro k hk;rw [h k (List.mem_range.1 hk)];decide
theorem rany_yes {p:Nat → Bool} {n k:Nat} (hk:k < n) (h:p k = true):(List.range n).any p = true:=List.any_eq_true.2 ⟨k,List.mem_range.2 hk,h⟩
set_option maxHeartbeats 8000000
set_option maxRecDepth 100000
theorem isBook_ok (f:EnF) (l:List Ent) (hn:NearB l):ACall Tryz.prog 15 [aEnts f l] [] (fun r h=>r = .bool (bookB l) ∧ h = []):=by
 have n1:=hn.1
 (refine fcall_of mixed Tryz.func15 rfl (by decide) (hs:={}) ?k (ac:=?ac) ?c (rs:=?rs) ?r ?l ?H;(case k=>kernel_rfl);(case c=>(conv=>(lhs;cbv)));(case r=>(conv=>(lhs;cbv)));(case l=>exact Nat.le_of_ble_eq_true rfl))
 (repeat' ((try conv=>whnf);first|(with_reducible first|refine wT ?_|refine wF ?_|(refine wI (fun hq=>?_) (fun hq=>?_) <;> try simp only [zA,zE,zD,zJ,zB,zI,wK,wL] at hq)|refine wA ?_|refine wB ?_|refine wC ?_|refine wD ?_|refine wE ?_)|((with_reducible refine wN ?_ ?_);focus exact needA)|(with_reducible refine wG ?_)|(with_reducible refine wP ?_)))
 all_goals (try conv=>whnf)
 refine FLoop.of (ACalls.mono _) (X:=Nat) (fun i=>[(0,aEnts f l),(3,AI i)]) (fun _=>[]) (fun i=>i ≤ l.length ∧ l.all entB = (l.drop i).all entB) (fun i=>l.length - i) 0 ⟨⟨Nat.zero_le _,rfl⟩,[],Cut.A,allA⟩ ?_
 rintro i ⟨hi,hL⟩
 by_cases hlt:i < l.length
 ·have cE:=isEntry_ok (f.fz i) (f.fe i) (l.getD i en0) (hn.2 i hlt)
  cases hb:entB (l.getD i en0)
  ·rw [hb] at cE
   (repeat' ((try conv=>whnf);first|(with_reducible first|refine wT ?_|refine wF ?_|(refine wI (fun hq=>?_) (fun hq=>?_) <;> try simp only [zA,zE,zD,zJ,zB,zI,wK,wL] at hq)|refine wA ?_|refine wB ?_|refine wC ?_|refine wD ?_|refine wE ?_)|((with_reducible refine wN ?_ ?_);focus exact needA)|(with_reducible refine wG ?_)|(refine FCall.pure (cE) ⟨Ln.sameB _ rfl,True.intro⟩ rfl ?_)|(with_reducible refine wP ?_)))
   all_goals (try conv=>whnf)
   (refine ⟨⟨_,[],[],Cut.nil _,Ln.sameB _ rfl,?_,rfl⟩⟩)
   unfold bookB
   rw [all_no en0 hlt hL hb];rfl
  ·rw [hb] at cE
   (repeat' ((try conv=>whnf);first|(with_reducible first|refine wT ?_|refine wF ?_|(refine wI (fun hq=>?_) (fun hq=>?_) <;> try simp only [zA,zE,zD,zJ,zB,zI,wK,wL] at hq)|refine wA ?_|refine wB ?_|refine wC ?_|refine wD ?_|refine wE ?_)|((with_reducible refine wN ?_ ?_);focus exact needA)|(with_reducible refine wG ?_)|(refine FCall.pure (cE) ⟨Ln.sameB _ rfl,True.intro⟩ rfl ?_)|(with_reducible refine wP ?_)))
   all_goals (try conv=>whnf)
   (exact ⟨⟨(i + 1),⟨hlt,all_step en0 hlt hL hb⟩,by show _ < _;omega,[],Cut.A,allA⟩⟩)
 ·unfold bookB
  rw [all_end (by omega) hL]
  (repeat' ((try conv=>whnf);first|(with_reducible first|refine wT ?_|refine wF ?_|(refine wI (fun hq=>?_) (fun hq=>?_) <;> try simp only [zA,zE,zD,zJ,zB,zI,wK,wL] at hq)|refine wA ?_|refine wB ?_|refine wC ?_|refine wD ?_|refine wE ?_)|((with_reducible refine wN ?_ ?_);focus exact needA)|(with_reducible refine wG ?_)|(with_reducible refine wP ?_)))
  all_goals (try conv=>whnf)
  all_goals ((refine ⟨⟨_,[],[],Cut.nil _,Ln.sameB _ rfl,?_,rfl⟩⟩);exact bool_eq (by simp only [Bool.true_and,decide_eq_decide];omega))
theorem clash_ok (f:EnF) (l:List Ent) (hn:l.length ≤ 1000) (hf:∀ i,i < l.length → FormOk (l.getD i en0).fm):ACall Tryz.prog 16 [aEnts f l] [] (fun r h=>r = .bool (clashB l) ∧ h = []):=by
 (refine fcall_of mixed Tryz.func16 rfl (by decide) (hs:={}) ?k (ac:=?ac) ?c (rs:=?rs) ?r ?l ?H;(case k=>kernel_rfl);(case c=>(conv=>(lhs;cbv)));(case r=>(conv=>(lhs;cbv)));(case l=>exact Nat.le_of_ble_eq_true rfl))
 (repeat' ((try conv=>whnf);first|(with_reducible first|refine wT ?_|refine wF ?_|(refine wI (fun hq=>?_) (fun hq=>?_) <;> try simp only [zA,zE,zD,zJ,zB,zI,wK,wL] at hq)|refine wA ?_|refine wB ?_|refine wC ?_|refine wD ?_|refine wE ?_)|((with_reducible refine wN ?_ ?_);focus exact needA)|(with_reducible refine wG ?_)|(with_reducible refine wP ?_)))
 all_goals (try conv=>whnf)
 refine FLoop.of (ACalls.mono _) (X:=Nat) (fun i=>[(0,aEnts f l),(3,AI i)]) (fun _=>[]) (fun i=>i ≤ l.length ∧ ∀ k,k < i → clashAt l k = false) (fun i=>l.length - i) 0 ⟨⟨Nat.zero_le _,below_zero⟩,[],Cut.A,allA⟩ ?_
 rintro i ⟨hi,hL⟩
 by_cases hlt:i < l.length
 ·(repeat' ((try conv=>whnf);first|(with_reducible first|refine wT ?_|refine wF ?_|(refine wI (fun hq=>?_) (fun hq=>?_) <;> try simp only [zA,zE,zD,zJ,zB,zI,wK,wL] at hq)|refine wA ?_|refine wB ?_|refine wC ?_|refine wD ?_|refine wE ?_)|((with_reducible refine wN ?_ ?_);focus exact needA)|(with_reducible refine wG ?_)|(with_reducible refine wP ?_)))
  all_goals (try conv=>whnf)
  refine FLoop.of (ACalls.mono _) (X:=Nat) (fun k=>[(0,aEnts f l),(3,AI i),(4,AI k)]) (fun _=>[]) (fun k=>k ≤ i ∧ ∀ j,j < k → (decide ((l.getD i en0).id = (l.getD j en0).id) && !alikeB (l.getD i en0) (l.getD j en0)) = false) (fun k=>i - k) 0 ⟨⟨Nat.zero_le _,below_zero⟩,[],Cut.A,allA⟩ ?_
  rintro k ⟨hk,hK⟩
  by_cases hlk:k < i
  ·have cA:=alike_ok (f.fz i) (f.fe i) (f.fz k) (f.fe k) (l.getD i en0) (l.getD k en0) (hf i hlt) (hf k (by omega))
   by_cases he:(l.getD i en0).id = (l.getD k en0).id
   ·cases hb:alikeB (l.getD i en0) (l.getD k en0)
    ·rw [hb] at cA
     (repeat' ((try conv=>whnf);first|(with_reducible first|refine wT ?_|refine wF ?_|(refine wI (fun hq=>?_) (fun hq=>?_) <;> try simp only [zA,zE,zD,zJ,zB,zI,wK,wL] at hq)|refine wA ?_|refine wB ?_|refine wC ?_|refine wD ?_|refine wE ?_)|((with_reducible refine wN ?_ ?_);focus exact needA)|(with_reducible refine wG ?_)|(refine FCall.pure (cA) ⟨Ln.sameB _ rfl,Ln.sameB _ rfl,True.intro⟩ rfl ?_)|(with_reducible refine wP ?_)))
     all_goals (try conv=>whnf)
     (refine ⟨⟨_,[],[],Cut.nil _,Ln.sameB _ rfl,?_,rfl⟩⟩)
     unfold clashB
     rw [rany_yes hlt (rany_yes hlk (by rw [decide_eq_true he,hb];rfl))]
    ·rw [hb] at cA
     (repeat' ((try conv=>whnf);first|(with_reducible first|refine wT ?_|refine wF ?_|(refine wI (fun hq=>?_) (fun hq=>?_) <;> try simp only [zA,zE,zD,zJ,zB,zI,wK,wL] at hq)|refine wA ?_|refine wB ?_|refine wC ?_|refine wD ?_|refine wE ?_)|((with_reducible refine wN ?_ ?_);focus exact needA)|(with_reducible refine wG ?_)|(refine FCall.pure (cA) ⟨Ln.sameB _ rfl,Ln.sameB _ rfl,True.intro⟩ rfl ?_)|(with_reducible refine wP ?_)))
     all_goals (try conv=>whnf)
     (exact ⟨⟨(k + 1),⟨hlk,below_step hK (by rw [hb];simp)⟩,by show _ < _;omega,[],Cut.A,allA⟩⟩)
   ·(repeat' ((try conv=>whnf);first|(with_reducible first|refine wT ?_|refine wF ?_|(refine wI (fun hq=>?_) (fun hq=>?_) <;> try simp only [zA,zE,zD,zJ,zB,zI,wK,wL] at hq)|refine wA ?_|refine wB ?_|refine wC ?_|refine wD ?_|refine wE ?_)|((with_reducible refine wN ?_ ?_);focus exact needA)|(with_reducible refine wG ?_)|(refine FCall.pure (cA) ⟨Ln.sameB _ rfl,Ln.sameB _ rfl,True.intro⟩ rfl ?_)|(with_reducible refine wP ?_)))
    all_goals (try conv=>whnf)
    (exact ⟨⟨(k + 1),⟨hlk,below_step hK (by rw [decide_eq_false he];rfl)⟩,by show _ < _;omega,[],Cut.A,allA⟩⟩)
  ·obtain rfl:k = i:=by omega
   (repeat' ((try conv=>whnf);first|(with_reducible first|refine wT ?_|refine wF ?_|(refine wI (fun hq=>?_) (fun hq=>?_) <;> try simp only [zA,zE,zD,zJ,zB,zI,wK,wL] at hq)|refine wA ?_|refine wB ?_|refine wC ?_|refine wD ?_|refine wE ?_)|((with_reducible refine wN ?_ ?_);focus exact needA)|(with_reducible refine wG ?_)|(with_reducible refine wP ?_)))
   all_goals (try conv=>whnf)
   (exact ⟨⟨(k + 1),⟨hlt,below_step hL (rany_no hK)⟩,by show _ < _;omega,[],Cut.A,allA⟩⟩)
 ·(repeat' ((try conv=>whnf);first|(with_reducible first|refine wT ?_|refine wF ?_|(refine wI (fun hq=>?_) (fun hq=>?_) <;> try simp only [zA,zE,zD,zJ,zB,zI,wK,wL] at hq)|refine wA ?_|refine wB ?_|refine wC ?_|refine wD ?_|refine wE ?_)|((with_reducible refine wN ?_ ?_);focus exact needA)|(with_reducible refine wG ?_)|(with_reducible refine wP ?_)))
  all_goals (try conv=>whnf)
  (refine ⟨⟨_,[],[],Cut.nil _,Ln.sameB _ rfl,?_,rfl⟩⟩)
  unfold clashB
  rw [rany_no fun k hk=>hL k (by omega)]
theorem check1_ok (f:EnF) (l:List Ent) (hn:NearB l):ACall Tryz.prog 5 [aEnts f l] [] (fun r h=>r = AI (checkK l) ∧ h = []):=by
 have cB:=isBook_ok f l hn
 have n1:=hn.1
 unfold checkK
 (refine fcall_of mixed Tryz.func5 rfl (by decide) (hs:={}) ?k (ac:=?ac) ?c (rs:=?rs) ?r ?l ?H;(case k=>kernel_rfl);(case c=>(conv=>(lhs;cbv)));(case r=>(conv=>(lhs;cbv)));(case l=>exact Nat.le_of_ble_eq_true rfl))
 cases hb:bookB l
 ·rw [hb] at cB
  (repeat' ((try conv=>whnf);first|(with_reducible first|refine wT ?_|refine wF ?_|(refine wI (fun hq=>?_) (fun hq=>?_) <;> try simp only [zA,zE,zD,zJ,zB,zI,wK,wL] at hq)|refine wA ?_|refine wB ?_|refine wC ?_|refine wD ?_|refine wE ?_)|((with_reducible refine wN ?_ ?_);focus exact needA)|(with_reducible refine wG ?_)|(refine FCall.pure (cB) ⟨Ln.sameB _ rfl,True.intro⟩ rfl ?_)|(with_reducible refine wP ?_)))
  all_goals (try conv=>whnf)
  (refine ⟨⟨_,[],[],Cut.nil _,Ln.sameB _ rfl,?_,rfl⟩⟩)
  rfl
 ·rw [hb] at cB
  have hall:l.all entB = true:=by unfold bookB at hb;simp only [Bool.and_eq_true] at hb;exact hb.1
  have cC:=clash_ok f l n1 fun i hi=>(ent_d (all_getD en0 hall hi)).fm
  cases hc:clashB l
  ·rw [hc] at cC
   (repeat' ((try conv=>whnf);first|(with_reducible first|refine wT ?_|refine wF ?_|(refine wI (fun hq=>?_) (fun hq=>?_) <;> try simp only [zA,zE,zD,zJ,zB,zI,wK,wL] at hq)|refine wA ?_|refine wB ?_|refine wC ?_|refine wD ?_|refine wE ?_)|((with_reducible refine wN ?_ ?_);focus exact needA)|(with_reducible refine wG ?_)|(refine FCall.pure (cB) ⟨Ln.sameB _ rfl,True.intro⟩ rfl ?_)|(refine FCall.pure (cC) ⟨Ln.sameB _ rfl,True.intro⟩ rfl ?_)|(with_reducible refine wP ?_)))
   all_goals (try conv=>whnf)
   (refine ⟨⟨_,[],[],Cut.nil _,Ln.sameB _ rfl,?_,rfl⟩⟩)
   rfl
  ·rw [hc] at cC
   (repeat' ((try conv=>whnf);first|(with_reducible first|refine wT ?_|refine wF ?_|(refine wI (fun hq=>?_) (fun hq=>?_) <;> try simp only [zA,zE,zD,zJ,zB,zI,wK,wL] at hq)|refine wA ?_|refine wB ?_|refine wC ?_|refine wD ?_|refine wE ?_)|((with_reducible refine wN ?_ ?_);focus exact needA)|(with_reducible refine wG ?_)|(refine FCall.pure (cB) ⟨Ln.sameB _ rfl,True.intro⟩ rfl ?_)|(refine FCall.pure (cC) ⟨Ln.sameB _ rfl,True.intro⟩ rfl ?_)|(with_reducible refine wP ?_)))
   all_goals (try conv=>whnf)
   (refine ⟨⟨_,[],[],Cut.nil _,Ln.sameB _ rfl,?_,rfl⟩⟩)
   rfl
theorem far1_ok (f:EnF) (l:List Ent) (hlen:l.length ≤ 9223372036854775807):ACall Tryz.prog 4 [aEnts f l] [] (fun r h=>r = .bool (farB l) ∧ h = []):=by
 have cL:=long_ok f l hlen
 change ACall Tryz.prog _ _ _ (fun r h=>r = .bool (longB l) ∧ h = []) at cL
 unfold farB
 (refine fcall_of mixed Tryz.func4 rfl (by decide) (hs:={}) ?k (ac:=?ac) ?c (rs:=?rs) ?r ?l ?H;(case k=>kernel_rfl);(case c=>(conv=>(lhs;cbv)));(case r=>(conv=>(lhs;cbv)));(case l=>exact Nat.le_of_ble_eq_true rfl))
 cases hl:longB l
 ·rw [hl] at cL
  have cB:=isBook_ok f l (nearB_of hl)
  cases hb:bookB l
  ·rw [hb] at cB
   (repeat' ((try conv=>whnf);first|(with_reducible first|refine wT ?_|refine wF ?_|(refine wI (fun hq=>?_) (fun hq=>?_) <;> try simp only [zA,zE,zD,zJ,zB,zI,wK,wL] at hq)|refine wA ?_|refine wB ?_|refine wC ?_|refine wD ?_|refine wE ?_)|((with_reducible refine wN ?_ ?_);focus exact needA)|(with_reducible refine wG ?_)|(refine FCall.pure (cL) ⟨Ln.sameB _ rfl,True.intro⟩ rfl ?_)|(refine FCall.pure (cB) ⟨Ln.sameB _ rfl,True.intro⟩ rfl ?_)|(with_reducible refine wP ?_)))
   all_goals (try conv=>whnf)
   all_goals ((refine ⟨⟨_,[],[],Cut.nil _,Ln.sameB _ rfl,?_,rfl⟩⟩);rfl)
  ·rw [hb] at cB
   (repeat' ((try conv=>whnf);first|(with_reducible first|refine wT ?_|refine wF ?_|(refine wI (fun hq=>?_) (fun hq=>?_) <;> try simp only [zA,zE,zD,zJ,zB,zI,wK,wL] at hq)|refine wA ?_|refine wB ?_|refine wC ?_|refine wD ?_|refine wE ?_)|((with_reducible refine wN ?_ ?_);focus exact needA)|(with_reducible refine wG ?_)|(refine FCall.pure (cL) ⟨Ln.sameB _ rfl,True.intro⟩ rfl ?_)|(refine FCall.pure (cB) ⟨Ln.sameB _ rfl,True.intro⟩ rfl ?_)|(with_reducible refine wP ?_)))
   all_goals (try conv=>whnf)
   all_goals ((refine ⟨⟨_,[],[],Cut.nil _,Ln.sameB _ rfl,?_,rfl⟩⟩);rfl)
 ·rw [hl] at cL
  (repeat' ((try conv=>whnf);first|(with_reducible first|refine wT ?_|refine wF ?_|(refine wI (fun hq=>?_) (fun hq=>?_) <;> try simp only [zA,zE,zD,zJ,zB,zI,wK,wL] at hq)|refine wA ?_|refine wB ?_|refine wC ?_|refine wD ?_|refine wE ?_)|((with_reducible refine wN ?_ ?_);focus exact needA)|(with_reducible refine wG ?_)|(refine FCall.pure (cL) ⟨Ln.sameB _ rfl,True.intro⟩ rfl ?_)|(with_reducible refine wP ?_)))
  all_goals (try conv=>whnf)
  all_goals ((refine ⟨⟨_,[],[],Cut.nil _,Ln.sameB _ rfl,?_,rfl⟩⟩);rfl)
end Go.Proofs.YtodpjdmdmmnlpaaGreat

namespace Go.Proofs.YtodpjdmdmmnlpaaGreat
open Go.RowKit

theorem seen_no {s:Seen} (h:¬ SeenOk s):seenB s = false:=Bool.eq_false_iff.2 fun e=>h (seen_d e)
theorem seen_b {s:Seen} (h:SeenOk s):seenB s = true:=by
 unfold seenB
 simp only [Bool.and_eq_true,decide_eq_true_eq]
 exact ⟨all_of 0 fun k hk=>by have:=h.mv k hk;simpa using this,⟨⟨⟨⟨⟨⟨⟨⟨h.ri,h.le⟩,h.fa⟩,h.rg⟩,h.co⟩,h.ro⟩,h.ag⟩,h.n⟩,h.lost⟩⟩
set_option maxHeartbeats 8000000
set_option maxRecDepth 100000
theorem isSeen_ok (z e : Bool) (s : Seen) (hn : s.mv.length ≤ 1000) : ACall Tryz.prog 7 [aSeen z e s] [] (fun r h => r = .bool (seenB s) ∧ h = []) := by
  (refine fcall_of mixed Tryz.func7 rfl (by decide) (hs := {}) ?k (ac := ?ac) ?c (rs := ?rs) ?r ?l ?H; (case k => kernel_rfl); (case c => (conv => (lhs; cbv))); (case r => (conv => (lhs; cbv))); (case l => exact Nat.le_of_ble_eq_true rfl))
  (repeat' ((try conv => whnf); first | (with_reducible first | refine wT ?_ | refine wF ?_ | (refine wI (fun hq => ?_) (fun hq => ?_) <;> try simp only [zA, zE, zD, zJ, zB, zI, wK, wL] at hq) | refine wA ?_ | refine wB ?_ | refine wC ?_ | refine wD ?_ | refine wE ?_) | ((with_reducible refine wN ?_ ?_); focus exact needA) | (with_reducible refine wG ?_) | (with_reducible refine wP ?_)))
  all_goals (try conv => whnf)
  refine FLoop.of (ACalls.mono _) (X := Nat) (fun i => [(1, .ptr 0 0), (3, AI i)]) (fun _ => [.box 12 (cSeen z e s)]) (fun i => i ≤ s.mv.length ∧ ∀ k, k < i → 1 ≤ s.mv.getD k 0 ∧ s.mv.getD k 0 ≤ 255) (fun i => s.mv.length - i) 0 ⟨⟨Nat.zero_le _, below_zero⟩, [0], Cut.A, allA⟩ ?_
  rintro i ⟨hi, hL⟩
  by_cases hlt : i < s.mv.length
  · (repeat' ((try conv => whnf); first | (with_reducible first | refine wT ?_ | refine wF ?_ | (refine wI (fun hq => ?_) (fun hq => ?_) <;> try simp only [zA, zE, zD, zJ, zB, zI, wK, wL] at hq) | refine wA ?_ | refine wB ?_ | refine wC ?_ | refine wD ?_ | refine wE ?_) | ((with_reducible refine wN ?_ ?_); focus exact needA) | (with_reducible refine wG ?_) | (refine FCall.pure ((within_ok _ _ _)) ⟨Ln.sameB _ rfl, Ln.sameB _ rfl, Ln.sameB _ rfl, True.intro⟩ rfl ?_) | (with_reducible refine wP ?_)))
    all_goals (try conv => whnf)
    · (refine ⟨⟨_, [], [], Cut.nil _, Ln.sameB _ rfl, ?_, rfl⟩⟩)
      rw [seen_no fun h => by have := h.mv i hlt; omega]
    · (exact ⟨⟨(i + 1), ⟨hlt, below_step hL (by omega)⟩, by show _ < _; omega, [0], Cut.A, allA⟩⟩)
  · have hA : ∀ k, k < s.mv.length → 1 ≤ s.mv.getD k 0 ∧ s.mv.getD k 0 ≤ 255 := fun k hk => hL k (by omega)
    clear hL
    (repeat' ((try conv => whnf); first | (with_reducible first | refine wT ?_ | refine wF ?_ | (refine wI (fun hq => ?_) (fun hq => ?_) <;> try simp only [zA, zE, zD, zJ, zB, zI, wK, wL] at hq) | refine wA ?_ | refine wB ?_ | refine wC ?_ | refine wD ?_ | refine wE ?_) | ((with_reducible refine wN ?_ ?_); focus exact needA) | (with_reducible refine wG ?_) | (refine FCall.pure ((within_ok _ _ _)) ⟨Ln.sameB _ rfl, Ln.sameB _ rfl, Ln.sameB _ rfl, True.intro⟩ rfl ?_) | (with_reducible refine wP ?_)))
    all_goals (try conv => whnf)
    all_goals (refine ⟨⟨_, [], [], Cut.nil _, Ln.sameB _ rfl, ?_, rfl⟩⟩)
    all_goals first
      | (rw [seen_no fun h => by have := h.ri; have := h.le; have := h.fa; have := h.rg; have := h.co; have := h.ro; have := h.ag; have := h.n; have := h.lost; omega]; done)
      | (by_cases h6 : 0 ≤ s.lost ∧ s.lost ≤ 6
         · rw [seen_b ⟨by omega, by omega, by omega, by omega, by omega, by omega, by omega, by omega, hA, h6⟩]; exact bool_eq (decide_eq_true (by omega))
         · rw [seen_no fun h => h6 h.lost]; exact bool_eq (decide_eq_false (by omega)))
theorem has1_ok (set d:Int) (h1:0 ≤ set) (h2:0 ≤ d ∧ d < 60):ACall Tryz.prog 36 [AI set,AI d] [] (fun r h=>r = .bool (bitI set d) ∧ h = []):=by
 obtain ⟨s,rfl⟩:∃ s:Nat,set = s:=⟨set.toNat,by omega⟩
 obtain ⟨n,rfl⟩:∃ n:Nat,d = n:=⟨d.toNat,by omega⟩
 unfold bitI
 rw [Int.toNat_natCast,Int.toNat_natCast]
 (refine fcall_of mixed Tryz.func36 rfl (by decide) (hs:={}) ?k (ac:=?ac) ?c (rs:=?rs) ?r ?l ?H;(case k=>kernel_rfl);(case c=>(conv=>(lhs;cbv)));(case r=>(conv=>(lhs;cbv)));(case l=>exact Nat.le_of_ble_eq_true rfl))
 cases hb:s.testBit n
 ·(repeat' ((try conv=>whnf);first|(with_reducible first|refine wT ?_|refine wF ?_|(refine wI (fun hq=>?_) (fun hq=>?_) <;> try simp only [zA,zE,zD,zJ,zB,zI,wK,wL] at hq)|refine wA ?_|refine wB ?_|refine wC ?_|refine wD ?_|refine wE ?_)|((with_reducible refine wN ?_ ?_);focus exact needA)|(with_reducible first|refine FBit.hasT rfl (by assumption) ?_|refine FBit.hasF rfl (by assumption) ?_|refine FBit.shrN rfl (by omega) ?_|refine FBit.half rfl ?_|refine FBit.shl1 rfl (by omega) ?_|refine Fits.inU (by omega) ?_|refine FBit.shrNI rfl (by omega) ?_|refine FBit.shrIN rfl (by omega) (by omega) ?_|refine FBit.shrI rfl (by omega) (by omega) ?_|refine FBit.shl1I rfl (by omega) ?_)|(with_reducible refine FBit.has rfl (fun hq=>?_) (fun hq=>?_))|(with_reducible first|refine FBit.and1 rfl ?_|refine FBit.andN rfl (by omega) (by omega) ?_|refine FBit.orN rfl (by omega) (by omega) ?_|refine FBit.andNotN rfl (by omega) (by omega) ?_)|(with_reducible refine wG ?_)|(with_reducible refine wP ?_)))
  all_goals (try conv=>whnf)
  all_goals ((refine ⟨⟨_,[],[],Cut.nil _,Ln.sameB _ rfl,?_,rfl⟩⟩);rfl)
 ·(repeat' ((try conv=>whnf);first|(with_reducible first|refine wT ?_|refine wF ?_|(refine wI (fun hq=>?_) (fun hq=>?_) <;> try simp only [zA,zE,zD,zJ,zB,zI,wK,wL] at hq)|refine wA ?_|refine wB ?_|refine wC ?_|refine wD ?_|refine wE ?_)|((with_reducible refine wN ?_ ?_);focus exact needA)|(with_reducible first|refine FBit.hasT rfl (by assumption) ?_|refine FBit.hasF rfl (by assumption) ?_|refine FBit.shrN rfl (by omega) ?_|refine FBit.half rfl ?_|refine FBit.shl1 rfl (by omega) ?_|refine Fits.inU (by omega) ?_|refine FBit.shrNI rfl (by omega) ?_|refine FBit.shrIN rfl (by omega) (by omega) ?_|refine FBit.shrI rfl (by omega) (by omega) ?_|refine FBit.shl1I rfl (by omega) ?_)|(with_reducible refine FBit.has rfl (fun hq=>?_) (fun hq=>?_))|(with_reducible first|refine FBit.and1 rfl ?_|refine FBit.andN rfl (by omega) (by omega) ?_|refine FBit.orN rfl (by omega) (by omega) ?_|refine FBit.andNotN rfl (by omega) (by omega) ?_)|(with_reducible refine wG ?_)|(with_reducible refine wP ?_)))
  all_goals (try conv=>whnf)
  all_goals ((refine ⟨⟨_,[],[],Cut.nil _,Ln.sameB _ rfl,?_,rfl⟩⟩);rfl)
theorem fits_nil (z e z2 e2:Bool) (ss:List Int) (lost:Int) (hs:ss.length ≤ 1000):ACall Tryz.prog 37 [aInts z e [],aInts z2 e2 ss,AI lost] [] (fun r h=>r = .bool (fitsR [] ss lost.toNat) ∧ h = []):=by
 (refine fcall_of mixed Tryz.func37 rfl (by decide) (hs:={}) ?k (ac:=?ac) ?c (rs:=?rs) ?r ?l ?H;(case k=>kernel_rfl);(case c=>(conv=>(lhs;cbv)));(case r=>(conv=>(lhs;cbv)));(case l=>exact Nat.le_of_ble_eq_true rfl))
 rcases ss with _|⟨s,ss⟩
 ·(repeat' ((try conv=>whnf);first|(with_reducible first|refine wT ?_|refine wF ?_|(refine wI (fun hq=>?_) (fun hq=>?_) <;> try simp only [zA,zE,zD,zJ,zB,zI,wK,wL] at hq)|refine wA ?_|refine wB ?_|refine wC ?_|refine wD ?_|refine wE ?_)|((with_reducible refine wN ?_ ?_);focus exact needA)|(with_reducible refine wG ?_)|(with_reducible refine wP ?_)))
  all_goals (try conv=>whnf)
  all_goals ((refine ⟨⟨_,[],[],Cut.nil _,Ln.sameB _ rfl,?_,rfl⟩⟩);rfl)
 ·rw [List.length_cons] at hs
  (repeat' ((try conv=>whnf);first|(with_reducible first|refine wT ?_|refine wF ?_|(refine wI (fun hq=>?_) (fun hq=>?_) <;> try simp only [zA,zE,zD,zJ,zB,zI,wK,wL] at hq)|refine wA ?_|refine wB ?_|refine wC ?_|refine wD ?_|refine wE ?_)|((with_reducible refine wN ?_ ?_);focus exact needA)|(with_reducible refine wG ?_)|(with_reducible refine wP ?_)))
  all_goals (try conv=>whnf)
  all_goals ((refine ⟨⟨_,[],[],Cut.nil _,Ln.sameB _ rfl,?_,rfl⟩⟩);first|rfl|exact bool_eq (decide_eq_false (by rw [List.length_cons];omega)))
theorem fits_ok : ∀ (ms:List Int),ms.length ≤ 1000 → (∀ k,k < ms.length → 0 ≤ ms.getD k 0 ∧ ms.getD k 0 ≤ 7) → ∀ (z e z2 e2:Bool) (ss:List Int) (lost:Int),ss.length ≤ 1000 → (∀ k,k < ss.length → 0 ≤ ss.getD k 0) → 0 ≤ lost ∧ lost ≤ 1000 →
  ACall Tryz.prog 37 [aInts z e ms,aInts z2 e2 ss,AI lost] [] (fun r h=>r = .bool (fitsR ms ss lost.toNat) ∧ h = [])
 | [],_,_,z,e,z2,e2,ss,lost,hs,_,_=>fits_nil z e z2 e2 ss lost hs
 | m :: ms,hn,hm,z,e,z2,e2,ss,lost,hs,hs2,hl=>by
  have hcm:(m :: ms).length = ms.length + 1:=List.length_cons
  rw [List.length_cons] at hn
  have hm0:0 ≤ m ∧ m ≤ 7:=hm 0 (by simp)
  have hm1:∀ k,k < ms.length → 0 ≤ ms.getD k 0 ∧ ms.getD k 0 ≤ 7:=fun k hk=>hm (k + 1) (by rw [List.length_cons];omega)
  have skip:∀ b:Bool,(0 < lost → ACall Tryz.prog 37 [aInts z e ms,aInts z2 e2 ss,AI (lost - 1)] [] (fun r h=>r = .bool (fitsR ms ss (lost - 1).toNat) ∧ h = [])):=fun _ h0=>fits_ok ms (by omega) hm1 z e z2 e2 ss (lost - 1) hs hs2 (by omega)
  have cS:=skip true
  clear skip
  (refine fcall_of mixed Tryz.func37 rfl (by decide) (hs:={}) ?k (ac:=?ac) ?c (rs:=?rs) ?r ?l ?H;(case k=>kernel_rfl);(case c=>(conv=>(lhs;cbv)));(case r=>(conv=>(lhs;cbv)));(case l=>exact Nat.le_of_ble_eq_true rfl))
  rcases ss with _|⟨s,ss⟩
  ·by_cases h0:0 < lost
   ·have cS:=cS h0
    have e1:fitsR (m :: ms) [] lost.toNat = fitsR ms [] (lost - 1).toNat:=by
     rw [show lost.toNat = (lost - 1).toNat + 1 by omega];rfl
    rw [e1]
    (repeat' ((try conv=>whnf);first|(with_reducible first|refine wT ?_|refine wF ?_|(refine wI (fun hq=>?_) (fun hq=>?_) <;> try simp only [zA,zE,zD,zJ,zB,zI,wK,wL] at hq)|refine wA ?_|refine wB ?_|refine wC ?_|refine wD ?_|refine wE ?_)|((with_reducible refine wN ?_ ?_);focus exact needA)|(with_reducible refine wG ?_)|(refine FCall.pure (cS) ⟨Ln.sameB _ rfl,Ln.sameB _ rfl,Ln.sameB _ rfl,True.intro⟩ rfl ?_)|(with_reducible refine wP ?_)))
    all_goals (try conv=>whnf)
    all_goals ((refine ⟨⟨_,[],[],Cut.nil _,Ln.sameB _ rfl,?_,rfl⟩⟩);rfl)
   ·have e1:fitsR (m :: ms) [] lost.toNat = false:=by
     rw [show lost.toNat = 0 by omega];rfl
    rw [e1]
    clear cS
    (repeat' ((try conv=>whnf);first|(with_reducible first|refine wT ?_|refine wF ?_|(refine wI (fun hq=>?_) (fun hq=>?_) <;> try simp only [zA,zE,zD,zJ,zB,zI,wK,wL] at hq)|refine wA ?_|refine wB ?_|refine wC ?_|refine wD ?_|refine wE ?_)|((with_reducible refine wN ?_ ?_);focus exact needA)|(with_reducible refine wG ?_)|(with_reducible refine wP ?_)))
    all_goals (try conv=>whnf)
    all_goals ((refine ⟨⟨_,[],[],Cut.nil _,Ln.sameB _ rfl,?_,rfl⟩⟩);rfl)
  ·have hcs:(s :: ss).length = ss.length + 1:=List.length_cons
   rw [List.length_cons] at hs
   have hs0:0 ≤ s:=hs2 0 (by simp)
   have hs1:∀ k,k < ss.length → 0 ≤ ss.getD k 0:=fun k hk=>hs2 (k + 1) (by rw [List.length_cons];omega)
   have cH:=has1_ok s m hs0 (by omega)
   have cT:=fits_ok ms (by omega) hm1 z e z2 e2 ss lost (by omega) hs1 hl
   by_cases h0:0 < lost
   ·have cS:=cS h0
    have e1:fitsR (m :: ms) (s :: ss) lost.toNat = (bitI s m && fitsR ms ss lost.toNat || fitsR ms (s :: ss) (lost - 1).toNat):=by
     rw [show lost.toNat = (lost - 1).toNat + 1 by omega];rfl
    rw [e1]
    cases hb:bitI s m <;> rw [hb] at cH
    ·(repeat' ((try conv=>whnf);first|(with_reducible first|refine wT ?_|refine wF ?_|(refine wI (fun hq=>?_) (fun hq=>?_) <;> try simp only [zA,zE,zD,zJ,zB,zI,wK,wL] at hq)|refine wA ?_|refine wB ?_|refine wC ?_|refine wD ?_|refine wE ?_)|((with_reducible refine wN ?_ ?_);focus exact needA)|(with_reducible refine wG ?_)|(refine FCall.pure (cH) ⟨Ln.sameB _ rfl,Ln.sameB _ rfl,True.intro⟩ rfl ?_)|(refine FCall.pure (cS) ⟨Ln.sameB _ rfl,Ln.sameB _ rfl,Ln.sameB _ rfl,True.intro⟩ rfl ?_)|(with_reducible refine wP ?_)))
     all_goals (try conv=>whnf)
     all_goals ((refine ⟨⟨_,[],[],Cut.nil _,Ln.sameB _ rfl,?_,rfl⟩⟩);rfl)
    ·cases hf:fitsR ms ss lost.toNat <;> rw [hf] at cT
     ·(repeat' ((try conv=>whnf);first|(with_reducible first|refine wT ?_|refine wF ?_|(refine wI (fun hq=>?_) (fun hq=>?_) <;> try simp only [zA,zE,zD,zJ,zB,zI,wK,wL] at hq)|refine wA ?_|refine wB ?_|refine wC ?_|refine wD ?_|refine wE ?_)|((with_reducible refine wN ?_ ?_);focus exact needA)|(with_reducible refine wG ?_)|(refine FCall.pure (cH) ⟨Ln.sameB _ rfl,Ln.sameB _ rfl,True.intro⟩ rfl ?_)|(refine FCall.pure (cT) ⟨Ln.sameB _ rfl,Ln.sameB _ rfl,Ln.sameB _ rfl,True.intro⟩ rfl ?_)|(refine FCall.pure (cS) ⟨Ln.sameB _ rfl,Ln.sameB _ rfl,Ln.sameB _ rfl,True.intro⟩ rfl ?_)|(with_reducible refine wP ?_)))
      all_goals (try conv=>whnf)
      all_goals ((refine ⟨⟨_,[],[],Cut.nil _,Ln.sameB _ rfl,?_,rfl⟩⟩);rfl)
     ·(repeat' ((try conv=>whnf);first|(with_reducible first|refine wT ?_|refine wF ?_|(refine wI (fun hq=>?_) (fun hq=>?_) <;> try simp only [zA,zE,zD,zJ,zB,zI,wK,wL] at hq)|refine wA ?_|refine wB ?_|refine wC ?_|refine wD ?_|refine wE ?_)|((with_reducible refine wN ?_ ?_);focus exact needA)|(with_reducible refine wG ?_)|(refine FCall.pure (cH) ⟨Ln.sameB _ rfl,Ln.sameB _ rfl,True.intro⟩ rfl ?_)|(refine FCall.pure (cT) ⟨Ln.sameB _ rfl,Ln.sameB _ rfl,Ln.sameB _ rfl,True.intro⟩ rfl ?_)|(refine FCall.pure (cS) ⟨Ln.sameB _ rfl,Ln.sameB _ rfl,Ln.sameB _ rfl,True.intro⟩ rfl ?_)|(with_reducible refine wP ?_)))
      all_goals (try conv=>whnf)
      all_goals ((refine ⟨⟨_,[],[],Cut.nil _,Ln.sameB _ rfl,?_,rfl⟩⟩);rfl)
   ·have e1:fitsR (m :: ms) (s :: ss) lost.toNat = (bitI s m && fitsR ms ss lost.toNat):=by
     rw [show lost.toNat = 0 by omega]
     show (_ || false) = _
     rw [Bool.or_false]
    rw [e1]
    clear cS
    cases hb:bitI s m <;> rw [hb] at cH
    ·(repeat' ((try conv=>whnf);first|(with_reducible first|refine wT ?_|refine wF ?_|(refine wI (fun hq=>?_) (fun hq=>?_) <;> try simp only [zA,zE,zD,zJ,zB,zI,wK,wL] at hq)|refine wA ?_|refine wB ?_|refine wC ?_|refine wD ?_|refine wE ?_)|((with_reducible refine wN ?_ ?_);focus exact needA)|(with_reducible refine wG ?_)|(refine FCall.pure (cH) ⟨Ln.sameB _ rfl,Ln.sameB _ rfl,True.intro⟩ rfl ?_)|(with_reducible refine wP ?_)))
     all_goals (try conv=>whnf)
     all_goals ((refine ⟨⟨_,[],[],Cut.nil _,Ln.sameB _ rfl,?_,rfl⟩⟩);rfl)
    ·cases hf:fitsR ms ss lost.toNat <;> rw [hf] at cT
     ·(repeat' ((try conv=>whnf);first|(with_reducible first|refine wT ?_|refine wF ?_|(refine wI (fun hq=>?_) (fun hq=>?_) <;> try simp only [zA,zE,zD,zJ,zB,zI,wK,wL] at hq)|refine wA ?_|refine wB ?_|refine wC ?_|refine wD ?_|refine wE ?_)|((with_reducible refine wN ?_ ?_);focus exact needA)|(with_reducible refine wG ?_)|(refine FCall.pure (cH) ⟨Ln.sameB _ rfl,Ln.sameB _ rfl,True.intro⟩ rfl ?_)|(refine FCall.pure (cT) ⟨Ln.sameB _ rfl,Ln.sameB _ rfl,Ln.sameB _ rfl,True.intro⟩ rfl ?_)|(with_reducible refine wP ?_)))
      all_goals (try conv=>whnf)
      all_goals ((refine ⟨⟨_,[],[],Cut.nil _,Ln.sameB _ rfl,?_,rfl⟩⟩);rfl)
     ·(repeat' ((try conv=>whnf);first|(with_reducible first|refine wT ?_|refine wF ?_|(refine wI (fun hq=>?_) (fun hq=>?_) <;> try simp only [zA,zE,zD,zJ,zB,zI,wK,wL] at hq)|refine wA ?_|refine wB ?_|refine wC ?_|refine wD ?_|refine wE ?_)|((with_reducible refine wN ?_ ?_);focus exact needA)|(with_reducible refine wG ?_)|(refine FCall.pure (cH) ⟨Ln.sameB _ rfl,Ln.sameB _ rfl,True.intro⟩ rfl ?_)|(refine FCall.pure (cT) ⟨Ln.sameB _ rfl,Ln.sameB _ rfl,Ln.sameB _ rfl,True.intro⟩ rfl ?_)|(with_reducible refine wP ?_)))
      all_goals (try conv=>whnf)
      all_goals ((refine ⟨⟨_,[],[],Cut.nil _,Ln.sameB _ rfl,?_,rfl⟩⟩);rfl)
end Go.Proofs.YtodpjdmdmmnlpaaGreat
