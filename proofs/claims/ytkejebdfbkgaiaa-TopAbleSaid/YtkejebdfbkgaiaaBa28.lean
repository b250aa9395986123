/- Teams: the program's Why. / Teams: the example, works. / TopAble: the first words are those of the teams. / Exams: papers over abstract values. / Exams: the reference's Check. / Exams: contracts of the first walks in the abstract reading. / Exams: the walk over end. -/
import Derived.Test.YtkejebdfbkgaiaaBa27
import Derived.Test.YtkejebdfbkgaiaaBa17
import Derived.Test.YtkejebdfbkgaiaaBa18
import Derived.Test.YtkejebdfbkgaiaaBa16
import Derived.Test.YtkejebdfbkgaiaaBa19
import Derived.KernelRfl
import Derived.Test.YtkejebdfbkgaiaaBa21
import Derived.Test.YtkejebdfbkgaiaaBa23
import Derived.Test.YtkejebdfbkgaiaaBa22
set_option linter.unusedSimpArgs false
set_option linter.unusedVariables false
namespace Go.Proofs.Ytkejebdfbkgaiaa
open Go.RowKit

/-- How many of the first teams do not keep just these rules. -/
noncomputable def cntT (c:Crew) (j:Job):Nat → Nat → Nat
 | 0,_=>0
 | t + 1,b=>if b = brokenT c j (t + 1) then cntT c j t b + 1 else cntT c j t b
theorem cntT_le {c:Crew} {j:Job} {b:Nat}:∀ t,cntT c j t b ≤ t
 | 0=>Nat.le_refl _
 | t + 1=>by
  have:=cntT_le (c:=c) (j:=j) (b:=b) t
  rw [cntT];split <;> omega
theorem cntT_pos {c:Crew} {j:Job} {b:Nat}:∀ t,0 < cntT c j t b ↔ ∃ u,1 ≤ u ∧ u ≤ t ∧ brokenT c j u = b
 | 0=>by simp only [cntT];constructor;(· intro h;omega);(· rintro ⟨u,h1,h2,_⟩;omega)
 | t + 1=>by
  have ih:=cntT_pos (c:=c) (j:=j) (b:=b) t
  rw [cntT]
  split
  ·rename_i h;exact ⟨fun _=>⟨t + 1,by omega,by omega,h.symm⟩,fun _=>by omega⟩
  ·rename_i h
   rw [ih]
   constructor
   ·rintro ⟨u,h1,h2,h3⟩;exact ⟨u,h1,by omega,h3⟩
   ·rintro ⟨u,h1,h2,h3⟩
    rcases Nat.eq_or_lt_of_le h2 with e|e
    ·subst e;exact absurd h3.symm h
    ·exact ⟨u,h1,by omega,h3⟩
/-- The search over all sets of rules: the best of the first ones. -/
noncomputable def whyP (c:Crew) (j:Job) (r:Nat):Nat:=(whyS c j r).getD 63
theorem kept_cnt {c:Crew} {j:Job} {r N:Nat} (hN:N + 1 = 2 ^ c.people.length):keptT c j r = true ↔ ∃ b,b < 64 ∧ 0 < cntT c j N b ∧ r &&& b = 0:=by
 rw [kept_iff]
 constructor
 ·rintro ⟨t,h1,h2,h3⟩
  exact ⟨brokenT c j t,broken_lt c j t,(cntT_pos N).2 ⟨t,h1,by omega,rfl⟩,by rw [Nat.and_comm];exact h3⟩
 ·rintro ⟨b,h1,h2,h3⟩
  obtain ⟨u,k1,k2,k3⟩:=(cntT_pos N).1 h2
  exact ⟨u,k1,by omega,by rw [k3,Nat.and_comm];exact h3⟩
theorem pop63 : ∀ r,r < 63 → pop r < 6:=by
 have:∀ r:_root_.Fin 63,pop r.val < 6:=by decide +kernel
 exact fun r h=>this ⟨r,h⟩
theorem whyS_lt (c:Crew) (j:Job) (r b:Nat) (h:whyS c j r = some b):b < r:=by
 rcases why_spec c j r with ⟨h1,_⟩|⟨b2,h1,h2,_⟩
 ·rw [h1] at h;cases h
 ·rw [h1] at h;injection h with h;omega
theorem whyP_lt (c:Crew) (j:Job) (r:Nat):whyP c j r < 64 ∨ whyP c j r < r:=by
 unfold whyP
 cases h:whyS c j r with
 | none=>left;decide
 | some b=>right;exact whyS_lt c j r b h
theorem whyP_kept {c:Crew} {j:Job} {r:Nat} (h:keptT c j r = true):whyP c j (r + 1) = whyP c j r:=by
 unfold whyP;rw [whyS,h];rfl
theorem whyP_yes {c:Crew} {j:Job} {r:Nat} (hr:r < 63) (h:keptT c j r = false) (k:pop r < pop (whyP c j r)):whyP c j (r + 1) = r:=by
 unfold whyP at *
 rw [whyS,h]
 cases hs:whyS c j r with
 | none=>rfl
 | some b =>
  rw [hs] at k
  have k:pop r < pop b:=k
  simp [k]
theorem whyP_no {c:Crew} {j:Job} {r:Nat} (hr:r < 63) (h:keptT c j r = false) (k:pop (whyP c j r) ≤ pop r):whyP c j (r + 1) = whyP c j r:=by
 unfold whyP at *
 rw [whyS,h]
 cases hs:whyS c j r with
 | none =>
  rw [hs] at k
  have:=pop63 r hr
  have k:pop 63 ≤ pop r:=k
  have:pop 63 = 6:=by decide
  omega
 | some b =>
  rw [hs] at k
  have k:pop b ≤ pop r:=k
  simp [show ¬ pop r < pop b by omega]
theorem whyE_p {c:Crew} {j:Job} (h0:checkT c j = 0) (h:keptT c j 63 = false):whyE c j = ((whyP c j 63:Int),0):=by
 unfold whyE whyP
 rw [if_pos h0,whyS,h]
 cases hs:whyS c j 63 with
 | none=>rfl
 | some b =>
  have hb:=whyS_lt c j 63 b hs
  have:=pop63 b hb
  have:pop 63 = 6:=by decide
  simp [show ¬ pop 63 < pop b by omega]
set_option maxHeartbeats 4000000
set_option maxRecDepth 100000
end Go.Proofs.Ytkejebdfbkgaiaa

namespace Go.Proofs.Ytkejebdfbkgaiaa
open Go.RowKit

def exJ1 : Job:=⟨0,2,3,0,0,1⟩
def exJs : List Job:=[exJ0,exJ1,exJ2]
def exF : CFl:=⟨false,true,false,true,fun i=>⟨false,true,decide (i ≠ 2),true⟩⟩
abbrev exJv : AV:=.sl false true 3 6 (fun k=>cJob (exJs.getD k exJ0))
theorem LeV.ints {l:List Int} {c:Nat → Nat → AV} {n:Nat} (hn:n = l.length) (h:∀ k,k < n → c k 0 = AI (l.getD k 0)):LeV (.sl false true n 1 c) (aInts false true l):=by
 subst hn
 exact LeV.sl (fun h=>h) (fun k hk o ho=>by obtain rfl:o = 0:=(by omega);exact LeV.of (h k hk).symm)
theorem k3 {p:Nat → Prop} (h0:p 0) (h1:p 1) (h2:p 2):∀ k,k < 3 → p k:=fun k hk=>by
 rcases (show k = 0 ∨ k = 1 ∨ k = 2 by omega) with rfl|rfl|rfl
 ·exact h0
 ·exact h1
 ·exact h2
theorem k4 {p:Nat → Prop} (h0:p 0) (h1:p 1) (h2:p 2) (h3:p 3):∀ k,k < 4 → p k:=fun k hk=>by
 rcases (show k = 0 ∨ k = 1 ∨ k = 2 ∨ k = 3 by omega) with rfl|rfl|rfl|rfl
 ·exact h0
 ·exact h1
 ·exact h2
 ·exact h3
theorem k6 {p:Nat → Prop} (h0:p 0) (h1:p 1) (h2:p 2) (h3:p 3) (h4:p 4) (h5:p 5):∀ k,k < 6 → p k:=fun k hk=>by
 rcases (show k = 0 ∨ k = 1 ∨ k = 2 ∨ k = 3 ∨ k = 4 ∨ k = 5 by omega) with rfl|rfl|rfl|rfl|rfl|rfl
 ·exact h0
 ·exact h1
 ·exact h2
 ·exact h3
 ·exact h4
 ·exact h5
theorem LeV.i {a:AV} {n:Int} (h:a = AI n):LeV a (AI n):=LeV.of h.symm
set_option maxHeartbeats 4000000
set_option maxRecDepth 100000
theorem example_ok : ACall Try.prog 19 [] [] (fun r h'=>r = .tup 2 (ofL [aCrew exF exC,exJv]) ∧ h' = []):=by
 (refine fcall_of mixed Try.func19 rfl (by decide) (hs:={}) ?k (ac:=?ac) ?c (rs:=?rs) ?r ?l ?H;(case k=>kernel_rfl);(case c=>(conv=>(lhs;cbv)));(case r=>(conv=>(lhs;cbv)));(case l=>exact Nat.le_of_ble_eq_true rfl))
 (repeat' ((try conv=>whnf);first|(with_reducible first|refine wT ?_|refine wF ?_|(refine wI (fun hq=>?_) (fun hq=>?_) <;> try simp only [zA,zE,zD,zJ,zB,zI,wK,wL] at hq)|refine wA ?_|refine wB ?_|refine wC ?_|refine wD ?_|refine wE ?_)|((with_reducible refine wN ?_ ?_);focus exact needA)|(with_reducible refine wG ?_)|(with_reducible refine wP ?_)))
 (try conv=>whnf)
 refine ⟨⟨.tup 2 (ofL [aCrew exF exC,exJv]),[],[],Cut.nil _,Ln.tupN ⟨⟨True.intro,Ln.aggN ⟨⟨⟨True.intro,Ln.A⟩,Ln.le _ _ True.intro (LeV.sl (fun h=>h) ?pe)⟩,Ln.sl _ _ _ _ _ _ _ (fun h=>h) ?la⟩⟩,Ln.sl _ _ _ _ _ _ _ (fun h=>h) ?jo⟩,rfl,rfl⟩⟩
 case la=>exact k4 (k3 rfl rfl rfl) (k3 rfl rfl rfl) (k3 rfl rfl rfl) (k3 rfl rfl rfl)
 case jo=>exact k3 (k6 rfl rfl rfl rfl rfl rfl) (k6 rfl rfl rfl rfl rfl rfl) (k6 rfl rfl rfl rfl rfl rfl)
 case pe=>exact k4 (k6 (LeV.ints rfl (k3 rfl rfl rfl)) (LeV.of rfl) (LeV.of rfl) (LeV.slz (fun h=>h)) (LeV.of rfl) (LeV.of rfl)) (k6 (LeV.ints rfl (k3 rfl rfl rfl)) (LeV.of rfl) (LeV.of rfl) (LeV.slz (fun h=>h)) (LeV.of rfl) (LeV.of rfl)) (k6 (LeV.ints rfl (k3 rfl rfl rfl)) (LeV.of rfl) (LeV.of rfl) (LeV.ints rfl (fun k hk=>by obtain rfl:k = 0:=(by omega);rfl)) (LeV.of rfl) (LeV.of rfl)) (k6 (LeV.ints rfl (k3 rfl rfl rfl)) (LeV.of rfl) (LeV.of rfl) (LeV.slz (fun h=>h)) (LeV.of rfl) (LeV.of rfl))
theorem ex_teamC : ACall Try.prog 14 [aCrew exF exC,aJob exJ0] [] (fun r h=>r = .tup 3 (ofL [AI 3,AI 90,AI 0]) ∧ h = []):=by
 have:=pteam_ok exF exC exJ0
 rwa [ex_team] at this
theorem ex_chainC : ACall Try.prog 15 [aCrew exF exC,aJob exJ0,AI 3] [] (fun r h=>r = .tup 2 (ofL [outI [0,1,2],AI 0]) ∧ h = []):=by
 have:=pchain_ok exF exC exJ0 3
 rwa [ex_chain] at this
theorem Ln.lit3 {σ:Nat → Nat → Prop} {Bp:Nat → Prop} {H:List AB} {c:Nat → Nat → AV} {a b x:Int} (h0:c 0 0 = AI a) (h1:c 1 0 = AI b) (h2:c 2 0 = AI x):Ln σ Bp H (.sl false true 3 1 c) (aInts false true [a,b,x]) :=
 Ln.sl _ _ _ _ _ _ _ (fun h=>h) fun k hk o ho=>by
  obtain rfl:o = 0:=by omega
  rcases (show k = 0 ∨ k = 1 ∨ k = 2 by omega) with rfl|rfl|rfl
  ·exact h0.symm
  ·exact h1.symm
  ·exact h2.symm
end Go.Proofs.Ytkejebdfbkgaiaa

namespace Go.Proofs.Ytkejebdfbkgaiaa
end Go.Proofs.Ytkejebdfbkgaiaa

namespace Go.Proofs.Ytkejebdfbkgaiaa
open Go.RowKit

abbrev cItem (x:Item):Nat → AV:=ofL [AI x.weight,AI x.most]
abbrev aItems (z e:Bool) (l:List Item):AV:=.sl z e l.length 2 (fun k=>cItem (l.getD k default))
abbrev cJudge (z e:Bool) (x:Judge):Nat → AV:=ofL [AI x.lo,AI x.hi,AI x.err,aInts z e x.marks]
abbrev aJudges (z e:Bool) (rz re:Nat → Bool) (l:List Judge):AV:=.sl z e l.length 4 (fun k=>cJudge (rz k) (re k) (l.getD k default))
structure PaF where
 zi:Bool
 ei:Bool
 zj:Bool
 ej:Bool
 zg:Bool
 eg:Bool
 rz:Nat → Bool
 re:Nat → Bool
abbrev cPaper (f:PaF) (p:Paper):Nat → AV:=ofL [aItems f.zi f.ei p.items,aJudges f.zj f.ej f.rz f.re p.judges,AI p.wrong,aInts f.zg f.eg p.grades]
abbrev aPaper (f:PaF) (p:Paper):AV:=.agg 4 (cPaper f p)
/-- The lengths are those of slices. -/
structure Sized (p:Paper):Prop where
 il:p.items.length ≤ 9223372036854775807
 jl:p.judges.length ≤ 9223372036854775807
 gl:p.grades.length ≤ 9223372036854775807
 ml:∀ k,k < p.judges.length → (p.judges.getD k default).marks.length ≤ 9223372036854775807
abbrev aRange (r:(Int × Int) × Int):AV:=.tup 2 (ofL [.agg 2 (ofL [AI r.1.1,AI r.1.2]),AI r.2])
end Go.Proofs.Ytkejebdfbkgaiaa

namespace Go.Proofs.Ytkejebdfbkgaiaa
open Go.RowKit

set_option maxHeartbeats 2000000 in
theorem checkR_head (iA jA gA : Option Addr) (ic jc gc : Nat) (p : Paper) (w : World) (_hil : p.items.length ≤ 9223372036854775807) (_hjl : p.judges.length ≤ 9223372036854775807) (_hgl : p.grades.length ≤ 9223372036854775807) (hh : headOk p = false) :
    Calls Try.prog 9 #[.agg #[.slice iA p.items.length ic, .slice jA p.judges.length jc, .int .i64 p.wrong, .slice gA p.grades.length gc]] w fun e w' => e = .returned (.int .i64 90) ∧ Ext w w' := by
  rcases headOk_false hh with h | ⟨h, h2⟩ | ⟨h, h2, h3⟩ | ⟨h, h2, h3, h4⟩
  all_goals
    clear hh
    generalize p.wrong = W at *
    generalize p.items.length = il at *
    generalize p.judges.length = jl at *
    generalize p.grades.length = gl at *
    go_enter Try.func9, Try.ntmps9
    go_wp2_with (go_at_call 21; refine (withinR' _ _ _ _).mono ?_; rintro e w' ⟨rfl, rfl⟩)
    go_ret
    exact ⟨rfl, Ext.of_alloc _ _⟩

set_option maxHeartbeats 8000000 in
set_option maxRecDepth 100000 in
theorem checkR_any (iA jA gA : Option Addr) (ic jc gc : Nat) (p : Paper) (w : World) (h : PaperAt w iA jA gA p) :
    Calls Try.prog 9 #[.agg #[.slice iA p.items.length ic, .slice jA p.judges.length jc, .int .i64 p.wrong, .slice gA p.grades.length gc]] w fun e w' => e = .returned (.int .i64 (checkE p)) ∧ Ext w w' := by
  cases hh : headOk p
  · rw [checkE_head hh]
    exact checkR_head iA jA gA ic jc gc p w h.il h.jl h.gl hh
  have hi := h.items
  have hj := h.judges
  have hg := h.grades
  obtain ⟨hh1, hh2, hh3, hh4⟩ := headOk_true hh
  have hil : p.items.length ≤ 4 := by have := wi_true hh1; omega
  have HHH := Lib.hid hh
  have hJ4 : (p.judges.length : Int) ≤ 4 := by omega
  have hG5 : (p.grades.length : Int) ≤ 5 := by omega
  clear h hh
  have HE1 := Lib.hid (fun k => checkE_item (p := p) (k := k))
  have HE2 := Lib.hid (fun k => checkE_judge (p := p) (k := k))
  have HE3 := Lib.hid (fun k => checkE_grade (p := p) (k := k))
  have HE4 := Lib.hid (checkE_ok (p := p) HHH.out)
  generalize checkE p = ce at *
  obtain ⟨I, J, W, G⟩ := p
  simp only at *
  go_enter Try.func9, Try.ntmps9
  go_wp2_with (go_at_call 21; refine (withinR' _ _ _ _).mono ?_; rintro e w' ⟨rfl, rfl⟩)
  -- the items
  go_loopw [3] (fun i wr' => ∃ k : Nat, k ≤ I.length ∧ i = .int .i64 k ∧ Ext (w.alloc (.cells #[.slice iA I.length ic, .slice jA J.length jc, .int .i64 W, .slice gA G.length gc] 43)) wr' ∧ allTo (fun j => itemOk (I.getD j default)) k) (fun i _ => I.length - (intOf i).toNat)
  case atStart => exact ⟨0, by omega, rfl, Ext.refl _, allTo_zero _⟩
  case round =>
    obtain ⟨k, hk, rfl, hE, hs⟩ := hrel
    have HS := Lib.hid hs
    have HE := Lib.hid hE
    have hbox := hE.box
    have hir := hi.ext hE.unalloc
    clear hs hE
    by_cases hlt : k < I.length
    · obtain ⟨b, off, x, y, rfl, hb, hc1, hc2, hx, hy⟩ := hir.get hlt
      have HI := Lib.hid (show itemOk (I.getD k default) = (wi x 0 10 && wi y 0 30) by unfold itemOk; rw [hx.out, hy.out])
      cases h1 : wi x 0 10
      · rw [h1] at HI
        go_wp2_with (go_at_call 21; refine (withinR' _ _ _ _).mono ?_; rintro e w' ⟨rfl, rfl⟩)
        go_ret
        exact ⟨ret_int (HE1.out k hlt HI.out).symm, HE.out.unalloc⟩
      · rw [h1] at HI
        cases h2 : wi y 0 30
        · rw [h2] at HI
          go_wp2_with (go_at_call 21; refine (withinR' _ _ _ _).mono ?_; rintro e w' ⟨rfl, rfl⟩)
          go_ret
          exact ⟨ret_int (HE1.out k hlt HI.out).symm, HE.out.unalloc⟩
        · rw [h2] at HI
          go_wp2_with (go_at_call 21; refine (withinR' _ _ _ _).mono ?_; rintro e w' ⟨rfl, rfl⟩)
          go_roundw
          case rel => exact ⟨k + 1, by omega, by go_num, HE.out, allTo_succ HS.out HI.out⟩
          case measure => simp [intOf]; omega
    · have HA1 := Lib.hid (show allTo (fun j => itemOk (I.getD j default)) I.length from fun j hj => HS.out j (by omega))
      clear HS hir hi
      go_wp2
      -- the judges
      obtain ⟨w1, hw1⟩ : ∃ w1 : World, w1 = wr := ⟨_, rfl⟩
      subst hw1
      go_loopw [4, 5, 6] (fun i _ _ wr' => ∃ k : Nat, k ≤ J.length ∧ i = .int .i64 k ∧ Ext (w.alloc (.cells #[.slice iA I.length ic, .slice jA J.length jc, .int .i64 W, .slice gA G.length gc] 43)) wr' ∧ allTo (fun j => judgeOk I.length (J.getD j default)) k) (fun i _ _ _ => J.length - (intOf i).toNat)
      case atStart => exact ⟨0, by omega, rfl, HE.out, allTo_zero _⟩
      case round =>
        clear hbox HE hlt hk
        obtain ⟨k, hk, rfl, hE, hs⟩ := hrel
        have HS := Lib.hid hs
        have HE := Lib.hid hE
        have hbox := hE.box
        have hjr := hj.ext hE.unalloc
        have hwl := hE.lt
        clear hs hE
        by_cases hlt : k < J.length
        · obtain ⟨b, off, lo, hi', err, ma, mA, mc, rfl, hb, hc1, hc2, hc3, hc4, hma, hml, hx⟩ := hjr.get hlt
          cases hj1 : judgeOk1 I.length ⟨lo, hi', err, ma⟩
          · have HF := Lib.hid (show judgeOk I.length (J.getD k default) = false by rw [hx.out, judgeOk, hj1]; rfl)
            rcases judgeOk1_false hj1 with q | ⟨q, q2⟩ | ⟨q, q2, q3⟩ | ⟨q, q2, q3, q4⟩ | ⟨q, q2, q3, q4, q5, q6⟩
            all_goals
              clear hj1
              try clear q6
              go_wp2_with (go_at_call 21; refine (withinR' _ _ _ _).mono ?_; rintro e w' ⟨rfl, rfl⟩)
              go_ret
              exact ⟨ret_int (HE2.out k hlt HF.out).symm, (HE.out.unalloc).alloc _⟩
          · obtain ⟨q, q2, q3, q4, q5, q6⟩ := judgeOk1_true hj1
            clear q6
            have HJ1 := Lib.hid hj1
            clear hj1
            go_wp2_with (go_at_call 21; refine (withinR' _ _ _ _).mono ?_; rintro e w' ⟨rfl, rfl⟩)
            obtain ⟨w2, hw2⟩ : ∃ w2 : World, w2 = wr := ⟨_, rfl⟩
            subst hw2
            go_loopw [6] (fun i wr' => ∃ m : Nat, m ≤ ma.length ∧ i = .int .i64 m ∧ Ext (w2.alloc (.cells #[.int .i64 lo, .int .i64 hi', .int .i64 err, .slice mA ma.length mc] 68)) wr' ∧ allTo (fun j => markOk (ma.getD j 0)) m) (fun i _ => ma.length - (intOf i).toNat)
            case atStart => exact ⟨0, by omega, rfl, Ext.refl _, allTo_zero _⟩
            case round =>
              obtain ⟨m, hm, rfl, hE2, hs2⟩ := hrel
              have HS2 := Lib.hid hs2
              have HE2' := Lib.hid hE2
              have hbox2 := hE2.box
              have hbox1 := (HE.out.trans hE2.unalloc).box
              have hmr := hma.ext hE2.unalloc
              clear hs2 hE2 hbox
              by_cases hlm : m < ma.length
              · obtain ⟨b2, o2, x, rfl, _, hcm, hxm⟩ := hmr.get hlm
                cases hx1 : wi x (-1) 50
                · have HX := Lib.hid (show markOk (ma.getD m 0) = false by rw [hxm.out]; exact hx1)
                  go_wp2_with (go_at_call 21; refine (withinR' _ _ _ _).mono ?_; rintro e w' ⟨rfl, rfl⟩)
                  go_ret
                  exact ⟨ret_int (HE2.out k hlt (by rw [hx.out, judgeOk, HJ1.out]; exact all_getD_false hlm HX.out)).symm, HE.out.unalloc.trans HE2'.out.unalloc⟩
                · have HX := Lib.hid (show markOk (ma.getD m 0) = true by rw [hxm.out]; exact hx1)
                  go_wp2_with (go_at_call 21; refine (withinR' _ _ _ _).mono ?_; rintro e w' ⟨rfl, rfl⟩)
                  go_roundw
                  case rel => exact ⟨m + 1, by omega, by go_num, HE2'.out, allTo_succ HS2.out HX.out⟩
                  case measure => simp [intOf]; omega
              · have HX := Lib.hid (show judgeOk I.length (J.getD k default) = true by rw [hx.out, judgeOk, HJ1.out]; exact (all_getD _ 0 _).2 (fun j hj => HS2.out j (by have : j < ma.length := hj; omega)))
                go_wp2
                go_roundw
                case rel => exact ⟨k + 1, by omega, by go_num, HE.out.trans HE2'.out.unalloc, allTo_succ HS.out HX.out⟩
                case measure => simp [intOf]; omega
        · have HA2 := Lib.hid (show allTo (fun j => judgeOk I.length (J.getD j default)) J.length from fun j hj => HS.out j (by omega))
          clear HS hjr hj
          go_wp2
          obtain ⟨w2, hw2⟩ : ∃ w2 : World, w2 = wr := ⟨_, rfl⟩
          subst hw2
          -- the grades
          go_loopw [7] (fun i wr' => ∃ k : Nat, k ≤ G.length ∧ i = .int .i64 k ∧ Ext (w.alloc (.cells #[.slice iA I.length ic, .slice jA J.length jc, .int .i64 W, .slice gA G.length gc] 43)) wr' ∧ allTo (gradeOk G) k) (fun i _ => G.length - (intOf i).toNat)
          case atStart => exact ⟨0, by omega, rfl, HE.out, allTo_zero _⟩
          case round =>
            clear hbox HE hlt hk
            obtain ⟨k, hk, rfl, hE, hs⟩ := hrel
            have HS := Lib.hid hs
            have HE := Lib.hid hE
            have hbox := hE.box
            have hgr := hg.ext hE.unalloc
            clear hs hE
            by_cases hlt : k < G.length
            · obtain ⟨b, off, x, rfl, hb, hc1, hx⟩ := hgr.get hlt
              cases h1 : wi x 0 1200
              · have HF := Lib.hid (show gradeOk G k = false by rw [gradeOk, hx.out, h1]; rfl)
                go_wp2
                go_quiet ((go_at_call 21; exact Calls.quiet_of_same (withinR _ _ _ _)))
                go_wp2
                go_ret
                exact ⟨ret_int (HE3.out k hlt HF.out).symm, HE.out.unalloc.drewN _⟩
              · by_cases hk0 : 0 < k
                · obtain ⟨b', off', x', hA', hb', hc1', hx'⟩ := hgr.get (show k - 1 < G.length by omega)
                  simp only [Option.some.injEq, Addr.mk.injEq, and_true] at hA'
                  obtain ⟨rfl, rfl⟩ := hA'
                  have hkk : (0 : Int) < (k : Int) := by omega
                  have e2 : IntKind.i64.wrap ((k : Int) - 1) = (k : Int) - 1 := IntWalk.i64_in _ (by omega)
                  have e3 : ((k : Int) - 1).toNat = k - 1 := by omega
                  have e4 : (0 : Int) ≤ (k : Int) - 1 := by omega
                  have e5 : (k : Int) - 1 < (G.length : Int) := by omega
                  by_cases hlx : x' < x
                  · have HX := Lib.hid (show gradeOk G k = true by rw [gradeOk, hx.out, hx'.out, h1]; simp [hlx])
                    go_wp2
                    go_quiet ((go_at_call 21; exact Calls.quiet_of_same (withinR _ _ _ _)))
                    clear e2 e3
                    go_wp2
                    go_roundw
                    case rel => exact ⟨k + 1, by omega, by go_num, HE.out.drewN _, allTo_succ HS.out HX.out⟩
                    case measure => simp [intOf]; omega
                  · have HX := Lib.hid (show gradeOk G k = false by rw [gradeOk, hx.out, hx'.out, h1]; simp [hlx]; omega)
                    go_wp2
                    go_quiet ((go_at_call 21; exact Calls.quiet_of_same (withinR _ _ _ _)))
                    clear e2 e3
                    go_wp2
                    go_ret
                    exact ⟨ret_int (HE3.out k hlt HX.out).symm, HE.out.unalloc.drewN _⟩
                · have HX := Lib.hid (show gradeOk G k = true by rw [gradeOk, hx.out, h1, show k = 0 by omega]; rfl)
                  have hd : decide ((0 : Int) < (k : Int)) = false := by simp; omega
                  go_wp2
                  go_quiet ((go_at_call 21; exact Calls.quiet_of_same (withinR _ _ _ _)))
                  go_wp2
                  go_roundw
                  case rel => exact ⟨k + 1, by omega, by go_num, HE.out.drewN _, allTo_succ HS.out HX.out⟩
                  case measure => simp [intOf]; omega
            · go_wp2
              go_ret
              exact ⟨ret_int (HE4.out HA1.out HA2.out (fun j hj => HS.out j (by omega))).symm, HE.out.unalloc⟩
end Go.Proofs.Ytkejebdfbkgaiaa

namespace Go.Proofs.Ytkejebdfbkgaiaa
open Go.RowKit

section
variable {M:Nat → Prop} {w:World} {g:GM} {v:Value}
theorem rep_ints {z e:Bool} {l:List Int} (h:rep M w (aInts z e l) g v):∃ A cap,v = .slice A l.length cap ∧ Ints w A l:=by
 obtain ⟨A,cap,rfl,-,-,-,-,h⟩:=h
 refine ⟨A,cap,rfl,fun k hk=>?_⟩
 obtain ⟨b,off,u,hA,hb,-,hc,-,hr⟩:=h k hk 0 (Nat.lt_succ_self 0)
 have hr:u = .int .i64 (l.getD k 0):=hr
 subst hr
 rw [Nat.mul_one] at hc
 exact ⟨b,off,hA,hb,hc⟩
theorem same_at {A:Option Addr} {b off b' off':Nat} (h:A = some ⟨b,off,none⟩) (h':A = some ⟨b',off',none⟩):b' = b ∧ off' = off:=by
 subst h
 cases h'
 exact ⟨rfl,rfl⟩
theorem rep_items {z e:Bool} {l:List Item} (h:rep M w (aItems z e l) g v):∃ A cap,v = .slice A l.length cap ∧ ItemsAt w A l:=by
 obtain ⟨A,cap,rfl,-,-,-,-,h⟩:=h
 refine ⟨A,cap,rfl,fun k hk=>?_⟩
 obtain ⟨b,off,u,hA,hb,-,hc,-,hr⟩:=h k hk 0 (by omega)
 obtain ⟨b',off',u',hA',-,-,hc',-,hr'⟩:=h k hk 1 (by omega)
 obtain ⟨rfl,rfl⟩:=same_at hA hA'
 have hr:u = .int .i64 (l.getD k default).weight:=hr
 have hr':u' = .int .i64 (l.getD k default).most:=hr'
 subst hr;subst hr'
 exact ⟨_,_,hA,hb,hc,hc'⟩
theorem rep_judges {z e:Bool} {rz re:Nat → Bool} {l:List Judge} (hl:∀ k,k < l.length → (l.getD k default).marks.length ≤ 9223372036854775807) (h:rep M w (aJudges z e rz re l) g v):∃ A cap,v = .slice A l.length cap ∧ JudgesAt w A l:=by
 obtain ⟨A,cap,rfl,-,-,-,-,h⟩:=h
 refine ⟨A,cap,rfl,fun k hk=>?_⟩
 obtain ⟨b,off,u,hA,hb,-,hc,-,hr⟩:=h k hk 0 (by omega)
 obtain ⟨b1,off1,u1,hA1,-,-,hc1,-,hr1⟩:=h k hk 1 (by omega)
 obtain ⟨b2,off2,u2,hA2,-,-,hc2,-,hr2⟩:=h k hk 2 (by omega)
 obtain ⟨b3,off3,u3,hA3,-,-,hc3,-,hr3⟩:=h k hk 3 (by omega)
 obtain ⟨rfl,rfl⟩:=same_at hA hA1
 obtain ⟨rfl,rfl⟩:=same_at hA hA2
 obtain ⟨rfl,rfl⟩:=same_at hA hA3
 have hr:u = .int .i64 (l.getD k default).lo:=hr
 have hr1:u1 = .int .i64 (l.getD k default).hi:=hr1
 have hr2:u2 = .int .i64 (l.getD k default).err:=hr2
 subst hr;subst hr1;subst hr2
 obtain ⟨mA,mc,rfl,hm⟩:=rep_ints (z:=rz k) (e:=re k) (l:=(l.getD k default).marks) hr3
 exact ⟨_,_,hA,hb,hc,hc1,hc2,mA,mc,hc3,hm,hl k hk⟩
theorem rep_paper {f:PaF} {p:Paper} (hs:Sized p) (h:rep M w (aPaper f p) g v):∃ iA ic jA jc gA gc,v = .agg #[.slice iA p.items.length ic,.slice jA p.judges.length jc,.int .i64 p.wrong,.slice gA p.grades.length gc] ∧ PaperAt w iA jA gA p:=by
 obtain ⟨cs,rfl,hz,h⟩:=h
 match cs,hz with
 | ⟨[a,b,c,d]⟩,_ =>
  obtain ⟨_,h0,-,r0⟩:=h 0 (by omega)
  obtain ⟨_,h1,-,r1⟩:=h 1 (by omega)
  obtain ⟨_,h2,-,r2⟩:=h 2 (by omega)
  obtain ⟨_,h3,-,r3⟩:=h 3 (by omega)
  cases h0;cases h1;cases h2;cases h3
  obtain ⟨iA,ic,ei,hi⟩:=rep_items (z:=f.zi) (e:=f.ei) r0
  obtain ⟨jA,jc,ej,hj⟩:=rep_judges (z:=f.zj) (e:=f.ej) (rz:=f.rz) (re:=f.re) hs.ml r1
  obtain ⟨gA,gc,eg,hg⟩:=rep_ints (z:=f.zg) (e:=f.eg) r3
  have r2:c = .int .i64 p.wrong:=r2
  subst ei;subst ej;subst eg;subst r2
  exact ⟨iA,ic,jA,jc,gA,gc,rfl,hi,hj,hg,hs.il,hs.jl,hs.gl⟩
end
theorem ext_tr {F:Nat → Prop} {g:GM} {w w':World} (k:HOK F g w []) (e:Ext w w'):Tr F g [] w g [] w':=by
 refine ⟨⟨k.dom,?_,?_,?_,?_,?_,?_,?_,fun b hb=>⟨Nat.lt_of_lt_of_le (k.fr b hb).1 e.size,(k.fr b hb).2⟩⟩,GM.le_refl _,⟨e.os,e.tape,e.output,e.size,fun b hb _=>e.block b hb⟩,fun _ h=>.inl h⟩
 ·rintro d ⟨x,hx,-⟩;cases hx
 ·rintro d d' b c c' ⟨x,hx,-⟩;cases hx
 ·intro d _ _ _ _ h;cases h
 ·intro d _ _ _ _ _ h;cases h
 ·intro d _ _ _ _ h;cases h
 ·intro d _ _ _ _ _ h;cases h
 ·intro d _ _ _ _ _ h;cases h
/-- A contract over worlds, with a plain result, read over abstract values. -/
theorem ACall.plain {f : FuncId} {xs : List AV} {R : AV} (hf : ∃ fn, Try.prog.funcs[f]? = some fn ∧ (fn.name == "runtime.NumGoroutine") = false ∧ fn.body.isNone = false)
  (H:∀ (M:Nat → Prop) (g:GM) (w:World) (vs:Array Value),vs.size = xs.length → (∀ (i:Nat) (x:AV),xs[i]? = some x → rep M w x g (vs.getD i undef)) → Calls Try.prog f vs w fun e w'=>∃ v,e = .returned v ∧ Ext w w' ∧ ∀ M g,rep M w' R g v):ACall Try.prog f xs [] (fun r h=>r = R ∧ h = []) :=
 ⟨hf,fun _ g w vs k hs hv=>(H _ g w vs hs hv).mono fun _ _ ⟨v,he,hE,hr⟩=>⟨v,R,[],g,he,ext_tr k hE,hr _ _,rfl,rfl⟩⟩
theorem ACall.paper {f : FuncId} {fl : PaF} {p : Paper} {R : AV} (hs : Sized p) (hf : ∃ fn, Try.prog.funcs[f]? = some fn ∧ (fn.name == "runtime.NumGoroutine") = false ∧ fn.body.isNone = false)
  (H:∀ iA jA gA ic jc gc w,PaperAt w iA jA gA p → Calls Try.prog f #[.agg #[.slice iA p.items.length ic,.slice jA p.judges.length jc,.int .i64 p.wrong,.slice gA p.grades.length gc]] w fun e w'=>∃ v,e = .returned v ∧ Ext w w' ∧ ∀ M g,rep M w' R g v):ACall Try.prog f [aPaper fl p] [] (fun r h=>r = R ∧ h = []) :=
 ACall.plain hf fun M g w vs hz hv=>by
  match vs,hz with
  | ⟨[v]⟩,_ =>
   obtain ⟨iA,ic,jA,jc,gA,gc,h1,h2⟩:=rep_paper hs (hv 0 _ rfl)
   have h1:v = _:=h1
   subst h1
   exact H iA jA gA ic jc gc w h2
theorem ACall.paperT {f : FuncId} {fl : PaF} {p : Paper} {z e : Bool} {t : List Int} {R : AV} (hs : Sized p) (hf : ∃ fn, Try.prog.funcs[f]? = some fn ∧ (fn.name == "runtime.NumGoroutine") = false ∧ fn.body.isNone = false)
  (H:∀ iA jA gA tA ic jc gc tc w,PaperAt w iA jA gA p → Ints w tA t → Calls Try.prog f #[.agg #[.slice iA p.items.length ic,.slice jA p.judges.length jc,.int .i64 p.wrong,.slice gA p.grades.length gc],.slice tA t.length tc] w fun e w'=>∃ v,e = .returned v ∧ Ext w w' ∧ ∀ M g,rep M w' R g v):ACall Try.prog f [aPaper fl p,aInts z e t] [] (fun r h=>r = R ∧ h = []) :=
 ACall.plain hf fun M g w vs hz hv=>by
  match vs,hz with
  | ⟨[v,u]⟩,_ =>
   obtain ⟨iA,ic,jA,jc,gA,gc,h1,h2⟩:=rep_paper hs (hv 0 _ rfl)
   obtain ⟨tA,tc,h3,h4⟩:=rep_ints (z:=z) (e:=e) (hv 1 _ rfl)
   have h1:v = _:=h1
   have h3:u = _:=h3
   subst h1;subst h3
   exact H iA jA gA tA ic jc gc tc w h2 h4
theorem check_ab {f:PaF} {p:Paper} (hs:Sized p):ACall Try.prog 9 [aPaper f p] [] (fun r h=>r = AI (checkE p) ∧ h = []) :=
 ACall.paper hs ⟨_,Try.func9,rfl,rfl⟩ fun iA jA gA ic jc gc w h=>(checkR_any iA jA gA ic jc gc p w h).mono fun _ _ ⟨he,hE⟩=>⟨_,he,hE,fun _ _=>rfl⟩
theorem possible_ab {f:PaF} {p:Paper} {z e:Bool} {t:List Int} (hs:Sized p) (hv:Valid p) (ht:t.length ≤ 9223372036854775807):ACall Try.prog 10 [aPaper f p,aInts z e t] [] (fun r h=>r = .bool (isPossible p t) ∧ h = []) :=
 ACall.paperT hs ⟨_,Try.func10,rfl,rfl⟩ fun iA jA gA tA ic jc gc tc w h h2=>(isPossible_any iA jA gA tA ic jc gc tc p t w h hv h2 ht).mono fun _ _ ⟨he,hE⟩=>⟨_,he,hE,fun _ _=>rfl⟩
theorem result_ab {f:PaF} {p:Paper} {z e:Bool} {t:List Int} (hs:Sized p) (hv:Valid p) (hp:isPossible p t = true):ACall Try.prog 13 [aPaper f p,aInts z e t] [] (fun r h=>r = AI (resultOf p t) ∧ h = []):=by
 have ht:=isTruth_iff.1 (possible_truth hp)
 have hl:=ht.1
 have hil:=hv.il
 exact ACall.paperT hs ⟨_,Try.func13,rfl,rfl⟩ fun iA jA gA tA ic jc gc tc w h h2=>(result_any iA jA gA tA ic jc gc tc p.judges.length p.grades.length p.wrong p t w h.items hil.2 h2 hl (fun k hk=>⟨(hv.it k (by omega)).1,(hv.it k (by omega)).2.1⟩) (fun k hk=>by have a:=ht.2 k hk;have b:=hv.it k (by omega);omega)).mono fun _ _ ⟨he,hE⟩=>⟨_,he,hE,fun _ _=>rfl⟩
end Go.Proofs.Ytkejebdfbkgaiaa

namespace Go.Proofs.Ytkejebdfbkgaiaa
open Go.RowKit

theorem only_cell {L : Loc} {w w' : World} (h : Only L w w') {b : Nat} (hb : b < w.heap.size) (h1 : b ≠ L.B) (h2 : b ≠ L.M) (h3 : b ≠ L.R) (i : Nat) : w'.cell? ⟨b, i, none⟩ = w.cell? ⟨b, i, none⟩ :=
  World.cell?_of_block (h.block b hb h1 h2 h3)
theorem SurvAt.ltM {W : World} {L : Loc} {p : Paper} {S : Surv} (h : SurvAt W L p S) : L.M < W.heap.size := h.map.lt
theorem SurvAt.ltR {W : World} {L : Loc} {p : Paper} {S : Surv} (h : SurvAt W L p S) : L.R < W.heap.size := h.right.lt

/-- Spans that are no block of the survey's. -/
structure Bias (L : Loc) (W : World) (A : Option Addr) (bs : List (Int × Int)) : Prop where
  sp : Spans W A bs
  ne : ∀ b off, A = some ⟨b, off, none⟩ → b ≠ L.B ∧ b ≠ L.M ∧ b ≠ L.R
theorem Bias.only {L : Loc} {W W' : World} {A : Option Addr} {bs : List (Int × Int)} (h : Bias L W A bs) (o : Only L W W') : Bias L W' A bs :=
  ⟨fun k hk => by
    obtain ⟨b, off, hA, hb, h1, h2⟩ := h.sp k hk
    obtain ⟨n1, n2, n3⟩ := h.ne b off hA
    exact ⟨b, off, hA, Nat.lt_of_lt_of_le hb o.size, (only_cell o hb n1 n2 n3 _).trans h1, (only_cell o hb n1 n2 n3 _).trans h2⟩, h.ne⟩

set_option maxHeartbeats 4000000 in
set_option maxRecDepth 100000 in
theorem end_no (L : Loc) (p : Paper) (S : Surv) (a b c d r : Int) (A : Option Addr) (cc : Nat) (bs : List (Int × Int)) (W : World) (h : SurvAt W L p S) (hb : Bias L W A bs) (hbl : bs.length ≤ 4) (hw : p.wrong < wrongN bs bs.length) :
    Calls Try.prog 67 #[.pointer (some ⟨L.B, 0, none⟩), .agg #[.int .i64 a, .int .i64 b, .int .i64 c, .int .i64 d], .int .i64 r, .slice A bs.length cc] W fun e W' => e = .returned (.tuple #[]) ∧
      SurvAt W' L p { S with fewest := min S.fewest (wrongN bs bs.length) } ∧ Only L W W' := by
  have H := Lib.hid h
  have HB := Lib.hid hb
  have HN := Lib.hid (wrongN_succ bs)
  have HL := Lib.hid (wrongN_le bs)
  have HZ := Lib.hid (show wrongN bs 0 = 0 from rfl)
  have HW := Lib.hid hw
  have HF := Lib.hid (fun W (h : SurvAt W L p S) (x : Int) => h.setFewest x)
  have HC := Lib.hid (fun W (h : SurvAt W L p S) => h.cell)
  have HFr := Lib.hid (fun W (h : SurvAt W L p S) => h.free)
  have HO := Lib.hid (fun W (x : Value) => Only.setCell W L ⟨L.B, 256, none⟩ x (.inl rfl))
  have hltB := h.ltB
  clear h hb hw
  obtain ⟨B, M, R, rc, iA, jA, gA, ic, jc, gc⟩ := L
  simp only at *
  go_enter Try.func67, Try.ntmps67
  go_wp2
  go_loopw [8, 17] (fun n i wr => ∃ k : Nat, k ≤ bs.length ∧ i = .int .i64 k ∧ n = .int .i64 (wrongN bs k) ∧ Ext W wr) (fun _ i _ => bs.length - (intOf i).toNat)
  case atStart => exact ⟨0, by omega, rfl, by rw [HZ.out]; rfl, Ext.of_alloc _ _⟩
  case round =>
    obtain ⟨k, hk, rfl, rfl, hE⟩ := hrel
    have HE := Lib.hid hE
    have hle := HL.out k
    have hbr := (HB.out.only (Only.of_ext hE)).sp
    clear hE
    by_cases hlt : k < bs.length
    · obtain ⟨b', off, x, y, rfl, _, hc1, hc2, hx⟩ := hbr.get hlt
      have HS := Lib.hid (HN.out k hlt)
      by_cases hxy : x ≤ y
      · go_wp2
        go_roundw
        case rel => exact ⟨k + 1, by omega, by go_num, by rw [HS.out, hx.out]; simp [hxy], HE.out.alloc _⟩
        case measure => simp [intOf]; omega
      · go_wp2
        go_roundw
        case rel => exact ⟨k + 1, by omega, by go_num, by rw [HS.out, hx.out]; simp [hxy], HE.out.alloc _⟩
        case measure => simp [intOf]; omega
    · obtain rfl : k = bs.length := by omega
      have hs := H.out.ext HE.out
      obtain ⟨c0, c1, c2, c3, c4, c5, c6, c7, _⟩ := HC.out _ hs
      have hf := HFr.out _ hs 256
      have hw := HW.out
      have hltB' : B < wr.heap.size := Nat.lt_of_lt_of_le hltB HE.out.size
      have HS := Lib.hid hs
      clear hs hbr
      go_wp2
      all_goals
        refine bodyPost_ret (results_none rfl _ _ _) rfl ⟨rfl, ?_, (Only.of_ext HE.out).trans (HO.out _ _)⟩
        first
        | (rw [show min S.fewest (wrongN bs bs.length : Int) = S.fewest from by omega]; exact HF.out _ HS.out _)
        | (rw [show min S.fewest (wrongN bs bs.length : Int) = (wrongN bs bs.length : Int) from by omega]; exact HF.out _ HS.out _)
end Go.Proofs.Ytkejebdfbkgaiaa
