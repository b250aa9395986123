/- Words that find their own proofs / Teams: crews, jobs and teams as plain data; what the document says of them / Teams: small functions. / Teams: what is valid, in the reference. / Teams: the reference's Allowed, May, Joins, Fee. -/
import Derived.Test.YtkejebdfbkgaiaaBa15
import Derived.Test.YtkejebdfbkgaiaaProg
import Derived.KernelRfl
set_option linter.unusedSimpArgs false
set_option linter.unusedVariables false
namespace Go.Proofs.Ytkejebdfbkgaiaa
open Go.RowKit

theorem FCond.tA {q:Bool} {A B:Prop} (a:A) (h:q = true:=by first|assumption|(rw [zA];omega)|(simp only [zA,zB,zC,zD,zE,zF,zG,ne_eq, *];done)|(simp only [zA,zB,zC,zD,zE,zF,zG,ne_eq];omega)|decide|fail):FCond q A B:=.t h a
theorem FCond.fA {q:Bool} {A B:Prop} (b:B) (h:q = false:=by first|assumption|(rw [zE];omega)|(simp only [zE,zH,zI,zJ,zA, *];done)|(simp only [zE,zH,zI,zJ,zA];omega)|decide|fail):FCond q A B:=.f h b
theorem needA {p:Prop} (h:p:=by first|omega|(unfold maxLen;omega)|(simp only [maxLen,List.length_cons,List.length_map,List.length_range,true_or,or_true,true_and,and_true] <;> omega)|((conv=>whnf);exact ⟨rfl⟩)|((conv=>whnf);(repeat ((first|with_reducible refine FCond.tA ?_|with_reducible refine FCond.fA ?_|with_reducible refine Need.mk (by omega) ?_|with_reducible refine FIdx.nat (by omega) ?_|with_reducible refine FIdx.int (by omega) ?_);(conv=>whnf)));exact ⟨rfl⟩)|fail):p:=h
theorem allA {p:Prop} (h:p:=by (repeat (first|exact True.intro|exact Ln.sameB _ rfl|exact Ln.sameB _ (by assumption)|exact Ln.slz _ _ _ _ _ _ _ (by decide)|exact Ln.bot _|exact Ln.own _ _ _ rfl|exact Ln.ptr _ _ _ rfl|exact Ln.rp _ _ _ _ _ rfl|exact Ln.mpv _ _ rfl|(refine Ln.int ?_;first|rfl|omega)|(refine Ln.ownE rfl ?_;omega)|(refine Ln.bool ?_;first|assumption|(simp;done))|exact Ln.pub _ _ _ _ _ _ (goneB rfl) rfl (by omega) (fun _ _ _ _=>rfl)|refine Ln.fnN ?_|refine Ln.aggN ?_|refine Ln.tupN ?_|refine ⟨?_,?_⟩))):p:=h
theorem Ln.A {σ:Nat → Nat → Prop} {Bp:Nat → Prop} {H:List AB} {v v':AV} (h:Ln σ Bp H v v':=by first|exact Ln.sameB _ rfl|exact Ln.sameB _ (by assumption)|exact Ln.slz _ _ _ _ _ _ _ (by decide)|exact Ln.bot _|exact Ln.own _ _ _ rfl|exact Ln.ptr _ _ _ rfl|exact Ln.rp _ _ _ _ _ rfl|exact Ln.mpv _ _ rfl|(refine Ln.int ?_;first|rfl|omega)|(refine Ln.ownE rfl ?_;omega)|(refine Ln.bool ?_;first|assumption|(simp;done))|exact Ln.pub _ _ _ _ _ _ (goneB rfl) rfl (by omega) (fun _ _ _ _=>rfl)|(refine Ln.fnN ?_;exact allA)|(refine Ln.aggN ?_;exact allA)|(refine Ln.tupN ?_;exact allA)|fail):Ln σ Bp H v v':=h
theorem LnB.mpS {σ:Nat → Nat → Prop} {Bp:Nat → Prop} {H:List AB} {kt:Nat} {L:List (List Int × AV)}:LnB σ Bp H (.mp kt L) (.mp kt L):=⟨rfl,rfl⟩
theorem LnB.mitS {σ:Nat → Nat → Prop} {Bp:Nat → Prop} {H:List AB} {d i n:Nat} {s:List Nat} (h:σ d i):LnB σ Bp H (.mit (.mpv d) n s) (.mit (.mpv i) n s):=⟨.mpv d i h,rfl,rfl⟩
theorem LnB.A {σ:Nat → Nat → Prop} {Bp:Nat → Prop} {H:List AB} {x y:AB} (h:LnB σ Bp H x y:=by first|exact LnB.rowS|exact LnB.mpS|exact LnB.mitS rfl|exact LnB.app (fun _ _ _ _=>rfl) (fun _ _=>rfl)|exact LnB.app (fun k hk=>absurd hk (Nat.not_lt_zero k)) (fun _ _=>rfl)|(refine LnB.boxN ?_;exact allA)|fail):LnB σ Bp H x y:=h
theorem Cut.A {N:Nat} {sel:List Nat} {h h2:List AB} (p:Cut N sel h h2:=by (refine Cut.of (Nat.le_of_ble_eq_true rfl) rfl rfl ?_;repeat (first|exact CutL.done|(refine CutL.turned rfl LnB.A ?_)|(refine CutL.gone (Nat.lt_of_lt_of_le (Nat.lt_succ_self _) (Nat.le_of_ble_eq_true rfl)) ?_)))):Cut N sel h h2:=p
theorem avB {a b:Bool} (h:a = b:=by (rw [Bool.eq_iff_iff];simp only [decide_eq_true_eq,Bool.false_eq_true,Bool.and_eq_true,Bool.or_eq_true,false_iff,true_iff,iff_true,iff_false];omega)):AV.bool a = AV.bool b:=congrArg AV.bool h
theorem FCond.i2 {q:Bool} {A B:Prop} (h1:q = true → FCond q A B) (h2:q = false → FCond q A B):FCond q A B:=by
 cases hq:q
 ·rw [hq] at h2;exact h2 rfl
 ·rw [hq] at h1;exact h1 rfl
theorem FCond.uT {q:Bool} {A B:Prop} (k:q = true → FCond q A B) (h:q = true:=by first|assumption|(rw [zA];omega)|(simp only [zA,zB,zC,zD,zE,zF,zG,ne_eq, *];done)|(simp only [zA,zB,zC,zD,zE,zF,zG,ne_eq];omega)|decide|fail):FCond q A B:=k h
theorem FCond.uF {q:Bool} {A B:Prop} (k:q = false → FCond q A B) (h:q = false:=by first|assumption|(rw [zE];omega)|(simp only [zE,zH,zI,zJ,zA, *];done)|(simp only [zE,zH,zI,zJ,zA];omega)|decide|fail):FCond q A B:=k h
/-- What several ways have in common is shown once. -/
structure Hold (A:Prop):Prop where
 h:A
theorem cutG {A B:Prop} (h:Hold A → B) (a:A):B:=h ⟨a⟩
structure LEndM3 {X Y Z:Type} (N:Nat) (S:X → Y → Z → List (Nat × AV)) (H:X → Y → Z → List AB) (Inv:X → Y → Z → Prop) (μ:X → Y → Z → Nat) (n:Nat) (e:Env) (h:List AB):Prop where
 ex:∃ x' y' z',Inv x' y' z' ∧ μ x' y' z' < n ∧ ∃ sel,Cut N sel h (H x' y' z') ∧ SlotsL sel h (H x' y' z') (S x' y' z') e
theorem FLoop.of3M {C:CallP} (hC:C.Mono) {N:Nat} {c:ACo} {Q:AEx → Env → List AB → Prop} {e:Env} {h:List AB} {X Y Z:Type} (S:X → Y → Z → List (Nat × AV)) (H:X → Y → Z → List AB) (Inv:X → Y → Z → Prop) (μ:X → Y → Z → Nat) (x0:X) (y0:Y) (z0:Z)
  (start:Inv x0 y0 z0 ∧ ∃ sel,Cut N sel h (H x0 y0 z0) ∧ SlotsL sel h (H x0 y0 z0) (S x0 y0 z0) e)
  (round:∀ x y z n,Inv x y z → μ x y z = n → fawp C N c (AEx.then (LEndM3 N S H Inv μ n) Q) (slots (S x y z)) (H x y z)):FLoop C N c Q e h :=
 FLoop.ofA hC (fun p:X × Y × Z=>S p.1 p.2.1 p.2.2) (fun p=>H p.1 p.2.1 p.2.2) (fun p=>Inv p.1 p.2.1 p.2.2) (fun p=>μ p.1 p.2.1 p.2.2) (x0,y0,z0) start fun p hp =>
  awp_mono hC c (then_mono fun _ _ ⟨x',y',z',h⟩=>⟨(x',y',z'),h⟩) (fawp_ok hC c (round p.1 p.2.1 p.2.2 _ hp rfl))

theorem wA {n : Int} {K : Int → Prop} (k : K n) (h : -9223372036854775808 ≤ n ∧ n ≤ 9223372036854775807 := by omega) : Fits .i64 n K := Fits.in64 h k
theorem wB {k n : Nat} {K : Nat → Prop} (h : K k) (hk : k < n := by omega) : FIdx (k : Int) n K := FIdx.nat hk h
theorem wC {j : Int} {n : Nat} {K : Nat → Prop} (h : K j.toNat) (hj : 0 ≤ j ∧ j < n := by omega) : FIdx j n K := ⟨hj, h⟩
theorem wD {k n : Nat} {K : Nat → Prop} (h : K k) (hk : k ≤ n := by omega) : FTo (k : Int) n K := FTo.nat hk h
theorem wE {j : Int} {n : Nat} {K : Nat → Prop} (h : K j.toNat) (hj : 0 ≤ j ∧ j ≤ n := by omega) : FTo j n K := ⟨hj, h⟩
theorem wK {a b : Int} : ¬a ≤ b ↔ b < a := Int.not_le
theorem wL {a b : Int} : ¬a < b ↔ b ≤ a := Int.not_lt
theorem wT {q : Bool} {A B : Prop} (a : A) (h : q = true := by first | assumption | (rw [zA]; omega) | (simp only [zA, zB, zC, zD, zE, zF, zG, ne_eq, *]; done) | (simp only [zA, zB, zC, zD, zE, zF, zG, ne_eq]; omega) | decide | fail) : FCond q A B := FCond.t h a
theorem wF {q : Bool} {A B : Prop} (b : B) (h : q = false := by first | assumption | (rw [zE]; omega) | (simp only [zE, zH, zI, zJ, zA, *]; done) | (simp only [zE, zH, zI, zJ, zA]; omega) | decide | fail) : FCond q A B := FCond.f h b
theorem wI {q : Bool} {A B : Prop} (h1 : q = true → A) (h2 : q = false → B) : FCond q A B := FCond.i h1 h2
theorem wJ {q : Bool} {A B : Prop} (h1 : q = true → FCond q A B) (h2 : q = false → FCond q A B) : FCond q A B := FCond.i2 h1 h2
theorem wN {p K : Prop} (a : p) (b : K) : Need p K := ⟨a, b⟩
theorem wG {A B : Prop} (h : A) : FApp A B := FApp.grow h
theorem wP {A B : Prop} (a : A) : FOr A B := .pub a
theorem wV {sel : List Nat} {h h2 : List AB} {d : Nat} {x y : AB} {ds : List Nat} {ys : List AB} (hd : h[d]? = some x) (hx : LnB (fun d i => sel[i]? = some d) (fun d => ∀ i, sel[i]? = some d → ¬ live h2 i) h x y) (hr : CutL sel h h2 ds ys) : CutL sel h h2 (d :: ds) (y :: ys) := CutL.turned hd hx hr
theorem wX {sel : List Nat} {h h2 : List AB} : CutL sel h h2 [] [] := CutL.done
theorem wO {N : Nat} {sel : List Nat} {h h2 : List AB} (hN : Nat.ble N h2.length = true) (hid : idsB N sel = true) (hnd : nodupB sel = true) (hc : CutL sel h h2 sel h2) : Cut N sel h h2 := Cut.of (Nat.le_of_ble_eq_true hN) hid hnd hc
end Go.Proofs.Ytkejebdfbkgaiaa

namespace Go.Proofs.Ytkejebdfbkgaiaa

structure Person where
 levels:List Int
 fields:Int
 clears:Int
 ties:List Int
 deaf:Bool
 fee:Int
 deriving Inhabited
structure LawT where
 level:Int
 size:Int
 deaf:Bool
 deriving Inhabited
structure Crew where
 langs:Int
 people:List Person
 laws:List LawT
structure Job where
 fr:Int
 to:Int
 client:Int
 field:Int
 kind:Int
 size:Int
def ps0 : Person:=⟨[],0,0,[],false,0⟩
def lw0 : LawT:=⟨0,0,false⟩
abbrev inB (n lo hi:Int):Bool:=decide (lo ≤ n ∧ n ≤ hi)
def Person.ok (langs:Int) (p:Person):Bool:=decide ((p.levels.length:Int) = langs) && p.levels.all (fun n=>inB n 0 5) && inB p.fields 0 255 && inB p.clears 0 255 && decide (p.ties.length ≤ 10) && p.ties.all (fun n=>inB n 0 99) && inB p.fee 0 1000
def LawT.ok (l:LawT):Bool:=inB l.level 1 5 && inB l.size 1 8
def Crew.ok (c:Crew):Bool:=inB c.langs 2 5 && decide (c.people.length ≤ 8) && decide (c.laws.length = 4) && c.people.all (Person.ok c.langs) && c.laws.all LawT.ok
def Job.ok (c:Crew) (j:Job):Bool:=inB j.fr 0 (c.langs - 1) && inB j.to 0 (c.langs - 1) && decide (j.fr ≠ j.to) && inB j.client 0 99 && inB j.field 0 7 && inB j.kind 0 3 && inB j.size 1 8
def checkT (c:Crew) (j:Job):Int:=if c.ok then (if Job.ok c j then 0 else 31) else 30
/-- How many of the first bits are set. -/
def popN : Nat → Nat → Nat
 | 0,_=>0
 | f + 1,s=>s % 2 + popN f (s / 2)
def pop (s:Nat):Nat:=popN 8 s
theorem pop_and : ∀ s:Nat,s < 256 → 0 < s → pop (s &&& (s - 1)) + 1 = pop s:=by
 have:∀ s:_root_.Fin 256,0 < s.val → pop (s.val &&& (s.val - 1)) + 1 = pop s.val:=by decide +kernel
 intro s hs h0
 exact this ⟨s,hs⟩ h0
theorem popN_le : ∀ f s,popN f s ≤ f
 | 0,_=>Nat.le_refl _
 | f + 1,s=>by
  have:=popN_le f (s / 2)
  simp only [popN];omega
theorem popN_zero : ∀ f,popN f 0 = 0
 | 0=>rfl
 | f + 1=>by simp only [popN,Nat.zero_div,popN_zero f]
def tiedT (p:Person) (client:Int):Bool:=p.ties.any (fun x=>decide (x = client))
def Person.may (p:Person) (j:Job):Bool:=!tiedT p j.client && p.fields.toNat.testBit j.field.toNat && p.clears.toNat.testBit j.kind.toNat
def mayL (c:Crew) (j:Job):List Int:=((List.range c.people.length).filter fun i=>(c.people.getD i ps0).may j).map fun (i:Nat)=>(i:Int)
def memb (c:Crew) (team:Nat):List Nat:=(List.range c.people.length).filter fun i=>team.testBit i
def joinsT (c:Crew) (team:Nat) (level:Int) (a b:Nat):Bool:=(memb c team).any fun i=>decide (level ≤ (c.people.getD i ps0).levels.getD a 0) && decide (level ≤ (c.people.getD i ps0).levels.getD b 0)
def feeT (c:Crew) (team:Nat):Int:=((memb c team).map fun i=>(c.people.getD i ps0).fee).sum
end Go.Proofs.Ytkejebdfbkgaiaa

namespace Go.Proofs.Ytkejebdfbkgaiaa
open Go.RowKit

theorem mixed : Try.prog.follows .mixedOrders = true:=by kernel_rfl
abbrev AI (n:Int):AV:=.int .i64 n
abbrev AU (n:Nat):AV:=.int .u64 n
abbrev aInts (z e:Bool) (l:List Int):AV:=.sl z e l.length 1 (fun k _=>AI (l.getD k 0))
abbrev nilS : AV:=.sl true true 0 0 (fun _ _=>.bot)
structure PFl where
 zl:Bool
 el:Bool
 zt:Bool
 et:Bool
structure CFl where
 zp:Bool
 ep:Bool
 zw:Bool
 ew:Bool
 pf:Nat → PFl
abbrev cPerson (g:PFl) (p:Person):Nat → AV:=ofL [aInts g.zl g.el p.levels,AI p.fields,AI p.clears,aInts g.zt g.et p.ties,.bool p.deaf,AI p.fee]
abbrev aPerson (g:PFl) (p:Person):AV:=.agg 6 (cPerson g p)
abbrev aPeople (z e:Bool) (pf:Nat → PFl) (l:List Person):AV:=.sl z e l.length 6 (fun k=>cPerson (pf k) (l.getD k ps0))
abbrev cLaw (x:LawT):Nat → AV:=ofL [AI x.level,AI x.size,.bool x.deaf]
abbrev aLaw (x:LawT):AV:=.agg 3 (cLaw x)
abbrev aLaws (z e:Bool) (l:List LawT):AV:=.sl z e l.length 3 (fun k=>cLaw (l.getD k lw0))
abbrev cCrew (f:CFl) (c:Crew):Nat → AV:=ofL [AI c.langs,aPeople f.zp f.ep f.pf c.people,aLaws f.zw f.ew c.laws]
abbrev aCrew (f:CFl) (c:Crew):AV:=.agg 3 (cCrew f c)
abbrev cJob (j:Job):Nat → AV:=ofL [AI j.fr,AI j.to,AI j.client,AI j.field,AI j.kind,AI j.size]
abbrev aJob (j:Job):AV:=.agg 6 (cJob j)
abbrev cTask (f:CFl) (c:Crew) (j:Job) (x:LawT):Nat → AV:=ofL [AI c.langs,aPeople f.zp f.ep f.pf c.people,aLaws f.zw f.ew c.laws,AI j.fr,AI j.to,AI j.client,AI j.field,AI j.kind,AI j.size,AI x.level,AI x.size,.bool x.deaf]
abbrev pTask (f:CFl) (c:Crew) (j:Job) (x:LawT):AV:=.ip 12 (cTask f c j x) 0
theorem int_eq {k:IntKind} {a b:Int} (h:a = b):AV.int k a = AV.int k b:=by rw [h]
theorem drop_eq {α:Type} {l:List α} {i:Nat} (d:α) (h:i < l.length):l.drop i = l.getD i d :: l.drop (i + 1):=by
 rw [List.drop_eq_getElem_cons h];simp [List.getD,List.getElem?_eq_getElem h]
theorem all_step {α:Type} {p:α → Bool} {l:List α} {i:Nat} (d:α) (h:i < l.length) (e:l.all p = (l.drop i).all p) (hp:p (l.getD i d) = true):l.all p = (l.drop (i + 1)).all p:=by
 rw [e,drop_eq d h,List.all_cons,hp,Bool.true_and]
theorem all_no {α:Type} {p:α → Bool} {l:List α} {i:Nat} (d:α) (h:i < l.length) (e:l.all p = (l.drop i).all p) (hp:p (l.getD i d) = false):l.all p = false:=by
 rw [e,drop_eq d h,List.all_cons,hp,Bool.false_and]
theorem all_end {α:Type} {p:α → Bool} {l:List α} {i:Nat} (h:l.length ≤ i) (e:l.all p = (l.drop i).all p):l.all p = true:=by
 rw [e,List.drop_eq_nil_of_le h];rfl

set_option maxHeartbeats 4000000
set_option maxRecDepth 100000
theorem within_ok (n lo hi:Int):ACall Try.prog 33 [AI n,AI lo,AI hi] [] (fun r h=>r = .bool (inB n lo hi) ∧ h = []):=by
 (refine fcall_of mixed Try.func33 rfl (by decide) (hs:={}) ?k (ac:=?ac) ?c (rs:=?rs) ?r ?l ?H;(case k=>kernel_rfl);(case c=>(conv=>(lhs;cbv)));(case r=>(conv=>(lhs;cbv)));(case l=>exact Nat.le_of_ble_eq_true rfl))
 (repeat' ((try conv=>whnf);first|(with_reducible first|refine wT ?_|refine wF ?_|(refine wI (fun hq=>?_) (fun hq=>?_) <;> try simp only [zA,zE,zD,zJ,zB,zI,wK,wL] at hq)|refine wA ?_|refine wB ?_|refine wC ?_|refine wD ?_|refine wE ?_)|((with_reducible refine wN ?_ ?_);focus exact needA)|(with_reducible refine wG ?_)|(with_reducible refine wP ?_)))
 all_goals ((refine ⟨⟨_,[],[],Cut.nil _,Ln.sameB _ rfl,?_,rfl⟩⟩);unfold inB;(exact avB))
theorem pwithin_ok (n lo hi:Int):ACall Try.prog 41 [AI n,AI lo,AI hi] [] (fun r h=>r = .bool (inB n lo hi) ∧ h = []):=by
 (refine fcall_of mixed Try.func41 rfl (by decide) (hs:={}) ?k (ac:=?ac) ?c (rs:=?rs) ?r ?l ?H;(case k=>kernel_rfl);(case c=>(conv=>(lhs;cbv)));(case r=>(conv=>(lhs;cbv)));(case l=>exact Nat.le_of_ble_eq_true rfl))
 (repeat' ((try conv=>whnf);first|(with_reducible first|refine wT ?_|refine wF ?_|(refine wI (fun hq=>?_) (fun hq=>?_) <;> try simp only [zA,zE,zD,zJ,zB,zI,wK,wL] at hq)|refine wA ?_|refine wB ?_|refine wC ?_|refine wD ?_|refine wE ?_)|((with_reducible refine wN ?_ ?_);focus exact needA)|(with_reducible refine wG ?_)|(with_reducible refine wP ?_)))
 all_goals ((refine ⟨⟨_,[],[],Cut.nil _,Ln.sameB _ rfl,?_,rfl⟩⟩);unfold inB;(exact avB))
theorem phas_ok (s n:Nat) (hn:n ≤ 64):ACall Try.prog 55 [AU s,AI n] [] (fun r h=>r = .bool (s.testBit n) ∧ h = []):=by
 (refine fcall_of mixed Try.func55 rfl (by decide) (hs:={}) ?k (ac:=?ac) ?c (rs:=?rs) ?r ?l ?H;(case k=>kernel_rfl);(case c=>(conv=>(lhs;cbv)));(case r=>(conv=>(lhs;cbv)));(case l=>exact Nat.le_of_ble_eq_true rfl))
 (repeat' ((try conv=>whnf);first|(with_reducible first|refine wT ?_|refine wF ?_|(refine wI (fun hq=>?_) (fun hq=>?_) <;> try simp only [zA,zE,zD,zJ,zB,zI,wK,wL] at hq)|refine wA ?_|refine wB ?_|refine wC ?_|refine wD ?_|refine wE ?_)|((with_reducible refine wN ?_ ?_);focus exact needA)|(with_reducible first|refine FBit.hasT rfl (by assumption) ?_|refine FBit.hasF rfl (by assumption) ?_|refine FBit.shrN rfl (by omega) ?_|refine FBit.half rfl ?_|refine FBit.shl1 rfl (by omega) ?_|refine Fits.inU (by omega) ?_|refine FBit.shrNI rfl (by omega) ?_|refine FBit.shrIN rfl (by omega) (by omega) ?_|refine FBit.shrI rfl (by omega) (by omega) ?_|refine FBit.shl1I rfl (by omega) ?_)|(with_reducible refine FBit.has rfl (fun hq=>?_) (fun hq=>?_))|(with_reducible first|refine FBit.and1 rfl ?_|refine FBit.andN rfl (by omega) (by omega) ?_|refine FBit.orN rfl (by omega) (by omega) ?_|refine FBit.andNotN rfl (by omega) (by omega) ?_)|(with_reducible refine wG ?_)|(with_reducible refine wP ?_)))
 all_goals ((refine ⟨⟨_,[],[],Cut.nil _,Ln.sameB _ rfl,?_,rfl⟩⟩);rw [hq];rfl)
theorem psize_ok (s:Nat) (hs:s < 256):ACall Try.prog 40 [AU s] [] (fun r h=>r = AI (pop s:Nat) ∧ h = []):=by
 (refine fcall_of mixed Try.func40 rfl (by decide) (hs:={}) ?k (ac:=?ac) ?c (rs:=?rs) ?r ?l ?H;(case k=>kernel_rfl);(case c=>(conv=>(lhs;cbv)));(case r=>(conv=>(lhs;cbv)));(case l=>exact Nat.le_of_ble_eq_true rfl))
 (repeat' ((try conv=>whnf);first|(with_reducible first|refine wT ?_|refine wF ?_|(refine wI (fun hq=>?_) (fun hq=>?_) <;> try simp only [zA,zE,zD,zJ,zB,zI,wK,wL] at hq)|refine wA ?_|refine wB ?_|refine wC ?_|refine wD ?_|refine wE ?_)|((with_reducible refine wN ?_ ?_);focus exact needA)|(with_reducible first|refine FBit.hasT rfl (by assumption) ?_|refine FBit.hasF rfl (by assumption) ?_|refine FBit.shrN rfl (by omega) ?_|refine FBit.half rfl ?_|refine FBit.shl1 rfl (by omega) ?_|refine Fits.inU (by omega) ?_|refine FBit.shrNI rfl (by omega) ?_|refine FBit.shrIN rfl (by omega) (by omega) ?_|refine FBit.shrI rfl (by omega) (by omega) ?_|refine FBit.shl1I rfl (by omega) ?_)|(with_reducible refine FBit.has rfl (fun hq=>?_) (fun hq=>?_))|(with_reducible first|refine FBit.and1 rfl ?_|refine FBit.andN rfl (by omega) (by omega) ?_|refine FBit.orN rfl (by omega) (by omega) ?_|refine FBit.andNotN rfl (by omega) (by omega) ?_)|(with_reducible refine wG ?_)|(with_reducible refine wP ?_)))
 refine FLoop.of2 (ACalls.mono _) (fun (x n:Nat)=>[(0,AU x),(2,AI n)]) (fun _ _=>[]) (fun x n=>n + pop x = pop s ∧ x < 256) (fun x _=>x) s 0 ⟨⟨by omega,hs⟩,[],Cut.nil _,allA⟩ ?_
 rintro x n ⟨h1,h2⟩
 have hps:=popN_le 8 s
 unfold pop at *
 by_cases h0:0 < x
 ·have hpa:=pop_and x h2 h0
  unfold pop at hpa
  obtain ⟨y,hy⟩:∃ y,x = y + 1:=⟨x - 1,by omega⟩
  (repeat' ((try conv=>whnf);first|(with_reducible first|refine wT ?_|refine wF ?_|(refine wI (fun hq=>?_) (fun hq=>?_) <;> try simp only [zA,zE,zD,zJ,zB,zI,wK,wL] at hq)|refine wA ?_|refine wB ?_|refine wC ?_|refine wD ?_|refine wE ?_)|((with_reducible refine wN ?_ ?_);focus exact needA)|(with_reducible first|refine FBit.hasT rfl (by assumption) ?_|refine FBit.hasF rfl (by assumption) ?_|refine FBit.shrN rfl (by omega) ?_|refine FBit.half rfl ?_|refine FBit.shl1 rfl (by omega) ?_|refine Fits.inU (by omega) ?_|refine FBit.shrNI rfl (by omega) ?_|refine FBit.shrIN rfl (by omega) (by omega) ?_|refine FBit.shrI rfl (by omega) (by omega) ?_|refine FBit.shl1I rfl (by omega) ?_)|(with_reducible refine FBit.has rfl (fun hq=>?_) (fun hq=>?_))|(with_reducible first|refine FBit.and1 rfl ?_|refine FBit.andN rfl (by omega) (by omega) ?_|refine FBit.orN rfl (by omega) (by omega) ?_|refine FBit.andNotN rfl (by omega) (by omega) ?_)|(with_reducible refine wG ?_)|(refine FBit.andI rfl (b:=x - 1) rfl (by omega) (by omega) (by omega) ?_)|(with_reducible refine wP ?_)))
  (try conv=>whnf)
  have hlt:x &&& (x - 1) ≤ x - 1:=Nat.and_le_right
  refine ⟨⟨x &&& (x - 1),n + 1,⟨by omega,by omega⟩,(by show _ < _;omega),[],Cut.nil _,allA⟩⟩
 ·obtain rfl:x = 0:=by omega
  (repeat' ((try conv=>whnf);first|(with_reducible first|refine wT ?_|refine wF ?_|(refine wI (fun hq=>?_) (fun hq=>?_) <;> try simp only [zA,zE,zD,zJ,zB,zI,wK,wL] at hq)|refine wA ?_|refine wB ?_|refine wC ?_|refine wD ?_|refine wE ?_)|((with_reducible refine wN ?_ ?_);focus exact needA)|(with_reducible first|refine FBit.hasT rfl (by assumption) ?_|refine FBit.hasF rfl (by assumption) ?_|refine FBit.shrN rfl (by omega) ?_|refine FBit.half rfl ?_|refine FBit.shl1 rfl (by omega) ?_|refine Fits.inU (by omega) ?_|refine FBit.shrNI rfl (by omega) ?_|refine FBit.shrIN rfl (by omega) (by omega) ?_|refine FBit.shrI rfl (by omega) (by omega) ?_|refine FBit.shl1I rfl (by omega) ?_)|(with_reducible refine FBit.has rfl (fun hq=>?_) (fun hq=>?_))|(with_reducible first|refine FBit.and1 rfl ?_|refine FBit.andN rfl (by omega) (by omega) ?_|refine FBit.orN rfl (by omega) (by omega) ?_|refine FBit.andNotN rfl (by omega) (by omega) ?_)|(with_reducible refine wG ?_)|(with_reducible refine wP ?_)))
  (try conv=>whnf)
  (refine ⟨⟨_,[],[],Cut.nil _,Ln.sameB _ rfl,?_,rfl⟩⟩)
  exact int_eq (by rw [popN_zero] at h1;omega)
end Go.Proofs.Ytkejebdfbkgaiaa

namespace Go.Proofs.Ytkejebdfbkgaiaa
open Go.RowKit

theorem bool_eq {a b:Bool} (h:a = b):AV.bool a = AV.bool b:=by rw [h]
theorem not_of {b : Bool} (h : b = true → False) : b = false := by cases b; · rfl
                                                                   · exact (h rfl).elim
set_option maxHeartbeats 4000000
set_option maxRecDepth 100000
theorem isCrew_ok (f:CFl) (c:Crew):ACall Try.prog 17 [aCrew f c] [] (fun r h=>r = .bool c.ok ∧ h = []):=by
 (refine fcall_of mixed Try.func17 rfl (by decide) (hs:={}) ?k (ac:=?ac) ?c (rs:=?rs) ?r ?l ?H;(case k=>kernel_rfl);(case c=>(conv=>(lhs;cbv)));(case r=>(conv=>(lhs;cbv)));(case l=>exact Nat.le_of_ble_eq_true rfl))
 (repeat' ((try conv=>whnf);first|(with_reducible first|refine wT ?_|refine wF ?_|(refine wI (fun hq=>?_) (fun hq=>?_) <;> try simp only [zA,zE,zD,zJ,zB,zI,wK,wL] at hq)|refine wA ?_|refine wB ?_|refine wC ?_|refine wD ?_|refine wE ?_)|((with_reducible refine wN ?_ ?_);focus exact needA)|(with_reducible refine wG ?_)|(refine FCall.pure ((within_ok _ _ _)) ⟨Ln.sameB _ rfl,Ln.sameB _ rfl,Ln.sameB _ rfl,True.intro⟩ rfl ?_)|(with_reducible refine wP ?_)))
 all_goals (try conv=>whnf)
 rotate_right 1
 ·refine FLoop.of (ACalls.mono _) (X:=Nat) (fun i=>[(1,.ptr 0 0),(3,AI i)]) (fun _=>[.box 3 (cCrew f c)]) (fun i=>i ≤ c.people.length ∧ c.people.all (Person.ok c.langs) = (c.people.drop i).all (Person.ok c.langs)) (fun i=>c.people.length - i) 0 ⟨⟨by omega,rfl⟩,[0],Cut.A,allA⟩ ?_
  rintro i ⟨hi,hL⟩
  (repeat' ((try conv=>whnf);first|(with_reducible first|refine wT ?_|refine wF ?_|(refine wI (fun hq=>?_) (fun hq=>?_) <;> try simp only [zA,zE,zD,zJ,zB,zI,wK,wL] at hq)|refine wA ?_|refine wB ?_|refine wC ?_|refine wD ?_|refine wE ?_)|((with_reducible refine wN ?_ ?_);focus exact needA)|(with_reducible refine wG ?_)|(refine FCall.pure ((within_ok _ _ _)) ⟨Ln.sameB _ rfl,Ln.sameB _ rfl,Ln.sameB _ rfl,True.intro⟩ rfl ?_)|(with_reducible refine wP ?_)))
  all_goals (try conv=>whnf)
  rotate_right 2
  ·refine FLoop.of (ACalls.mono _) (X:=Nat) (fun k=>[(1,.ptr 0 0),(3,AI i),(4,.ptr 1 0),(5,AI k)]) (fun _=>[.box 3 (cCrew f c),.box 6 (cPerson (f.pf i) (c.people.getD i ps0))]) (fun k=>k ≤ (c.people.getD i ps0).levels.length ∧ (c.people.getD i ps0).levels.all (fun n=>inB n 0 5) = ((c.people.getD i ps0).levels.drop k).all (fun n=>inB n 0 5)) (fun k=>(c.people.getD i ps0).levels.length - k) 0 ⟨⟨by omega,rfl⟩,[0,1],Cut.A,allA⟩ ?_
   rintro k ⟨hk,hL2⟩
   (repeat' ((try conv=>whnf);first|(with_reducible first|refine wT ?_|refine wF ?_|(refine wI (fun hq=>?_) (fun hq=>?_) <;> try simp only [zA,zE,zD,zJ,zB,zI,wK,wL] at hq)|refine wA ?_|refine wB ?_|refine wC ?_|refine wD ?_|refine wE ?_)|((with_reducible refine wN ?_ ?_);focus exact needA)|(with_reducible refine wG ?_)|(refine FCall.pure ((within_ok _ _ _)) ⟨Ln.sameB _ rfl,Ln.sameB _ rfl,Ln.sameB _ rfl,True.intro⟩ rfl ?_)|(with_reducible refine wP ?_)))
   all_goals (try conv=>whnf)
   rotate_right 1
   ·have hA:=all_end (by omega) hL2
    refine FLoop.of (ACalls.mono _) (X:=Nat) (fun k=>[(1,.ptr 0 0),(3,AI i),(4,.ptr 1 0),(6,AI k)]) (fun _=>[.box 3 (cCrew f c),.box 6 (cPerson (f.pf i) (c.people.getD i ps0))]) (fun k=>k ≤ (c.people.getD i ps0).ties.length ∧ (c.people.getD i ps0).ties.all (fun n=>inB n 0 99) = ((c.people.getD i ps0).ties.drop k).all (fun n=>inB n 0 99)) (fun k=>(c.people.getD i ps0).ties.length - k) 0 ⟨⟨by omega,rfl⟩,[0,1],Cut.A,allA⟩ ?_
    rintro k ⟨hk,hL3⟩
    (repeat' ((try conv=>whnf);first|(with_reducible first|refine wT ?_|refine wF ?_|(refine wI (fun hq=>?_) (fun hq=>?_) <;> try simp only [zA,zE,zD,zJ,zB,zI,wK,wL] at hq)|refine wA ?_|refine wB ?_|refine wC ?_|refine wD ?_|refine wE ?_)|((with_reducible refine wN ?_ ?_);focus exact needA)|(with_reducible refine wG ?_)|(refine FCall.pure ((within_ok _ _ _)) ⟨Ln.sameB _ rfl,Ln.sameB _ rfl,Ln.sameB _ rfl,True.intro⟩ rfl ?_)|(with_reducible refine wP ?_)))
    all_goals (try conv=>whnf)
    rotate_right 1
    ·have hB:=all_end (by omega) hL3
     (refine ⟨⟨(i + 1),?inv,?mu,[0],Cut.A,allA⟩⟩)
     case inv =>
      refine ⟨by omega,all_step ps0 (by omega) hL ?_⟩
      simp only [Person.ok,hA,hB,inB,Bool.and_true,Bool.true_and,Bool.and_eq_true,decide_eq_true_eq]
      omega
     case mu=>show _ < _;omega
    ·(refine ⟨⟨_,[],[],Cut.nil _,Ln.sameB _ rfl,?_,rfl⟩⟩)
     refine bool_eq (not_of fun h=>?_).symm
     have h4:=all_no 0 (by omega) hL3 (by simpa using hq)
     have h5:=all_no ps0 (by omega) hL (by unfold Person.ok;rw [h4];simp)
     unfold Crew.ok at h;rw [h5] at h;simp at h
    ·(refine ⟨⟨(k + 1),?inv,?mu,[0,1],Cut.A,allA⟩⟩)
     case inv=>exact ⟨by omega,all_step 0 (by omega) hL3 (by simpa using hq)⟩
     case mu=>show _ < _;omega
   ·(refine ⟨⟨_,[],[],Cut.nil _,Ln.sameB _ rfl,?_,rfl⟩⟩)
    refine bool_eq (not_of fun h=>?_).symm
    have h4:=all_no 0 (by omega) hL2 (by simpa using hq)
    have h5:=all_no ps0 (by omega) hL (by unfold Person.ok;rw [h4];simp)
    unfold Crew.ok at h;rw [h5] at h;simp at h
   ·(refine ⟨⟨(k + 1),?inv,?mu,[0,1],Cut.A,allA⟩⟩)
    case inv=>exact ⟨by omega,all_step 0 (by omega) hL2 (by simpa using hq)⟩
    case mu=>show _ < _;omega
  ·have hA:=all_end (by omega) hL
   refine FLoop.of (ACalls.mono _) (X:=Nat) (fun i=>[(1,.ptr 0 0),(7,AI i)]) (fun _=>[.box 3 (cCrew f c)]) (fun i=>i ≤ c.laws.length ∧ c.laws.all LawT.ok = (c.laws.drop i).all LawT.ok) (fun i=>c.laws.length - i) 0 ⟨⟨by omega,rfl⟩,[0],Cut.A,allA⟩ ?_
   rintro k ⟨hk,hL2⟩
   (repeat' ((try conv=>whnf);first|(with_reducible first|refine wT ?_|refine wF ?_|(refine wI (fun hq=>?_) (fun hq=>?_) <;> try simp only [zA,zE,zD,zJ,zB,zI,wK,wL] at hq)|refine wA ?_|refine wB ?_|refine wC ?_|refine wD ?_|refine wE ?_)|((with_reducible refine wN ?_ ?_);focus exact needA)|(with_reducible refine wG ?_)|(refine FCall.pure ((within_ok _ _ _)) ⟨Ln.sameB _ rfl,Ln.sameB _ rfl,Ln.sameB _ rfl,True.intro⟩ rfl ?_)|(with_reducible refine wP ?_)))
   all_goals (try conv=>whnf)
   rotate_right 2
   ·(refine ⟨⟨(k + 1),?inv,?mu,[0],Cut.A,allA⟩⟩)
    case inv=>exact ⟨by omega,all_step lw0 (by omega) hL2 (by simp only [LawT.ok,inB,Bool.and_eq_true,decide_eq_true_eq];omega)⟩
    case mu=>show _ < _;omega
   ·have hB:=all_end (by omega) hL2
    (refine ⟨⟨_,[],[],Cut.nil _,Ln.sameB _ rfl,?_,rfl⟩⟩)
    refine bool_eq ?_
    simp only [Crew.ok,hA,hB,Bool.true_and,Bool.and_true]
    symm
    simp only [Bool.and_eq_true,decide_eq_true_eq]
    omega
   all_goals
    (refine ⟨⟨_,[],[],Cut.nil _,Ln.sameB _ rfl,?_,rfl⟩⟩)
    refine bool_eq (not_of fun h=>?_).symm
    have h5:=all_no lw0 (by omega) hL2 (not_of fun h=>by simp only [LawT.ok,inB,Bool.and_eq_true,decide_eq_true_eq] at h;omega)
    unfold Crew.ok at h;rw [h5] at h;simp at h
  all_goals
   (refine ⟨⟨_,[],[],Cut.nil _,Ln.sameB _ rfl,?_,rfl⟩⟩)
   refine bool_eq (not_of fun h=>?_).symm
   have h5:=all_no ps0 (by omega) hL (not_of fun h=>by simp only [Person.ok,inB,Bool.and_eq_true,decide_eq_true_eq] at h;omega)
   unfold Crew.ok at h;rw [h5] at h;simp at h
 all_goals
  (refine ⟨⟨_,[],[],Cut.nil _,Ln.sameB _ rfl,?_,rfl⟩⟩)
  refine bool_eq (not_of fun h=>?_).symm
  simp only [Crew.ok,inB,Bool.and_eq_true,decide_eq_true_eq] at h
  omega
theorem isJob_ok (f:CFl) (c:Crew) (j:Job) (h1:2 ≤ c.langs ∧ c.langs ≤ 5):ACall Try.prog 18 [aCrew f c,aJob j] [] (fun r h=>r = .bool (Job.ok c j) ∧ h = []):=by
 (refine fcall_of mixed Try.func18 rfl (by decide) (hs:={}) ?k (ac:=?ac) ?c (rs:=?rs) ?r ?l ?H;(case k=>kernel_rfl);(case c=>(conv=>(lhs;cbv)));(case r=>(conv=>(lhs;cbv)));(case l=>exact Nat.le_of_ble_eq_true rfl))
 (repeat' ((try conv=>whnf);first|(with_reducible first|refine wT ?_|refine wF ?_|(refine wI (fun hq=>?_) (fun hq=>?_) <;> try simp only [zA,zE,zD,zJ,zB,zI,wK,wL] at hq)|refine wA ?_|refine wB ?_|refine wC ?_|refine wD ?_|refine wE ?_)|((with_reducible refine wN ?_ ?_);focus exact needA)|(with_reducible refine wG ?_)|(refine FCall.pure ((within_ok _ _ _)) ⟨Ln.sameB _ rfl,Ln.sameB _ rfl,Ln.sameB _ rfl,True.intro⟩ rfl ?_)|(with_reducible refine wP ?_)))
 all_goals (try conv=>whnf)
 all_goals
  (refine ⟨⟨_,[],[],Cut.nil _,Ln.sameB _ rfl,?_,rfl⟩⟩)
  refine bool_eq ?_
  rw [Bool.eq_iff_iff]
  simp only [Job.ok,inB,Bool.and_eq_true,decide_eq_true_eq,Bool.false_eq_true,false_iff,decide_not,Bool.not_eq_true',decide_eq_false_iff_not]
  omega
theorem crew_d {c:Crew} (h:c.ok = true):(2 ≤ c.langs ∧ c.langs ≤ 5) ∧ c.people.length ≤ 8 ∧ c.laws.length = 4 ∧ (∀ i,i < c.people.length → Person.ok c.langs (c.people.getD i ps0) = true) ∧ (∀ i,i < c.laws.length → LawT.ok (c.laws.getD i lw0) = true):=by
 simp only [Crew.ok,Bool.and_eq_true,decide_eq_true_eq,List.all_eq_true] at h
 refine ⟨h.1.1.1.1,by omega,by omega,fun i hi=>?_,fun i hi=>?_⟩
 ·exact h.1.2 _ (by simp [List.getD,List.getElem?_eq_getElem hi])
 ·exact h.2 _ (by simp [List.getD,List.getElem?_eq_getElem hi])
theorem ps_d {L:Int} {p:Person} (h:Person.ok L p = true):(p.levels.length:Int) = L ∧ (∀ i,i < p.levels.length → 0 ≤ p.levels.getD i 0 ∧ p.levels.getD i 0 ≤ 5) ∧ (0 ≤ p.fields ∧ p.fields ≤ 255) ∧ (0 ≤ p.clears ∧ p.clears ≤ 255) ∧ p.ties.length ≤ 10 ∧ (∀ i,i < p.ties.length → 0 ≤ p.ties.getD i 0 ∧ p.ties.getD i 0 ≤ 99) ∧ (0 ≤ p.fee ∧ p.fee ≤ 1000):=by
 simp only [Person.ok,Bool.and_eq_true,decide_eq_true_eq,List.all_eq_true] at h
 refine ⟨h.1.1.1.1.1.1,fun i hi=>?_,h.1.1.1.1.2,h.1.1.1.2,h.1.1.2,fun i hi=>?_,h.2⟩
 ·exact h.1.1.1.1.1.2 _ (by simp [List.getD,List.getElem?_eq_getElem hi])
 ·exact h.1.2 _ (by simp [List.getD,List.getElem?_eq_getElem hi])
theorem law_d {l:LawT} (h:LawT.ok l = true):(1 ≤ l.level ∧ l.level ≤ 5) ∧ 1 ≤ l.size ∧ l.size ≤ 8:=by
 simp only [LawT.ok,Bool.and_eq_true,decide_eq_true_eq] at h
 exact ⟨h.1,h.2.1,h.2.2⟩
theorem job_d {c:Crew} {j:Job} (h:Job.ok c j = true):(0 ≤ j.fr ∧ j.fr ≤ c.langs - 1) ∧ (0 ≤ j.to ∧ j.to ≤ c.langs - 1) ∧ j.fr ≠ j.to ∧ (0 ≤ j.client ∧ j.client ≤ 99) ∧ (0 ≤ j.field ∧ j.field ≤ 7) ∧ (0 ≤ j.kind ∧ j.kind ≤ 3) ∧ 1 ≤ j.size ∧ j.size ≤ 8:=by
 simp only [Job.ok,Bool.and_eq_true,decide_eq_true_eq] at h
 exact ⟨h.1.1.1.1.1.1,h.1.1.1.1.1.2,h.1.1.1.1.2,h.1.1.1.2,h.1.1.2,h.1.2,h.2.1,h.2.2⟩
theorem refCheck_ok (f:CFl) (c:Crew) (j:Job):ACall Try.prog 5 [aCrew f c,aJob j] [] (fun r h=>r = AI (checkT c j) ∧ h = []):=by
 (refine fcall_of mixed Try.func5 rfl (by decide) (hs:={}) ?k (ac:=?ac) ?c (rs:=?rs) ?r ?l ?H;(case k=>kernel_rfl);(case c=>(conv=>(lhs;cbv)));(case r=>(conv=>(lhs;cbv)));(case l=>exact Nat.le_of_ble_eq_true rfl))
 by_cases hc:c.ok = true
 ·have hd:=(crew_d hc).1
  (repeat' ((try conv=>whnf);first|(with_reducible first|refine wT ?_|refine wF ?_|(refine wI (fun hq=>?_) (fun hq=>?_) <;> try simp only [zA,zE,zD,zJ,zB,zI,wK,wL] at hq)|refine wA ?_|refine wB ?_|refine wC ?_|refine wD ?_|refine wE ?_)|((with_reducible refine wN ?_ ?_);focus exact needA)|(with_reducible refine wG ?_)|(refine FCall.pure ((isCrew_ok _ _)) ⟨Ln.sameB _ rfl,True.intro⟩ rfl ?_)|(refine FCall.pure ((isJob_ok _ _ _ hd)) ⟨Ln.sameB _ rfl,Ln.sameB _ rfl,True.intro⟩ rfl ?_)|(with_reducible refine wP ?_)))
  all_goals (try conv=>whnf)
  all_goals
   (refine ⟨⟨_,[],[],Cut.nil _,Ln.sameB _ rfl,?_,rfl⟩⟩)
   refine int_eq ?_
   unfold checkT
   first|(rw [if_pos hc,if_pos (by simpa using hq)])|(rw [if_pos hc,if_neg (by simpa using hq)])|(exfalso;simp_all)
 ·(repeat' ((try conv=>whnf);first|(with_reducible first|refine wT ?_|refine wF ?_|(refine wI (fun hq=>?_) (fun hq=>?_) <;> try simp only [zA,zE,zD,zJ,zB,zI,wK,wL] at hq)|refine wA ?_|refine wB ?_|refine wC ?_|refine wD ?_|refine wE ?_)|((with_reducible refine wN ?_ ?_);focus exact needA)|(with_reducible refine wG ?_)|(refine FCall.pure ((isCrew_ok _ _)) ⟨Ln.sameB _ rfl,True.intro⟩ rfl ?_)|(refine FCall.pure ((isJob_ok _ _ _ (by exfalso;simp_all))) ⟨Ln.sameB _ rfl,Ln.sameB _ rfl,True.intro⟩ rfl ?_)|(with_reducible refine wP ?_)))
  all_goals (try conv=>whnf)
  all_goals
   (refine ⟨⟨_,[],[],Cut.nil _,Ln.sameB _ rfl,?_,rfl⟩⟩)
   refine int_eq ?_
   unfold checkT
   first|(rw [if_neg hc])|(exfalso;simp_all)
theorem checkT_0 {c:Crew} {j:Job}:checkT c j = 0 ↔ c.ok = true ∧ Job.ok c j = true:=by
 unfold checkT
 by_cases h:c.ok = true
 ·by_cases k:Job.ok c j = true
  ·simp [h,k]
  ·simp [h,k]
 ·simp [h]
def isTeamT (c:Crew) (team:Int):Bool:=inB team 0 (((2 ^ c.people.length:Nat):Int) - 1)
def checkTm (c:Crew) (j:Job) (team:Int):Int:=if checkT c j = 0 then (if isTeamT c team then 0 else 1) else checkT c j
theorem pow_le {n:Nat} (h:n ≤ 8):1 ≤ 2 ^ n ∧ 2 ^ n ≤ 256:=⟨Nat.pow_pos (by omega),Nat.pow_le_pow_right (n:=2) (by omega) h⟩
end Go.Proofs.Ytkejebdfbkgaiaa

namespace Go.Proofs.Ytkejebdfbkgaiaa
open Go.RowKit

/-- A list of numbers as a result: nil if it is empty. -/
abbrev outI (l:List Int):AV:=aInts l.isEmpty l.isEmpty l
theorem LN0 {σ:Nat → Nat → Prop} {Bp:Nat → Prop} {H:List AB}:Ln σ Bp H nilS (outI []):=Ln.slz _ _ _ _ _ _ _ (by decide)
abbrev rowI (n:Nat) (l:List Int):AB:=.row n 1 (fun k _=>AI (l.getD k 0))
theorem isE_of {l:List Int} {m:Nat} (h:m + 1 = l.length):l.isEmpty = false:=by
 cases l
 ·cases h
 ·rfl
theorem outI_of {l:List Int} {m:Nat} (h:m + 1 = l.length):outI l = aInts false false l:=by unfold outI;rw [isE_of h]
theorem Ln.out {σ:Nat → Nat → Prop} {Bp:Nat → Prop} {H:List AB} {d m N:Nat} {c:Nat → Nat → AV} {l:List Int} (h:Bp d) (hd:H[d]? = some (.row N 1 c)) (hn:m + 1 ≤ N) (e:m + 1 = l.length) (hc:∀ k,k < m + 1 → ∀ o,o < 1 → AI (l.getD k 0) = c k o):Ln σ Bp H (.own d (m + 1)) (outI l):=by
 rw [outI_of e];exact Ln.pubE h hd hn e hc
theorem getD_snoc (l:List Int) (x:Int) (k:Nat):(l ++ [x]).getD k 0 = if k < l.length then l.getD k 0 else if k = l.length then x else 0:=by
 simp only [List.getD]
 by_cases h:k < l.length
 ·rw [if_pos h,List.getElem?_append_left h]
 ·rw [if_neg h,List.getElem?_append_right (by omega)]
  by_cases h2:k = l.length
  ·subst h2;simp
  ·rw [if_neg h2,List.getElem?_eq_none (by simp;omega)];rfl
theorem rng_drop {n i:Nat} (h:i < n):(List.range n).drop i = i :: (List.range n).drop (i + 1):=by
 rw [List.drop_eq_getElem_cons (by simpa using h)];simp
def memF (c:Crew) (s i:Nat):List Nat:=((List.range c.people.length).drop i).filter fun i=>s.testBit i
theorem memF_0 (c:Crew) (s:Nat):memF c s 0 = memb c s:=rfl
theorem memF_yes {c:Crew} {s i:Nat} (h:i < c.people.length) (hb:s.testBit i = true):memF c s i = i :: memF c s (i + 1):=by
 unfold memF;rw [rng_drop h,List.filter_cons,if_pos hb]
theorem memF_no {c:Crew} {s i:Nat} (h:i < c.people.length) (hb:s.testBit i = false):memF c s i = memF c s (i + 1):=by
 unfold memF;rw [rng_drop h,List.filter_cons,if_neg (by rw [hb];decide)]
theorem memF_end {c:Crew} {s i:Nat} (h:c.people.length ≤ i):memF c s i = []:=by
 unfold memF;rw [List.drop_eq_nil_of_le (by simpa using h)];rfl
theorem memb_lt {c:Crew} {s i:Nat} (h:i ∈ memb c s):i < c.people.length ∧ s.testBit i = true:=by
 unfold memb at h;simpa using h
def mayF (c:Crew) (j:Job) (i:Nat):List Int:=(((List.range c.people.length).drop i).filter fun i=>(c.people.getD i ps0).may j).map fun (i:Nat)=>(i:Int)
theorem mayF_yes {c:Crew} {j:Job} {i:Nat} (h:i < c.people.length) (hb:(c.people.getD i ps0).may j = true):mayF c j i = (i:Int) :: mayF c j (i + 1):=by
 unfold mayF;rw [rng_drop h,List.filter_cons,if_pos hb];rfl
theorem mayF_no {c:Crew} {j:Job} {i:Nat} (h:i < c.people.length) (hb:(c.people.getD i ps0).may j = false):mayF c j i = mayF c j (i + 1):=by
 unfold mayF;rw [rng_drop h,List.filter_cons,if_neg (by rw [hb];decide)]
theorem mayF_end {c:Crew} {j:Job} {i:Nat} (h:c.people.length ≤ i):mayF c j i = []:=by
 unfold mayF;rw [List.drop_eq_nil_of_le (by simpa using h)];rfl
def mayE (c:Crew) (j:Job):List Int:=if checkT c j = 0 then mayL c j else []
set_option maxHeartbeats 4000000
set_option maxRecDepth 100000
theorem phas_i (s:Nat) (n:Int) (hn:0 ≤ n ∧ n ≤ 64):ACall Try.prog 55 [AU s,AI n] [] (fun r h=>r = .bool (s.testBit n.toNat) ∧ h = []):=by
 have:=phas_ok s n.toNat (by omega)
 rwa [Int.toNat_of_nonneg hn.1] at this
end Go.Proofs.Ytkejebdfbkgaiaa
