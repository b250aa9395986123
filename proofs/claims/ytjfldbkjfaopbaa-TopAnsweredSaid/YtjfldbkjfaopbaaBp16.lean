/- Words that find their own proofs / Cover: pools and watches as plain data; what the document says of them / Cover: forms of values; small functions of the reference. -/
import Derived.Test.YtjfldbkjfaopbaaBp15
import Derived.Test.YtjfldbkjfaopbaaProg
import Derived.KernelRfl
set_option linter.unusedSimpArgs false
set_option linter.unusedVariables false
namespace Go.Proofs.Ytjfldbkjfaopbaa
open Go.RowKit

theorem FCond.tA {q:Bool} {A B:Prop} (a:A) (h:q = true:=by first|assumption|(rw [zA];omega)|(simp only [zA,zB,zC,zD,zE,zF,zG,ne_eq, *];done)|(simp only [zA,zB,zC,zD,zE,zF,zG,ne_eq];omega)|decide|fail):FCond q A B:=.t h a
theorem FCond.fA {q:Bool} {A B:Prop} (b:B) (h:q = false:=by first|assumption|(rw [zE];omega)|(simp only [zE,zH,zI,zJ,zA, *];done)|(simp only [zE,zH,zI,zJ,zA];omega)|decide|fail):FCond q A B:=.f h b
theorem needA {p:Prop} (h:p:=by first|omega|(unfold maxLen;omega)|(simp only [maxLen,List.length_cons,List.length_map,List.length_range,true_or,or_true,true_and,and_true] <;> omega)|((conv=>whnf);exact ⟨rfl⟩)|((conv=>whnf);(repeat ((first|with_reducible refine FCond.tA ?_|with_reducible refine FCond.fA ?_|with_reducible refine Need.mk (by omega) ?_|with_reducible refine FIdx.nat (by omega) ?_|with_reducible refine FIdx.int (by omega) ?_);(conv=>whnf)));exact ⟨rfl⟩)|fail):p:=h
theorem allA {p:Prop} (h:p:=by (repeat (first|exact True.intro|exact Ln.sameB _ rfl|exact Ln.sameB _ (by assumption)|exact Ln.slz _ _ _ _ _ _ _ (by decide)|exact Ln.bot _|exact Ln.own _ _ _ rfl|exact Ln.ptr _ _ _ rfl|exact Ln.rp _ _ _ _ _ rfl|exact Ln.mpv _ _ rfl|(refine Ln.int ?_;first|rfl|omega)|(refine Ln.ownE rfl ?_;omega)|(refine Ln.bool ?_;first|assumption|(simp;done))|exact Ln.pub _ _ _ _ _ _ (goneB rfl) rfl (by omega) (fun _ _ _ _=>rfl)|refine Ln.fnN ?_|refine Ln.aggN ?_|refine Ln.tupN ?_|refine ⟨?_,?_⟩))):p:=h
theorem Ln.A {σ:Nat → Nat → Prop} {Bp:Nat → Prop} {H:List AB} {v v':AV} (h:Ln σ Bp H v v':=by first|exact Ln.sameB _ rfl|exact Ln.sameB _ (by assumption)|exact Ln.slz _ _ _ _ _ _ _ (by decide)|exact Ln.bot _|exact Ln.own _ _ _ rfl|exact Ln.ptr _ _ _ rfl|exact Ln.rp _ _ _ _ _ rfl|exact Ln.mpv _ _ rfl|(refine Ln.int ?_;first|rfl|omega)|(refine Ln.ownE rfl ?_;omega)|(refine Ln.bool ?_;first|assumption|(simp;done))|exact Ln.pub _ _ _ _ _ _ (goneB rfl) rfl (by omega) (fun _ _ _ _=>rfl)|(refine Ln.fnN ?_;exact allA)|(refine Ln.aggN ?_;exact allA)|(refine Ln.tupN ?_;exact allA)|fail):Ln σ Bp H v v':=h
theorem LnB.mpS {σ:Nat → Nat → Prop} {Bp:Nat → Prop} {H:List AB} {kt:Nat} {L:List (List Int × AV)}:LnB σ Bp H (.mp kt L) (.mp kt L):=⟨rfl,rfl⟩
theorem LnB.mitS {σ:Nat → Nat → Prop} {Bp:Nat → Prop} {H:List AB} {d i n:Nat} {s:List Nat} (h:σ d i):LnB σ Bp H (.mit (.mpv d) n s) (.mit (.mpv i) n s):=⟨.mpv d i h,rfl,rfl⟩
theorem LnB.A {σ:Nat → Nat → Prop} {Bp:Nat → Prop} {H:List AB} {x y:AB} (h:LnB σ Bp H x y:=by first|exact LnB.rowS|exact LnB.mpS|exact LnB.mitS rfl|exact LnB.app (fun _ _ _ _=>rfl) (fun _ _=>rfl)|exact LnB.app (fun k hk=>absurd hk (Nat.not_lt_zero k)) (fun _ _=>rfl)|(refine LnB.boxN ?_;exact allA)|fail):LnB σ Bp H x y:=h
theorem Cut.A {N:Nat} {sel:List Nat} {h h2:List AB} (p:Cut N sel h h2:=by (refine Cut.of (Nat.le_of_ble_eq_true rfl) rfl rfl ?_;repeat (first|exact CutL.done|(refine CutL.turned rfl LnB.A ?_)|(refine CutL.gone (Nat.lt_of_lt_of_le (Nat.lt_succ_self _) (Nat.le_of_ble_eq_true rfl)) ?_)))):Cut N sel h h2:=p
theorem avB {a b:Bool} (h:a = b:=by (rw [Bool.eq_iff_iff];simp only [decide_eq_true_eq,Bool.false_eq_true,Bool.and_eq_true,Bool.or_eq_true,false_iff,true_iff,iff_true,iff_false];omega)):AV.bool a = AV.bool b:=congrArg AV.bool h
theorem FCond.i2 {q:Bool} {A B:Prop} (h1:q = true → FCond q A B) (h2:q = false → FCond q A B):FCond q A B:=by
 cases hq:q
 ·rw [hq] at h2;exact h2 rfl
 ·rw [hq] at h1;exact h1 rfl
theorem FCond.uT {q:Bool} {A B:Prop} (k:q = true → FCond q A B) (h:q = true:=by first|assumption|(rw [zA];omega)|(simp only [zA,zB,zC,zD,zE,zF,zG,ne_eq, *];done)|(simp only [zA,zB,zC,zD,zE,zF,zG,ne_eq];omega)|decide|fail):FCond q A B:=k h
theorem FCond.uF {q:Bool} {A B:Prop} (k:q = false → FCond q A B) (h:q = false:=by first|assumption|(rw [zE];omega)|(simp only [zE,zH,zI,zJ,zA, *];done)|(simp only [zE,zH,zI,zJ,zA];omega)|decide|fail):FCond q A B:=k h
/-- What several ways have in common is shown once. -/
structure Hold (A:Prop):Prop where
 h:A
theorem cutG {A B:Prop} (h:Hold A → B) (a:A):B:=h ⟨a⟩
structure LEndM3 {X Y Z:Type} (N:Nat) (S:X → Y → Z → List (Nat × AV)) (H:X → Y → Z → List AB) (Inv:X → Y → Z → Prop) (μ:X → Y → Z → Nat) (n:Nat) (e:Env) (h:List AB):Prop where
 ex:∃ x' y' z',Inv x' y' z' ∧ μ x' y' z' < n ∧ ∃ sel,Cut N sel h (H x' y' z') ∧ SlotsL sel h (H x' y' z') (S x' y' z') e
theorem FLoop.of3M {C:CallP} (hC:C.Mono) {N:Nat} {c:ACo} {Q:AEx → Env → List AB → Prop} {e:Env} {h:List AB} {X Y Z:Type} (S:X → Y → Z → List (Nat × AV)) (H:X → Y → Z → List AB) (Inv:X → Y → Z → Prop) (μ:X → Y → Z → Nat) (x0:X) (y0:Y) (z0:Z)
  (start:Inv x0 y0 z0 ∧ ∃ sel,Cut N sel h (H x0 y0 z0) ∧ SlotsL sel h (H x0 y0 z0) (S x0 y0 z0) e)
  (round:∀ x y z n,Inv x y z → μ x y z = n → fawp C N c (AEx.then (LEndM3 N S H Inv μ n) Q) (slots (S x y z)) (H x y z)):FLoop C N c Q e h :=
 FLoop.ofA hC (fun p:X × Y × Z=>S p.1 p.2.1 p.2.2) (fun p=>H p.1 p.2.1 p.2.2) (fun p=>Inv p.1 p.2.1 p.2.2) (fun p=>μ p.1 p.2.1 p.2.2) (x0,y0,z0) start fun p hp =>
  awp_mono hC c (then_mono fun _ _ ⟨x',y',z',h⟩=>⟨(x',y',z'),h⟩) (fawp_ok hC c (round p.1 p.2.1 p.2.2 _ hp rfl))

theorem wA {n : Int} {K : Int → Prop} (k : K n) (h : -9223372036854775808 ≤ n ∧ n ≤ 9223372036854775807 := by omega) : Fits .i64 n K := Fits.in64 h k
theorem wB {k n : Nat} {K : Nat → Prop} (h : K k) (hk : k < n := by omega) : FIdx (k : Int) n K := FIdx.nat hk h
theorem wC {j : Int} {n : Nat} {K : Nat → Prop} (h : K j.toNat) (hj : 0 ≤ j ∧ j < n := by omega) : FIdx j n K := ⟨hj, h⟩
theorem wD {k n : Nat} {K : Nat → Prop} (h : K k) (hk : k ≤ n := by omega) : FTo (k : Int) n K := FTo.nat hk h
theorem wE {j : Int} {n : Nat} {K : Nat → Prop} (h : K j.toNat) (hj : 0 ≤ j ∧ j ≤ n := by omega) : FTo j n K := ⟨hj, h⟩
theorem wK {a b : Int} : ¬a ≤ b ↔ b < a := Int.not_le
theorem wL {a b : Int} : ¬a < b ↔ b ≤ a := Int.not_lt
theorem wT {q : Bool} {A B : Prop} (a : A) (h : q = true := by first | assumption | (rw [zA]; omega) | (simp only [zA, zB, zC, zD, zE, zF, zG, ne_eq, *]; done) | (simp only [zA, zB, zC, zD, zE, zF, zG, ne_eq]; omega) | decide | fail) : FCond q A B := FCond.t h a
theorem wF {q : Bool} {A B : Prop} (b : B) (h : q = false := by first | assumption | (rw [zE]; omega) | (simp only [zE, zH, zI, zJ, zA, *]; done) | (simp only [zE, zH, zI, zJ, zA]; omega) | decide | fail) : FCond q A B := FCond.f h b
theorem wI {q : Bool} {A B : Prop} (h1 : q = true → A) (h2 : q = false → B) : FCond q A B := FCond.i h1 h2
theorem wJ {q : Bool} {A B : Prop} (h1 : q = true → FCond q A B) (h2 : q = false → FCond q A B) : FCond q A B := FCond.i2 h1 h2
theorem wN {p K : Prop} (a : p) (b : K) : Need p K := ⟨a, b⟩
theorem wG {A B : Prop} (h : A) : FApp A B := FApp.grow h
theorem wP {A B : Prop} (a : A) : FOr A B := .pub a
theorem wV {sel : List Nat} {h h2 : List AB} {d : Nat} {x y : AB} {ds : List Nat} {ys : List AB} (hd : h[d]? = some x) (hx : LnB (fun d i => sel[i]? = some d) (fun d => ∀ i, sel[i]? = some d → ¬ live h2 i) h x y) (hr : CutL sel h h2 ds ys) : CutL sel h h2 (d :: ds) (y :: ys) := CutL.turned hd hx hr
theorem wX {sel : List Nat} {h h2 : List AB} : CutL sel h h2 [] [] := CutL.done
theorem wO {N : Nat} {sel : List Nat} {h h2 : List AB} (hN : Nat.ble N h2.length = true) (hid : idsB N sel = true) (hnd : nodupB sel = true) (hc : CutL sel h h2 sel h2) : Cut N sel h h2 := Cut.of (Nat.le_of_ble_eq_true hN) hid hnd hc
end Go.Proofs.Ytjfldbkjfaopbaa

namespace Go.Proofs.Ytjfldbkjfaopbaa

structure Folk where
 tongues:Int
 slots:Int
 pay:Int
 deriving Inhabited
structure Pool where
 folk:List Folk
 needs:List (List Int)
 ill:Int
 most:Int
def fo0 : Folk:=⟨0,0,0⟩
abbrev inB (n lo hi:Int):Bool:=decide (lo ≤ n ∧ n ≤ hi)
def Pool.row (p:Pool) (s:Nat):List Int:=p.needs.getD s []
def Pool.nT (p:Pool):Nat:=(p.row 0).length
def rowOk (n:Nat) (r:List Int):Bool:=decide (r.length = n) && r.all fun x=>inB x 0 8
def Folk.ok (t s:Nat) (f:Folk):Bool:=inB f.tongues 0 ((2 ^ t:Nat) - 1) && inB f.slots 0 ((2 ^ s:Nat) - 1) && inB f.pay 0 1000
def Pool.ok (p:Pool):Bool:=inB p.folk.length 1 8 && inB p.needs.length 1 6 && inB p.nT 1 5 && inB p.ill 0 3 && inB p.most 0 6 && p.needs.all (rowOk p.nT) && p.folk.all (Folk.ok p.nT p.needs.length)
def checkP (p:Pool):Int:=if p.ok then 0 else 100
/-- How many of the first bits are set. -/
def popN : Nat → Nat → Nat
 | 0,_=>0
 | f + 1,s=>s % 2 + popN f (s / 2)
def pop (s:Nat):Nat:=popN 8 s
structure PoolOk (p:Pool):Prop where
 n1:1 ≤ p.folk.length
 n8:p.folk.length ≤ 8
 s1:1 ≤ p.needs.length
 s6:p.needs.length ≤ 6
 t1:1 ≤ p.nT
 t5:p.nT ≤ 5
 ill:0 ≤ p.ill ∧ p.ill ≤ 3
 most:0 ≤ p.most ∧ p.most ≤ 6
 row:∀ s,s < p.needs.length → (p.row s).length = p.nT ∧ ∀ t,t < p.nT → 0 ≤ (p.row s).getD t 0 ∧ (p.row s).getD t 0 ≤ 8
 folk:∀ i,i < p.folk.length → (0 ≤ (p.folk.getD i fo0).tongues ∧ (p.folk.getD i fo0).tongues < ((2 ^ p.nT:Nat):Int)) ∧ (0 ≤ (p.folk.getD i fo0).slots ∧ (p.folk.getD i fo0).slots < ((2 ^ p.needs.length:Nat):Int)) ∧ (0 ≤ (p.folk.getD i fo0).pay ∧ (p.folk.getD i fo0).pay ≤ 1000)
theorem all_getD {α:Type} {q:α → Bool} {l:List α} (d:α) (h:l.all q = true) {i:Nat} (hi:i < l.length):q (l.getD i d) = true:=by
 simp only [List.getD,List.getElem?_eq_getElem hi,Option.getD_some]
 exact List.all_eq_true.1 h _ (List.getElem_mem hi)
theorem pool_d {p:Pool} (h:p.ok = true):PoolOk p:=by
 unfold Pool.ok at h
 simp only [Bool.and_eq_true,decide_eq_true_eq] at h
 obtain ⟨⟨⟨⟨⟨⟨a,b⟩,c⟩,d⟩,e⟩,r⟩,f⟩:=h
 refine ⟨by omega,by omega,by omega,by omega,by omega,by omega,d,e,fun s hs=>?_,fun i hi=>?_⟩
 ·have:=all_getD [] r hs
  unfold rowOk at this
  simp only [Bool.and_eq_true,decide_eq_true_eq] at this
  refine ⟨this.1,fun t ht=>?_⟩
  have:=all_getD (0:Int) this.2 (show t < (p.needs.getD s []).length by rw [this.1];exact ht)
  simp only [decide_eq_true_eq] at this
  exact this
 ·have:=all_getD fo0 f hi
  unfold Folk.ok at this
  simp only [Bool.and_eq_true,decide_eq_true_eq] at this
  omega
theorem check_0 {p:Pool}:checkP p = 0 ↔ p.ok = true:=by
 unfold checkP
 cases p.ok <;> simp
theorem check_100 {p:Pool} (h:p.ok = false):checkP p = 100:=by unfold checkP;rw [h];rfl
def Pool.tg (p:Pool) (i:Nat):Nat:=(p.folk.getD i fo0).tongues.toNat
def Pool.sl (p:Pool) (i:Nat):Nat:=(p.folk.getD i fo0).slots.toNat
def Pool.pay (p:Pool) (i:Nat):Int:=(p.folk.getD i fo0).pay
/-- How much is needed for some languages together: the sum over the first k. -/
def needTo (p:Pool) (s T:Nat):Nat → Int
 | 0=>0
 | k + 1=>needTo p s T k + if T.testBit k then (p.row s).getD k 0 else 0
def needT (p:Pool) (s T:Nat):Int:=needTo p s T p.nT
/-- How many of a set have some of some languages: of the first k. -/
def whoTo (p:Pool) (g T:Nat):Nat → Nat
 | 0=>0
 | k + 1=>whoTo p g T k + if g.testBit k && decide (p.tg k &&& T ≠ 0) then 1 else 0
def whoT (p:Pool) (g T:Nat):Nat:=whoTo p g T p.folk.length
def missT (p:Pool) (s g T:Nat):Int:=needT p s T - whoT p g T
def servesT (p:Pool) (s g:Nat):Bool:=(List.range (2 ^ p.nT)).all fun T=>decide (missT p s g T ≤ 0)
def standsT (p:Pool) (s g:Nat) (k:Int):Bool:=(List.range (g + 1)).all fun ill=>!(decide (sdiff ill g = 0) && decide ((pop ill:Int) ≤ k)) || servesT p s (sdiff g ill)
def coveredT (p:Pool) (s g:Nat):Bool:=standsT p s g p.ill
/-- Who can be on call. -/
def canT (p:Pool) (s g:Nat):Bool:=(List.range p.folk.length).all fun i=>!(g.testBit i) || (p.sl i).testBit s
def canBe (p:Pool) (s:Nat) (g:Int):Bool:=inB g 0 ((2 ^ p.folk.length:Nat) - 1) && canT p s g.toNat
/-- In how many of the first slots somebody is. -/
def onTo (w:List Int) (i:Nat):Nat → Nat
 | 0=>0
 | s + 1=>onTo w i s + if (w.getD s 0).toNat.testBit i then 1 else 0
def isWatch (p:Pool) (w:List Int):Bool:=decide (w.length = p.needs.length) && ((List.range w.length).all fun s=>canBe p s (w.getD s 0)) && (List.range p.folk.length).all fun i=>decide ((onTo w i w.length:Int) ≤ p.most)
def checkW (p:Pool) (w:List Int):Int:=if p.ok then (if isWatch p w then 0 else 101) else 100
def safeT (p:Pool) (w:List Int):Bool:=(List.range w.length).all fun s=>coveredT p s (w.getD s 0).toNat
def safeE (p:Pool) (w:List Int):Bool × Int:=if checkW p w = 0 then (safeT p w,0) else (false,checkW p w)
/-- How many can be ill, whichever they are. -/
def spareTo (p:Pool) (s g:Nat):Nat → Int
 | 0=>pop g
 | T + 1=>if 0 < needT p s T then min (spareTo p s g T) ((whoT p g T:Int) - needT p s T) else spareTo p s g T
def spareT (p:Pool) (s g:Nat):Int:=max (-1) (spareTo p s g (2 ^ p.nT))
end Go.Proofs.Ytjfldbkjfaopbaa

namespace Go.Proofs.Ytjfldbkjfaopbaa
open Go.RowKit

theorem mixed : Try.prog.follows .mixedOrders = true:=by kernel_rfl
abbrev AI (n:Int):AV:=.int .i64 n
abbrev AU (n:Nat):AV:=.int .u64 n
abbrev aInts (z e:Bool) (l:List Int):AV:=.sl z e l.length 1 (fun k _=>AI (l.getD k 0))
abbrev nilS : AV:=.sl true true 0 0 (fun _ _=>.bot)
structure PoF where
 zf:Bool
 ef:Bool
 zn:Bool
 en:Bool
 rz:Nat → Bool
 re:Nat → Bool
abbrev cFolk (x:Folk):Nat → AV:=ofL [AI x.tongues,AI x.slots,AI x.pay]
abbrev aFolk (x:Folk):AV:=.agg 3 (cFolk x)
abbrev aFolks (z e:Bool) (l:List Folk):AV:=.sl z e l.length 3 (fun k=>cFolk (l.getD k fo0))
abbrev aRows (z e:Bool) (rz re:Nat → Bool) (l:List (List Int)):AV:=.sl z e l.length 1 (fun k _=>aInts (rz k) (re k) (l.getD k []))
abbrev cPool (f:PoF) (p:Pool):Nat → AV:=ofL [aFolks f.zf f.ef p.folk,aRows f.zn f.en f.rz f.re p.needs,AI p.ill,AI p.most]
abbrev aPool (f:PoF) (p:Pool):AV:=.agg 4 (cPool f p)
theorem int_eq {k:IntKind} {a b:Int} (h:a = b):AV.int k a = AV.int k b:=by rw [h]
theorem bool_eq {a b:Bool} (h:a = b):AV.bool a = AV.bool b:=by rw [h]
theorem drop_eq {α:Type} {l:List α} {i:Nat} (d:α) (h:i < l.length):l.drop i = l.getD i d :: l.drop (i + 1):=by
 rw [List.drop_eq_getElem_cons h];simp [List.getD,List.getElem?_eq_getElem h]
theorem all_step {α:Type} {p:α → Bool} {l:List α} {i:Nat} (d:α) (h:i < l.length) (e:l.all p = (l.drop i).all p) (hp:p (l.getD i d) = true):l.all p = (l.drop (i + 1)).all p:=by
 rw [e,drop_eq d h,List.all_cons,hp,Bool.true_and]
theorem all_no {α:Type} {p:α → Bool} {l:List α} {i:Nat} (d:α) (h:i < l.length) (e:l.all p = (l.drop i).all p) (hp:p (l.getD i d) = false):l.all p = false:=by
 rw [e,drop_eq d h,List.all_cons,hp,Bool.false_and]
theorem all_end {α:Type} {p:α → Bool} {l:List α} {i:Nat} (h:l.length ≤ i) (e:l.all p = (l.drop i).all p):l.all p = true:=by
 rw [e,List.drop_eq_nil_of_le h];rfl
theorem rall_no {p:Nat → Bool} {n i:Nat} (h:i < n) (hp:p i = false):(List.range n).all p = false:=by
 rw [List.all_eq_false];exact ⟨i,List.mem_range.2 h,by rw [hp];decide⟩
theorem rall_yes {p:Nat → Bool} {n:Nat} (h:∀ i,i < n → p i = true):(List.range n).all p = true:=by
 rw [List.all_eq_true];exact fun i hi=>h i (List.mem_range.1 hi)
theorem rall_get {p:Nat → Bool} {n i:Nat} (h:(List.range n).all p = true) (hi:i < n):p i = true:=List.all_eq_true.1 h i (List.mem_range.2 hi)
theorem below_step {p:Nat → Prop} {i:Nat} (h:∀ k,k < i → p k) (hi:p i):∀ k,k < i + 1 → p k:=fun k hk=>by
 rcases Nat.lt_or_ge k i with h'|h'
 ·exact h k h'
 ·obtain rfl:k = i:=by omega
  exact hi
theorem popN_le : ∀ f s,popN f s ≤ f
 | 0,_=>Nat.le_refl _
 | f + 1,s=>by
  have:=popN_le f (s / 2)
  simp only [popN];omega
/-- How many of the first k bits are set. -/
def popTo (s:Nat):Nat → Nat
 | 0=>0
 | k + 1=>popTo s k + if s.testBit k then 1 else 0
theorem popTo_le (s:Nat):∀ k,popTo s k ≤ k
 | 0=>Nat.le_refl _
 | k + 1=>by have:=popTo_le s k;simp only [popTo];split <;> omega
theorem pop_popTo : ∀ s:Nat,s < 256 → popTo s 8 = pop s:=by
 have:∀ s:_root_.Fin 256,popTo s.val 8 = pop s.val:=by decide +kernel
 exact fun s hs=>this ⟨s,hs⟩
theorem pow8 {n:Nat} (h:n ≤ 8):1 ≤ 2 ^ n ∧ 2 ^ n ≤ 256:=⟨Nat.two_pow_pos _,Nat.le_trans (Nat.pow_le_pow_right (by decide) h) (by decide)⟩

set_option maxHeartbeats 4000000
set_option maxRecDepth 100000
theorem within_ok (n lo hi:Int):ACall Try.prog 16 [AI n,AI lo,AI hi] [] (fun r h=>r = .bool (inB n lo hi) ∧ h = []):=by
 (refine fcall_of mixed Try.func16 rfl (by decide) (hs:={}) ?k (ac:=?ac) ?c (rs:=?rs) ?r ?l ?H;(case k=>kernel_rfl);(case c=>(conv=>(lhs;cbv)));(case r=>(conv=>(lhs;cbv)));(case l=>exact Nat.le_of_ble_eq_true rfl))
 (repeat' ((try conv=>whnf);first|(with_reducible first|refine wT ?_|refine wF ?_|(refine wI (fun hq=>?_) (fun hq=>?_) <;> try simp only [zA,zE,zD,zJ,zB,zI,wK,wL] at hq)|refine wA ?_|refine wB ?_|refine wC ?_|refine wD ?_|refine wE ?_)|((with_reducible refine wN ?_ ?_);focus exact needA)|(with_reducible refine wG ?_)|(with_reducible refine wP ?_)))
 all_goals ((refine ⟨⟨_,[],[],Cut.nil _,Ln.sameB _ rfl,?_,rfl⟩⟩);unfold inB;(exact avB))
theorem has_ok (s n:Nat) (hn:n ≤ 64):ACall Try.prog 43 [AI s,AI n] [] (fun r h=>r = .bool (s.testBit n) ∧ h = []):=by
 (refine fcall_of mixed Try.func43 rfl (by decide) (hs:={}) ?k (ac:=?ac) ?c (rs:=?rs) ?r ?l ?H;(case k=>kernel_rfl);(case c=>(conv=>(lhs;cbv)));(case r=>(conv=>(lhs;cbv)));(case l=>exact Nat.le_of_ble_eq_true rfl))
 (repeat' ((try conv=>whnf);first|(with_reducible first|refine wT ?_|refine wF ?_|(refine wI (fun hq=>?_) (fun hq=>?_) <;> try simp only [zA,zE,zD,zJ,zB,zI,wK,wL] at hq)|refine wA ?_|refine wB ?_|refine wC ?_|refine wD ?_|refine wE ?_)|((with_reducible refine wN ?_ ?_);focus exact needA)|(with_reducible first|refine FBit.hasT rfl (by assumption) ?_|refine FBit.hasF rfl (by assumption) ?_|refine FBit.shrN rfl (by omega) ?_|refine FBit.half rfl ?_|refine FBit.shl1 rfl (by omega) ?_|refine Fits.inU (by omega) ?_|refine FBit.shrNI rfl (by omega) ?_|refine FBit.shrIN rfl (by omega) (by omega) ?_|refine FBit.shrI rfl (by omega) (by omega) ?_|refine FBit.shl1I rfl (by omega) ?_)|(with_reducible refine FBit.has rfl (fun hq=>?_) (fun hq=>?_))|(with_reducible first|refine FBit.and1 rfl ?_|refine FBit.andN rfl (by omega) (by omega) ?_|refine FBit.orN rfl (by omega) (by omega) ?_|refine FBit.andNotN rfl (by omega) (by omega) ?_)|(with_reducible refine wG ?_)|(with_reducible refine wP ?_)))
 all_goals ((refine ⟨⟨_,[],[],Cut.nil _,Ln.sameB _ rfl,?_,rfl⟩⟩);rw [hq];rfl)
theorem has_i (s:Int) (n:Nat) (hs:0 ≤ s) (hn:n ≤ 64):ACall Try.prog 43 [AI s,AI n] [] (fun r h=>r = .bool (s.toNat.testBit n) ∧ h = []):=by
 have:=has_ok s.toNat n hn
 rwa [Int.toNat_of_nonneg hs] at this
/-- The same of any number. -/
def hasZ (s:Int) (n:Nat):Bool:=decide (rawBit .and .i64 (rawBit .shr .i64 s (n:Int)) 1 = 1)
theorem has_z (s:Int) (n:Nat) (hn:n ≤ 64):ACall Try.prog 43 [AI s,AI n] [] (fun r h=>r = .bool (hasZ s n) ∧ h = []):=by
 (refine fcall_of mixed Try.func43 rfl (by decide) (hs:={}) ?k (ac:=?ac) ?c (rs:=?rs) ?r ?l ?H;(case k=>kernel_rfl);(case c=>(conv=>(lhs;cbv)));(case r=>(conv=>(lhs;cbv)));(case l=>exact Nat.le_of_ble_eq_true rfl))
 (repeat' ((try conv=>whnf);first|(with_reducible first|refine wT ?_|refine wF ?_|(refine wI (fun hq=>?_) (fun hq=>?_) <;> try simp only [zA,zE,zD,zJ,zB,zI,wK,wL] at hq)|refine wA ?_|refine wB ?_|refine wC ?_|refine wD ?_|refine wE ?_)|((with_reducible refine wN ?_ ?_);focus exact needA)|(with_reducible first|refine FBit.hasT rfl (by assumption) ?_|refine FBit.hasF rfl (by assumption) ?_|refine FBit.shrN rfl (by omega) ?_|refine FBit.half rfl ?_|refine FBit.shl1 rfl (by omega) ?_|refine Fits.inU (by omega) ?_|refine FBit.shrNI rfl (by omega) ?_|refine FBit.shrIN rfl (by omega) (by omega) ?_|refine FBit.shrI rfl (by omega) (by omega) ?_|refine FBit.shl1I rfl (by omega) ?_)|(with_reducible refine FBit.has rfl (fun hq=>?_) (fun hq=>?_))|(with_reducible first|refine FBit.and1 rfl ?_|refine FBit.andN rfl (by omega) (by omega) ?_|refine FBit.orN rfl (by omega) (by omega) ?_|refine FBit.andNotN rfl (by omega) (by omega) ?_)|(with_reducible refine wG ?_)|(refine FBit.mk ?_)|(with_reducible refine wP ?_)))
 all_goals (try conv=>whnf)
 all_goals (refine ⟨⟨_,[],[],Cut.nil _,Ln.sameB _ rfl,?_,rfl⟩⟩)
 all_goals rfl
theorem tongues_ok (f:PoF) (p:Pool) (h:0 < p.needs.length):ACall Try.prog 10 [aPool f p] [] (fun r h=>r = AI p.nT ∧ h = []):=by
 (refine fcall_of mixed Try.func10 rfl (by decide) (hs:={}) ?k (ac:=?ac) ?c (rs:=?rs) ?r ?l ?H;(case k=>kernel_rfl);(case c=>(conv=>(lhs;cbv)));(case r=>(conv=>(lhs;cbv)));(case l=>exact Nat.le_of_ble_eq_true rfl))
 (repeat' ((try conv=>whnf);first|(with_reducible first|refine wT ?_|refine wF ?_|(refine wI (fun hq=>?_) (fun hq=>?_) <;> try simp only [zA,zE,zD,zJ,zB,zI,wK,wL] at hq)|refine wA ?_|refine wB ?_|refine wC ?_|refine wD ?_|refine wE ?_)|((with_reducible refine wN ?_ ?_);focus exact needA)|(with_reducible refine wG ?_)|(with_reducible refine wP ?_)))
 all_goals (try conv=>whnf)
 (refine ⟨⟨_,[],[],Cut.nil _,Ln.sameB _ rfl,?_,rfl⟩⟩)
 rfl
theorem isSlot_ok (f:PoF) (p:Pool) (s:Int) (h:p.needs.length ≤ 1000):ACall Try.prog 6 [aPool f p,AI s] [] (fun r h=>r = .bool (inB s 0 (p.needs.length - 1)) ∧ h = []):=by
 (refine fcall_of mixed Try.func6 rfl (by decide) (hs:={}) ?k (ac:=?ac) ?c (rs:=?rs) ?r ?l ?H;(case k=>kernel_rfl);(case c=>(conv=>(lhs;cbv)));(case r=>(conv=>(lhs;cbv)));(case l=>exact Nat.le_of_ble_eq_true rfl))
 (repeat' ((try conv=>whnf);first|(with_reducible first|refine wT ?_|refine wF ?_|(refine wI (fun hq=>?_) (fun hq=>?_) <;> try simp only [zA,zE,zD,zJ,zB,zI,wK,wL] at hq)|refine wA ?_|refine wB ?_|refine wC ?_|refine wD ?_|refine wE ?_)|((with_reducible refine wN ?_ ?_);focus exact needA)|(with_reducible refine wG ?_)|(refine FCall.pure ((within_ok _ _ _)) ⟨Ln.sameB _ rfl,Ln.sameB _ rfl,Ln.sameB _ rfl,True.intro⟩ rfl ?_)|(with_reducible refine wP ?_)))
 all_goals (try conv=>whnf)
 (refine ⟨⟨_,[],[],Cut.nil _,Ln.sameB _ rfl,?_,rfl⟩⟩)
 rfl
theorem size_ok (s:Nat) (hs:s < 256):ACall Try.prog 7 [AI s] [] (fun r h=>r = AI (pop s:Nat) ∧ h = []):=by
 (refine fcall_of mixed Try.func7 rfl (by decide) (hs:={}) ?k (ac:=?ac) ?c (rs:=?rs) ?r ?l ?H;(case k=>kernel_rfl);(case c=>(conv=>(lhs;cbv)));(case r=>(conv=>(lhs;cbv)));(case l=>exact Nat.le_of_ble_eq_true rfl))
 (repeat' ((try conv=>whnf);first|(with_reducible first|refine wT ?_|refine wF ?_|(refine wI (fun hq=>?_) (fun hq=>?_) <;> try simp only [zA,zE,zD,zJ,zB,zI,wK,wL] at hq)|refine wA ?_|refine wB ?_|refine wC ?_|refine wD ?_|refine wE ?_)|((with_reducible refine wN ?_ ?_);focus exact needA)|(with_reducible first|refine FBit.hasT rfl (by assumption) ?_|refine FBit.hasF rfl (by assumption) ?_|refine FBit.shrN rfl (by omega) ?_|refine FBit.half rfl ?_|refine FBit.shl1 rfl (by omega) ?_|refine Fits.inU (by omega) ?_|refine FBit.shrNI rfl (by omega) ?_|refine FBit.shrIN rfl (by omega) (by omega) ?_|refine FBit.shrI rfl (by omega) (by omega) ?_|refine FBit.shl1I rfl (by omega) ?_)|(with_reducible refine FBit.has rfl (fun hq=>?_) (fun hq=>?_))|(with_reducible first|refine FBit.and1 rfl ?_|refine FBit.andN rfl (by omega) (by omega) ?_|refine FBit.orN rfl (by omega) (by omega) ?_|refine FBit.andNotN rfl (by omega) (by omega) ?_)|(with_reducible refine wG ?_)|(with_reducible refine wP ?_)))
 all_goals (try conv=>whnf)
 refine FLoop.of (ACalls.mono _) (X:=Nat) (fun i=>[(0,AI s),(3,AI (popTo s i:Nat)),(4,AI i)]) (fun _=>[]) (fun i=>i ≤ 8) (fun i=>8 - i) 0 ⟨Nat.zero_le _,[],Cut.A,allA⟩ ?_
 intro i hi
 have hle:=popTo_le s i
 by_cases hlt:i < 8
 ·have hst:popTo s (i + 1) = popTo s i + if s.testBit i then 1 else 0:=rfl
  (repeat' ((try conv=>whnf);first|(with_reducible first|refine wT ?_|refine wF ?_|(refine wI (fun hq=>?_) (fun hq=>?_) <;> try simp only [zA,zE,zD,zJ,zB,zI,wK,wL] at hq)|refine wA ?_|refine wB ?_|refine wC ?_|refine wD ?_|refine wE ?_)|((with_reducible refine wN ?_ ?_);focus exact needA)|(with_reducible first|refine FBit.hasT rfl (by assumption) ?_|refine FBit.hasF rfl (by assumption) ?_|refine FBit.shrN rfl (by omega) ?_|refine FBit.half rfl ?_|refine FBit.shl1 rfl (by omega) ?_|refine Fits.inU (by omega) ?_|refine FBit.shrNI rfl (by omega) ?_|refine FBit.shrIN rfl (by omega) (by omega) ?_|refine FBit.shrI rfl (by omega) (by omega) ?_|refine FBit.shl1I rfl (by omega) ?_)|(with_reducible refine FBit.has rfl (fun hq=>?_) (fun hq=>?_))|(with_reducible first|refine FBit.and1 rfl ?_|refine FBit.andN rfl (by omega) (by omega) ?_|refine FBit.orN rfl (by omega) (by omega) ?_|refine FBit.andNotN rfl (by omega) (by omega) ?_)|(with_reducible refine wG ?_)|(with_reducible refine wP ?_)))
  all_goals (try conv=>whnf)
  ·rw [hq,if_pos rfl] at hst
   (exact ⟨⟨(i + 1),hlt,by show _ < _;omega,[],Cut.A,allA⟩⟩)
  ·rw [hq,if_neg (by decide)] at hst
   (exact ⟨⟨(i + 1),hlt,by show _ < _;omega,[],Cut.A,allA⟩⟩)
 ·obtain rfl:i = 8:=by omega
  (repeat' ((try conv=>whnf);first|(with_reducible first|refine wT ?_|refine wF ?_|(refine wI (fun hq=>?_) (fun hq=>?_) <;> try simp only [zA,zE,zD,zJ,zB,zI,wK,wL] at hq)|refine wA ?_|refine wB ?_|refine wC ?_|refine wD ?_|refine wE ?_)|((with_reducible refine wN ?_ ?_);focus exact needA)|(with_reducible first|refine FBit.hasT rfl (by assumption) ?_|refine FBit.hasF rfl (by assumption) ?_|refine FBit.shrN rfl (by omega) ?_|refine FBit.half rfl ?_|refine FBit.shl1 rfl (by omega) ?_|refine Fits.inU (by omega) ?_|refine FBit.shrNI rfl (by omega) ?_|refine FBit.shrIN rfl (by omega) (by omega) ?_|refine FBit.shrI rfl (by omega) (by omega) ?_|refine FBit.shl1I rfl (by omega) ?_)|(with_reducible refine FBit.has rfl (fun hq=>?_) (fun hq=>?_))|(with_reducible first|refine FBit.and1 rfl ?_|refine FBit.andN rfl (by omega) (by omega) ?_|refine FBit.orN rfl (by omega) (by omega) ?_|refine FBit.andNotN rfl (by omega) (by omega) ?_)|(with_reducible refine wG ?_)|(with_reducible refine wP ?_)))
  all_goals (try conv=>whnf)
  (refine ⟨⟨_,[],[],Cut.nil _,Ln.sameB _ rfl,?_,rfl⟩⟩)
  rw [pop_popTo s hs]
end Go.Proofs.Ytjfldbkjfaopbaa
