/- Words that find their own proofs / Plain facts on memory: slices that read as lists, worlds that extend other worlds / How the form's readings of data give cells: slices, ints / What a law's row asks behind the walk: the call returned true and the world only has more / From handed data to abstract values; from a reading of a law to what its row asks -/
import Derived.Test.YtodpjdmdmmnlpaaGreatBs15
import Derived.WalkKit
import Derived.WalkSpells
import Derived.WalkLawsBesides
import Derived.Deep.QuietTactic
import Derived.BigQuiet
import Derived.Lib.Hide
import Derived.Deep.Slices
import Derived.Lib.SmallJoins
import Derived.OpenShut
import Derived.WideKeyArgs
import Derived.Deep.OwnRows
import Derived.ProofKit
import Derived.JoinedOf
set_option linter.unusedSimpArgs false
set_option linter.unusedVariables false
namespace Go.Proofs.YtodpjdmdmmnlpaaGreat
open Go.RowKit

theorem FCond.tA {q:Bool} {A B:Prop} (a:A) (h:q = true:=by first|assumption|(rw [zA];omega)|(simp only [zA,zB,zC,zD,zE,zF,zG,ne_eq, *];done)|(simp only [zA,zB,zC,zD,zE,zF,zG,ne_eq];omega)|decide|fail):FCond q A B:=.t h a
theorem FCond.fA {q:Bool} {A B:Prop} (b:B) (h:q = false:=by first|assumption|(rw [zE];omega)|(simp only [zE,zH,zI,zJ,zA, *];done)|(simp only [zE,zH,zI,zJ,zA];omega)|decide|fail):FCond q A B:=.f h b
theorem needA {p:Prop} (h:p:=by first|omega|(unfold maxLen;omega)|(simp only [maxLen,List.length_cons,List.length_map,List.length_range,true_or,or_true,true_and,and_true] <;> omega)|((conv=>whnf);exact ⟨rfl⟩)|((conv=>whnf);(repeat ((first|with_reducible refine FCond.tA ?_|with_reducible refine FCond.fA ?_|with_reducible refine Need.mk (by omega) ?_|with_reducible refine FIdx.nat (by omega) ?_|with_reducible refine FIdx.int (by omega) ?_);(conv=>whnf)));exact ⟨rfl⟩)|fail):p:=h
theorem allA {p:Prop} (h:p:=by (repeat (first|exact True.intro|exact Ln.sameB _ rfl|exact Ln.sameB _ (by assumption)|exact Ln.slz _ _ _ _ _ _ _ (by decide)|exact Ln.bot _|exact Ln.own _ _ _ rfl|exact Ln.ptr _ _ _ rfl|exact Ln.rp _ _ _ _ _ rfl|exact Ln.mpv _ _ rfl|(refine Ln.int ?_;first|rfl|omega)|(refine Ln.ownE rfl ?_;omega)|(refine Ln.bool ?_;first|assumption|(simp;done))|exact Ln.pub _ _ _ _ _ _ (goneB rfl) rfl (by omega) (fun _ _ _ _=>rfl)|refine Ln.fnN ?_|refine Ln.aggN ?_|refine Ln.tupN ?_|refine ⟨?_,?_⟩))):p:=h
theorem Ln.A {σ:Nat → Nat → Prop} {Bp:Nat → Prop} {H:List AB} {v v':AV} (h:Ln σ Bp H v v':=by first|exact Ln.sameB _ rfl|exact Ln.sameB _ (by assumption)|exact Ln.slz _ _ _ _ _ _ _ (by decide)|exact Ln.bot _|exact Ln.own _ _ _ rfl|exact Ln.ptr _ _ _ rfl|exact Ln.rp _ _ _ _ _ rfl|exact Ln.mpv _ _ rfl|(refine Ln.int ?_;first|rfl|omega)|(refine Ln.ownE rfl ?_;omega)|(refine Ln.bool ?_;first|assumption|(simp;done))|exact Ln.pub _ _ _ _ _ _ (goneB rfl) rfl (by omega) (fun _ _ _ _=>rfl)|(refine Ln.fnN ?_;exact allA)|(refine Ln.aggN ?_;exact allA)|(refine Ln.tupN ?_;exact allA)|fail):Ln σ Bp H v v':=h
theorem LnB.mpS {σ:Nat → Nat → Prop} {Bp:Nat → Prop} {H:List AB} {kt:Nat} {L:List (List Int × AV)}:LnB σ Bp H (.mp kt L) (.mp kt L):=⟨rfl,rfl⟩
theorem LnB.mitS {σ:Nat → Nat → Prop} {Bp:Nat → Prop} {H:List AB} {d i n:Nat} {s:List Nat} (h:σ d i):LnB σ Bp H (.mit (.mpv d) n s) (.mit (.mpv i) n s):=⟨.mpv d i h,rfl,rfl⟩
theorem LnB.A {σ:Nat → Nat → Prop} {Bp:Nat → Prop} {H:List AB} {x y:AB} (h:LnB σ Bp H x y:=by first|exact LnB.rowS|exact LnB.mpS|exact LnB.mitS rfl|exact LnB.app (fun _ _ _ _=>rfl) (fun _ _=>rfl)|exact LnB.app (fun k hk=>absurd hk (Nat.not_lt_zero k)) (fun _ _=>rfl)|(refine LnB.boxN ?_;exact allA)|fail):LnB σ Bp H x y:=h
theorem Cut.A {N:Nat} {sel:List Nat} {h h2:List AB} (p:Cut N sel h h2:=by (refine Cut.of (Nat.le_of_ble_eq_true rfl) rfl rfl ?_;repeat (first|exact CutL.done|(refine CutL.turned rfl LnB.A ?_)|(refine CutL.gone (Nat.lt_of_lt_of_le (Nat.lt_succ_self _) (Nat.le_of_ble_eq_true rfl)) ?_)))):Cut N sel h h2:=p
theorem avB {a b:Bool} (h:a = b:=by (rw [Bool.eq_iff_iff];simp only [decide_eq_true_eq,Bool.false_eq_true,Bool.and_eq_true,Bool.or_eq_true,false_iff,true_iff,iff_true,iff_false];omega)):AV.bool a = AV.bool b:=congrArg AV.bool h
theorem FCond.i2 {q:Bool} {A B:Prop} (h1:q = true → FCond q A B) (h2:q = false → FCond q A B):FCond q A B:=by
 cases hq:q
 ·rw [hq] at h2;exact h2 rfl
 ·rw [hq] at h1;exact h1 rfl
theorem FCond.uT {q:Bool} {A B:Prop} (k:q = true → FCond q A B) (h:q = true:=by first|assumption|(rw [zA];omega)|(simp only [zA,zB,zC,zD,zE,zF,zG,ne_eq, *];done)|(simp only [zA,zB,zC,zD,zE,zF,zG,ne_eq];omega)|decide|fail):FCond q A B:=k h
theorem FCond.uF {q:Bool} {A B:Prop} (k:q = false → FCond q A B) (h:q = false:=by first|assumption|(rw [zE];omega)|(simp only [zE,zH,zI,zJ,zA, *];done)|(simp only [zE,zH,zI,zJ,zA];omega)|decide|fail):FCond q A B:=k h
/-- What several ways have in common is shown once. -/
structure Hold (A:Prop):Prop where
 h:A
theorem cutG {A B:Prop} (h:Hold A → B) (a:A):B:=h ⟨a⟩
structure LEndM3 {X Y Z:Type} (N:Nat) (S:X → Y → Z → List (Nat × AV)) (H:X → Y → Z → List AB) (Inv:X → Y → Z → Prop) (μ:X → Y → Z → Nat) (n:Nat) (e:Env) (h:List AB):Prop where
 ex:∃ x' y' z',Inv x' y' z' ∧ μ x' y' z' < n ∧ ∃ sel,Cut N sel h (H x' y' z') ∧ SlotsL sel h (H x' y' z') (S x' y' z') e
theorem FLoop.of3M {C:CallP} (hC:C.Mono) {N:Nat} {c:ACo} {Q:AEx → Env → List AB → Prop} {e:Env} {h:List AB} {X Y Z:Type} (S:X → Y → Z → List (Nat × AV)) (H:X → Y → Z → List AB) (Inv:X → Y → Z → Prop) (μ:X → Y → Z → Nat) (x0:X) (y0:Y) (z0:Z)
  (start:Inv x0 y0 z0 ∧ ∃ sel,Cut N sel h (H x0 y0 z0) ∧ SlotsL sel h (H x0 y0 z0) (S x0 y0 z0) e)
  (round:∀ x y z n,Inv x y z → μ x y z = n → fawp C N c (AEx.then (LEndM3 N S H Inv μ n) Q) (slots (S x y z)) (H x y z)):FLoop C N c Q e h :=
 FLoop.ofA hC (fun p:X × Y × Z=>S p.1 p.2.1 p.2.2) (fun p=>H p.1 p.2.1 p.2.2) (fun p=>Inv p.1 p.2.1 p.2.2) (fun p=>μ p.1 p.2.1 p.2.2) (x0,y0,z0) start fun p hp =>
  awp_mono hC c (then_mono fun _ _ ⟨x',y',z',h⟩=>⟨(x',y',z'),h⟩) (fawp_ok hC c (round p.1 p.2.1 p.2.2 _ hp rfl))

theorem wA {n : Int} {K : Int → Prop} (k : K n) (h : -9223372036854775808 ≤ n ∧ n ≤ 9223372036854775807 := by omega) : Fits .i64 n K := Fits.in64 h k
theorem wB {k n : Nat} {K : Nat → Prop} (h : K k) (hk : k < n := by omega) : FIdx (k : Int) n K := FIdx.nat hk h
theorem wC {j : Int} {n : Nat} {K : Nat → Prop} (h : K j.toNat) (hj : 0 ≤ j ∧ j < n := by omega) : FIdx j n K := ⟨hj, h⟩
theorem wD {k n : Nat} {K : Nat → Prop} (h : K k) (hk : k ≤ n := by omega) : FTo (k : Int) n K := FTo.nat hk h
theorem wE {j : Int} {n : Nat} {K : Nat → Prop} (h : K j.toNat) (hj : 0 ≤ j ∧ j ≤ n := by omega) : FTo j n K := ⟨hj, h⟩
theorem wK {a b : Int} : ¬a ≤ b ↔ b < a := Int.not_le
theorem wL {a b : Int} : ¬a < b ↔ b ≤ a := Int.not_lt
theorem wT {q : Bool} {A B : Prop} (a : A) (h : q = true := by first | assumption | (rw [zA]; omega) | (simp only [zA, zB, zC, zD, zE, zF, zG, ne_eq, *]; done) | (simp only [zA, zB, zC, zD, zE, zF, zG, ne_eq]; omega) | decide | fail) : FCond q A B := FCond.t h a
theorem wF {q : Bool} {A B : Prop} (b : B) (h : q = false := by first | assumption | (rw [zE]; omega) | (simp only [zE, zH, zI, zJ, zA, *]; done) | (simp only [zE, zH, zI, zJ, zA]; omega) | decide | fail) : FCond q A B := FCond.f h b
theorem wI {q : Bool} {A B : Prop} (h1 : q = true → A) (h2 : q = false → B) : FCond q A B := FCond.i h1 h2
theorem wJ {q : Bool} {A B : Prop} (h1 : q = true → FCond q A B) (h2 : q = false → FCond q A B) : FCond q A B := FCond.i2 h1 h2
theorem wN {p K : Prop} (a : p) (b : K) : Need p K := ⟨a, b⟩
theorem wG {A B : Prop} (h : A) : FApp A B := FApp.grow h
theorem wP {A B : Prop} (a : A) : FOr A B := .pub a
theorem wV {sel : List Nat} {h h2 : List AB} {d : Nat} {x y : AB} {ds : List Nat} {ys : List AB} (hd : h[d]? = some x) (hx : LnB (fun d i => sel[i]? = some d) (fun d => ∀ i, sel[i]? = some d → ¬ live h2 i) h x y) (hr : CutL sel h h2 ds ys) : CutL sel h h2 (d :: ds) (y :: ys) := CutL.turned hd hx hr
theorem wX {sel : List Nat} {h h2 : List AB} : CutL sel h h2 [] [] := CutL.done
theorem wO {N : Nat} {sel : List Nat} {h h2 : List AB} (hN : Nat.ble N h2.length = true) (hid : idsB N sel = true) (hnd : nodupB sel = true) (hc : CutL sel h h2 sel h2) : Cut N sel h h2 := Cut.of (Nat.le_of_ble_eq_true hN) hid hnd hc
end Go.Proofs.YtodpjdmdmmnlpaaGreat

namespace Go.Proofs.YtodpjdmdmmnlpaaGreat
open Go.RowKit

theorem block_of_add (a:Addr) (n:Nat):(a.add n).block = a.block:=by unfold Addr.add;split <;> rfl
theorem add_of_add (a:Addr) (i j:Nat):(a.add i).add j = a.add (i + j):=by
 unfold Addr.add
 by_cases hi:i = 0 <;> by_cases hj:j = 0 <;> simp [hi,hj,Nat.add_assoc]

/-- w' has all that w has, unchanged. -/
abbrev Ext (w w':World):Prop:=Below w.heap.size w w'

theorem Ext.refl (w:World):Ext w w:=Below.refl _ w
theorem Ext.trans {a b c:World} (h:Ext a b) (k:Ext b c):Ext a c:=Below.trans h (k.mono h.size)
theorem Ext.of_alloc (w:World) (o:Obj):Ext w (w.alloc o):=(Below.refl _ w).alloc (Nat.le_refl _) o
theorem Ext.alloc {a w:World} (h:Ext a w) (o:Obj):Ext a (w.alloc o):=Below.alloc h h.size o
theorem Ext.drew {a w:World} (h:Ext a w):Ext a w.drew:=Below.drew h
theorem Ext.drewN {a w:World} (h:Ext a w) (n:Nat):Ext a (w.drewN n):=⟨h.os,h.tape,h.output,h.size,h.block⟩
theorem Ext.cellOf {w w':World} (h:Ext w w') {p:Addr} (hp:p.block < w.heap.size):w'.cell? p = w.cell? p:=Below.cell h hp

/-- The n elements (size cells each) of a slice at A are the cells xs. -/
def Sl (w:World) (size:Nat) (A:Option Addr) (n:Nat) (xs:List Value):Prop :=
 xs.length = n * size ∧ (0 < n → ∃ b off,A = some ⟨b,off,none⟩ ∧ b < w.heap.size ∧ ∀ (j:Nat) (u:Value),xs[j]? = some u → w.cell? ⟨b,off + j,none⟩ = some u)

theorem Sl.ext {w w':World} {size n:Nat} {A:Option Addr} {xs:List Value} (h:Sl w size A n xs) (e:Ext w w'):Sl w' size A n xs :=
 ⟨h.1,fun hn=>by
  obtain ⟨b,off,hA,hb,hc⟩:=h.2 hn
  exact ⟨b,off,hA,Nat.lt_of_lt_of_le hb e.size,fun j u hu=>(e.cellOf (p:=⟨b,off + j,none⟩) hb).trans (hc j u hu)⟩⟩
theorem Sl.nil (w:World) (size:Nat) (A:Option Addr):Sl w size A 0 []:=⟨by simp,fun h=>absurd h (by omega)⟩
theorem own_lt {w:World} {g:Nat} {o:Obj} (hh:w.heap[g]? = some o):g < w.heap.size:=by
 rcases Nat.lt_or_ge g w.heap.size with hlt|hge
 ·exact hlt
 ·rw [Array.getElem?_eq_none hge] at hh;cases hh
theorem Sl.of_own {w:World} {base size n c:Nat} {e:TypeId} {A:Option Addr} {xs:List Value} (h:w.ownsRow base e size (.slice A n c) n xs):Sl w size A n xs:=by
 refine ⟨h.1,fun hn=>?_⟩
 rcases h.2 with ⟨hv,hx⟩|⟨g,cap,cur,hv,hb,hh,_⟩
 ·injection hv with hA hn'
  omega
 ·injection hv with hA
  subst hA
  refine ⟨g,0,rfl,own_lt hh,fun j u hu=>?_⟩
  have h1:=h.cells (g:=g) rfl j u hu
  unfold Addr.add at h1
  split at h1
  ·rename_i h0;subst h0;exact h1
  ·simpa using h1
theorem Sl.at {w:World} {size n:Nat} {A:Option Addr} {xs:List Value} (h:Sl w size A n xs) {k:Nat} (hk:k < n) :
  ∃ b off,A = some ⟨b,off,none⟩ ∧ b < w.heap.size ∧ ∀ i,i < size → ∃ u,xs[k * size + i]? = some u ∧ w.cell? ⟨b,off + (k * size + i),none⟩ = some u:=by
 obtain ⟨b,off,hA,hb,hc⟩:=h.2 (by omega)
 refine ⟨b,off,hA,hb,fun i hi=>?_⟩
 have hlt:k * size + i < xs.length:=by
  rw [h.1]
  have:(k + 1) * size ≤ n * size:=Nat.mul_le_mul_right _ hk
  rw [Nat.add_mul] at this
  omega
 exact ⟨xs[k * size + i],List.getElem?_eq_getElem hlt,hc _ _ (List.getElem?_eq_getElem hlt)⟩

/-- A slice of ints. -/
def Ints (w:World) (A:Option Addr) (l:List Int):Prop :=
 ∀ k,k < l.length → ∃ b off,A = some ⟨b,off,none⟩ ∧ b < w.heap.size ∧ w.cell? ⟨b,off + k,none⟩ = some (.int .i64 (l.getD k 0))
theorem Ints.ext {w w':World} {A:Option Addr} {l:List Int} (h:Ints w A l) (e:Ext w w'):Ints w' A l:=fun k hk=>by
 obtain ⟨b,off,hA,hb,hc⟩:=h k hk
 exact ⟨b,off,hA,Nat.lt_of_lt_of_le hb e.size,(e.cellOf (p:=⟨b,off + k,none⟩) hb).trans hc⟩
theorem Ints.of_own {w:World} {base n c:Nat} {e:TypeId} {A:Option Addr} {l:List Int} (h:w.ownsRow base e 1 (.slice A n c) n (l.map (.int .i64))):n = l.length ∧ Ints w A l:=by
 have hl:n = l.length:=by have:=h.1;simp at this;omega
 refine ⟨hl,fun k hk=>?_⟩
 obtain ⟨b,off,hA,hb,hc⟩:=(Sl.of_own h).at (k:=k) (by omega)
 obtain ⟨u,hu,hcu⟩:=hc 0 (by omega)
 refine ⟨b,off,hA,hb,?_⟩
 simp at hu hcu
 obtain ⟨a,ha,rfl⟩:=hu
 rw [hcu]
 simp [List.getD,ha]

theorem Ints.get {w:World} {A:Option Addr} {l:List Int} (h:Ints w A l) {k:Nat} (hk:k < l.length) :
  ∃ b off x,A = some ⟨b,off,none⟩ ∧ b < w.heap.size ∧ w.cell? ⟨b,off + k,none⟩ = some (.int .i64 x) ∧ Hid (l.getD k 0 = x):=by
 obtain ⟨b,off,h1,h2,h3⟩:=h k hk
 exact ⟨b,off,_,h1,h2,h3,rfl⟩

theorem Ext.unalloc {w wr:World} {o:Obj} (h:Ext (w.alloc o) wr):Ext w wr:=(Ext.of_alloc w o).trans h
theorem Ext.box {w wr:World} {cs:Array Value} {T:TypeId} (h:Ext (w.alloc (.cells cs T)) wr) (i:Nat):wr.cell? ⟨w.heap.size,i,none⟩ = cs[i]?:=by
 rw [h.cellOf (by simp),World.cell?_alloc_at _ _ _ _ rfl]
theorem Ext.boxFree {w wr:World} {cs:Array Value} {T:TypeId} (h:Ext (w.alloc (.cells cs T)) wr) (i:Nat):wr.frozen? ⟨w.heap.size,i,none⟩ = false:=by
 rw [Below.frozen h (by simp),World.frozen?_alloc_at _ _ _ _ rfl]
theorem Ext.lt {w wr:World} {o:Obj} (h:Ext (w.alloc o) wr):w.heap.size < wr.heap.size:=by have:=h.size;simp at this;omega
theorem Ext.le {w wr:World} (h:Ext w wr):w.heap.size ≤ wr.heap.size:=h.size

theorem Ext.grown {w w':World} (h:Ext w w') (row:Option Nat):w.grownBy w' row:=⟨h.os,h.tape,h.output,h.size,fun i hi _=>h.block i hi⟩
theorem Ext.of_grown {w w':World} (h:w.grownBy w' none):Ext w w':=⟨h.os,h.tape,h.output,h.size,fun i hi=>h.block i hi (by simp)⟩

/-- Block g is just the cells cs of element type t, none frozen. -/
def Blk (w:World) (g:Nat) (t:TypeId) (cs:Array Value):Prop:=w.heap[g]? = some (.cells cs t (0,0))
theorem Blk.lt {w:World} {g:Nat} {t:TypeId} {cs:Array Value} (h:Blk w g t cs):g < w.heap.size:=own_lt h
theorem Blk.cell {w:World} {g:Nat} {t:TypeId} {cs:Array Value} (h:Blk w g t cs) (i:Nat):w.cell? ⟨g,i,none⟩ = cs[i]?:=by
 unfold Blk at h;simp [World.cell?,h]
theorem Blk.free {w:World} {g:Nat} {t:TypeId} {cs:Array Value} (h:Blk w g t cs) (i:Nat):w.frozen? ⟨g,i,none⟩ = false:=by
 unfold Blk at h;simp [World.frozen?,h]
theorem Blk.new (w:World) (t:TypeId) (cs:Array Value):Blk (w.alloc (.cells cs t)) w.heap.size t cs:=heap_alloc_new w _
theorem Blk.ext {w w':World} {g:Nat} {t:TypeId} {cs:Array Value} (h:Blk w g t cs) (e:Ext w w'):Blk w' g t cs:=(e.block g h.lt).trans h
theorem Blk.alloc {w:World} {g:Nat} {t:TypeId} {cs:Array Value} (h:Blk w g t cs) (o:Obj):Blk (w.alloc o) g t cs:=h.ext (Ext.of_alloc _ _)
theorem Blk.set {w:World} {g:Nat} {t:TypeId} {cs:Array Value} (h:Blk w g t cs) (i:Nat) (u:Value):Blk (w.setCell ⟨g,i,none⟩ u) g t (cs.setIfInBounds i u):=by
 unfold Blk at h ⊢
 simp [World.setCell,Array.getElem?_modify,h]
theorem Blk.far {w:World} {g:Nat} {t:TypeId} {cs:Array Value} (h:Blk w g t cs) {p:Addr} (hp:g ≠ p.block) (u:Value):Blk (w.setCell p u) g t cs:=(Below.heap_setCell w p u g hp).trans h
theorem Blk.grown {w w':World} {g:Nat} {t:TypeId} {cs:Array Value} {row:Option Nat} (h:Blk w g t cs) (hb:w.grownBy w' row) (hg:some g ≠ row):Blk w' g t cs:=(hb.block g h.lt hg).trans h
theorem Blk.ne {w:World} {g g':Nat} {t t':TypeId} {cs cs':Array Value} (h:Blk w g t cs) (h':Blk w g' t' cs') (hne:t ≠ t'):g ≠ g':=by
 rintro rfl
 unfold Blk at h h'
 rw [h] at h'
 injection h' with h'
 injection h' with _ ht
 exact hne ht
theorem grown_setCell (w:World) (p:Addr) (u:Value):w.grownBy (w.setCell p u) (some p.block) :=
 ⟨rfl,rfl,rfl,by simp,fun i _ hne=>Below.heap_setCell _ _ _ _ (fun e=>hne (by rw [e]))⟩
theorem grown_refl (w:World) (row:Option Nat):w.grownBy w row:=(Ext.refl w).grown row
theorem grown_trans {a b c:World} {row:Option Nat} (h:a.grownBy b row) (k:b.grownBy c row):a.grownBy c row :=
 ⟨k.os.trans h.os,k.tape.trans h.tape,k.output.trans h.output,Nat.le_trans h.size k.size,fun i hi hne=>(k.block i (Nat.lt_of_lt_of_le hi h.size) hne).trans (h.block i hi hne)⟩
theorem grown_drew (w:World) (row:Option Nat):w.grownBy w.drew row:=(Ext.refl w).drew.grown row

theorem quiet_add_same {P:Program} {f:FuncId} {args:Array Value} {w:World} {a n:Nat} {v:Value}
  (h:Calls P f args (w.drewN (a + n)) fun e w'=>e = .returned v ∧ w' = w.drewN (a + n)) :
  Calls P f args (w.drewN (a + n)) fun e w''=>e = .returned v ∧ ∃ m,w'' = w.drewN (a + m) :=
 h.mono fun _ _ ⟨he,hm⟩=>⟨he,n,hm⟩

/-- A region that draws, all of whose operations read or call, in a class of worlds. -/
theorem wp_region_class {P:Program} {id:Nat} {Q:Exit → Act → World → Prop} {a:Act} {w:World} {l:List Oper} (C:World → Prop) (hm:P.follows .mixedOrders = true) (hB:Region.lexB .any l.toArray = true) (hC:C w.drew)
  (h:wpQuiet P l.toArray C (fun a'=>∀ w',C w' → Q .normal a' w') l a):(Code.region id l.toArray true).wp P Q a w :=
 wp_region_quiet (C:=C) hm hB hC (by simpa using h)

theorem ret_int {k:IntKind} {a b:Int} (h:a = b):Ending.returned (.int k a) = .returned (.int k b):=by rw [h]
theorem ret_bool {a b:Bool} (h:a = b):Ending.returned (.bool a) = .returned (.bool b):=by rw [h]
end Go.Proofs.YtodpjdmdmmnlpaaGreat

namespace Go.Proofs.YtodpjdmdmmnlpaaGreat
open Go.RowKit Go.ChangeShapes Go.WideShapes Go.Deep

section
variable {H:Type} {enc:TypeId × Value → H} {P:Program} {w:World} {base:Nat} {held:Bool}

/-- A slice's elements, cell by cell. -/
theorem rd_slice {t e:TypeId} {sz n:Nat} {v:Value} {y:DataW H × List MemPlace} (ht:P.underlying t = some (.slice e)) (hc:P.cellsOf e = sz) (hsz:0 < sz) (h:DataW.trod enc P w base (fun _=>true) held n t [v] = some y) :
  ∃ A len cap,v = .slice A len cap ∧ len ≤ 9223372036854775807 ∧ (A = none → len = 0) ∧ ∀ i,i < len → ∃ b off m cs z,A = some ⟨b,off,none⟩ ∧ b < w.heap.size ∧ cs.length = sz ∧ (∀ j,j < sz → w.cell? ⟨b,off + i * sz + j,none⟩ = cs[j]?) ∧
   DataW.trod enc P w base (fun _=>true) held m e cs = some z:=by
 rcases open_slice ht h with ⟨h0,_⟩|⟨a,len,cap,m,n',D,Pl,h0,hb,hl,hm,hmm,_,hx⟩
 ·injection h0 with h0
  exact ⟨none,0,0,h0,by omega,fun _=>rfl,fun i hi=>by omega⟩
 ·injection h0 with h0
  have hmx:maxLen = 9223372036854775807:=rfl
  refine ⟨some a,len,cap,h0,by omega,(fun h=>by cases h),fun i hi=>?_⟩
  simp only [if_true] at hmm
  obtain ⟨cs,h1,h2⟩:=hx i (by omega)
  obtain ⟨_,hlen,hcell⟩:=World.cells?_some h1
  rw [hc] at hlen hcell
  have hc0:=hcell 0 hsz
  rw [List.getElem?_eq_getElem (by omega)] at hc0
  obtain ⟨b,off,spot⟩:=a
  have hadd:∀ (x y:Nat),((⟨b,off,spot⟩:Addr).add x).add y = (⟨b,off,spot⟩:Addr).add (x + y):=fun x y=>add_of_add _ _ _
  have hsp:spot = none:=by
   obtain ⟨cs0,g1,_⟩:=hx 0 (by omega)
   obtain ⟨_,glen,gcell⟩:=World.cells?_some g1
   rw [hc] at glen gcell
   have g0:=gcell 0 hsz
   rw [List.getElem?_eq_getElem (by omega)] at g0
   have:=World.cell?_spot g0
   simpa [hadd,Addr.add] using this
  subst hsp
  have hform:∀ x,(⟨b,off,none⟩:Addr).add x = ⟨b,off + x,none⟩:=fun x=>by
   unfold Addr.add
   by_cases hx0:x = 0 <;> simp [hx0]
  refine ⟨b,off,n',cs,_,rfl,?_,hlen,fun j hj=>?_,h2⟩
  ·have:=World.block_lt_of_cell? w _ hc0
   rw [hadd,hform] at this
   exact this
  ·have:=hcell j hj
   rw [hadd,hform] at this
   rw [← this,Nat.add_assoc]

theorem rd_int {t:TypeId} {n:Nat} {cs:List Value} {y:DataW H × List MemPlace} (ht:P.underlying t = some (.int .i64)) (h:DataW.trod enc P w base (fun _=>true) held n t cs = some y):∃ i:Int,cs = [.int .i64 i] ∧ -9223372036854775808 ≤ i ∧ i ≤ 9223372036854775807:=by
 obtain ⟨i,h1,_,h3⟩:=DataW.trod_int ht h
 refine ⟨i,h1,?_⟩
 simpa [Lit.wf,IntKind.min,IntKind.max,IntKind.signed,IntKind.bits] using h3

def I64 (x:Int):Prop:=-9223372036854775808 ≤ x ∧ x ≤ 9223372036854775807

theorem rd_ints {t e:TypeId} {n:Nat} {v:Value} {y:DataW H × List MemPlace} (ht:P.underlying t = some (.slice e)) (he:P.underlying e = some (.int .i64)) (hc:P.cellsOf e = 1) (h:DataW.trod enc P w base (fun _=>true) held n t [v] = some y) :
  ∃ A c,∃ l:List Int,v = .slice A l.length c ∧ Ints w A l ∧ l.length ≤ 9223372036854775807 ∧ (A = none → l = []) ∧ ∀ x ∈ l,I64 x:=by
 obtain ⟨A,len,cap,rfl,hl,hn,hx⟩:=rd_slice ht hc (by omega) h
 have key:∀ i,i < len → ∃ x:Int,(∃ b off,A = some ⟨b,off,none⟩ ∧ b < w.heap.size ∧ w.cell? ⟨b,off + i,none⟩ = some (.int .i64 x)) ∧ I64 x:=by
  intro i hi
  obtain ⟨b,off,m,cs,z,hA,hb,hlen,hcell,ht'⟩:=hx i hi
  obtain ⟨x,rfl,h1,h2⟩:=rd_int he ht'
  have:=hcell 0 (by omega)
  rw [Nat.mul_one,Nat.add_zero] at this
  exact ⟨x,⟨b,off,hA,hb,this⟩,h1,h2⟩
 obtain ⟨f,hf⟩:=choose_lt key
 have hlen:((List.range len).map f).length = len:=by simp
 refine ⟨A,cap,(List.range len).map f,by rw [hlen],fun k hk=>?_,by omega,fun hA=>by rw [hn hA];rfl,fun x hx'=>?_⟩
 ·rw [hlen] at hk
  obtain ⟨⟨b,off,h1,h2,h3⟩,_⟩:=hf k hk
  exact ⟨b,off,h1,h2,by rw [h3];simp [List.getD,hk]⟩
 ·obtain ⟨k,hk,rfl⟩:=List.mem_map.1 hx'
  exact (hf k (by simpa using hk)).2

/-- A world that only has more. -/
theorem since_of_ext {W W':World} (h:Ext W W'):W.Since W.heap.size W':=⟨h.os,h.tape,h.output,h.size,fun k hk=>h.block k hk⟩
/-- An argument reads as before in a world that only has more. -/
theorem stays {t:TypeId} (hl:laidOutB P = true) (hr:P.readableRec t = true) (hrow:t < P.types.size) {W W':World} {sp':Nat → Bool} {v:Value} {d:DataW H} {ps:List MemPlace}
  (h:DataW.Trod enc P W 0 (fun _=>true) true t v d ps) (hE:Ext W W') (hlt:∀ p ∈ ps,p.block < W.heap.size) (hs:∀ p ∈ ps,sp' p.block = true):DataW.Trod enc P W' 0 sp' true t v d ps :=
 WideElems.Trod_stays hl hr hrow h (fun p hp=>(since_of_ext hE).sameAt (hlt p hp)) hs
end
end Go.Proofs.YtodpjdmdmmnlpaaGreat

namespace Go.Proofs.YtodpjdmdmmnlpaaGreat
open Go.RowKit Go.ChangeShapes Go.WideShapes Go.Deep Go.ChangeAt

section
variable {H:Type} {enc:TypeId × Value → H} {P:Program}
theorem staysAll (hl:laidOutB P = true) {W W':World} (hE:Ext W W') {sp':Nat → Bool}:∀ {ts:List TypeId} {vs:List Value} {ds:List (DataW H)} {ps:List MemPlace},(∀ t ∈ ts,P.readableRec t = true ∧ t < P.types.size) →
  DataW.TrodAll enc P W 0 (fun _=>true) true ts vs ds ps → (∀ p ∈ ps,p.block < W.heap.size) → (∀ p ∈ ps,sp' p.block = true) → DataW.TrodAll enc P W' 0 sp' true ts vs ds ps:=by
 intro ts
 induction ts with
 | nil =>
  intro vs ds ps _ h _ _
  obtain ⟨rfl,rfl,rfl⟩:=trodAll_nil h
  exact trodAll_mk0
 | cons t ts ih =>
  intro vs ds ps ht h hlt hs
  obtain ⟨v,vs',d,ds',p,q,rfl,rfl,rfl,h0,hr⟩:=trodAll_cons h
  exact trodAll_cons_mk (stays hl (ht t List.mem_cons_self).1 (ht t List.mem_cons_self).2 h0 hE (fun x hx=>hlt x (List.mem_append_left _ hx)) (fun x hx=>hs x (List.mem_append_left _ hx)))
   (ih (fun t' h'=>ht t' (List.mem_cons_of_mem _ h')) hr (fun x hx=>hlt x (List.mem_append_right _ hx)) (fun x hx=>hs x (List.mem_append_right _ hx)))

theorem trodLen {w:World} {base:Nat} {spare:Nat → Bool} {held:Bool}:∀ {ts:List TypeId} {vs:List Value} {ds:List (DataW H)} {ps:List MemPlace},DataW.TrodAll enc P w base spare held ts vs ds ps → ds.length = ts.length:=by
 intro ts
 induction ts with
 | nil =>
  intro vs ds ps h
  obtain ⟨rfl,rfl,rfl⟩:=trodAll_nil h
  rfl
 | cons t ts ih =>
  intro vs ds ps h
  obtain ⟨v,vs',d,ds',p,q,rfl,rfl,rfl,h0,hr⟩:=trodAll_cons h
  simp [ih hr]

theorem law_post {f:Func} {s:ChangeSpec} {W W':World} {args:Array Value} {ds gs:List (DataW H)} {before:List MemPlace} {tb:TypeId} (hl:laidOutB P = true) (hts:∀ t ∈ f.params.toList,P.readableRec t = true ∧ t < P.types.size)
  (hv:s.vars = []) (hb:P.underlying tb = some .bool) (hrt:f.resultTypes = #[tb]) (hspec:∀ l:List (DataW H),l.length = f.params.toList.length → s.fn H (l ++ []) = { results:=[.lit (.bool true)],args:=l,vars:=[] })
  (hW:DataW.Whole enc P f.params.toList s.vars false W args.toList ds gs before) (hE:Ext W W'):s.post enc P f false true false false W args (.bool true) W':=by
 have hW':=hW
 obtain ⟨p,q,hA,hV,rfl,_,_⟩:=hW
 rw [hv] at hV
 obtain ⟨rfl,rfl⟩:=trodVars_none hV
 have hlt:∀ x ∈ p,x.block < W.heap.size:=fun x hx=>hW'.lt x (by simp [hx])
 have hlen:=trodLen hA
 have hs:=hspec ds hlen
 refine ⟨ds,[],_,[],p,[],hW',?_,?_,?_,(since_of_ext hE).frame _,fun h=>by cases h⟩
 ·rw [hs,hrt]
  exact trodAll_cons_mk (shut_bool hb _) trodAll_mk0
 ·rw [hs]
  exact staysAll hl hE hts hA hlt (fun x hx=>by simpa using hlt x hx)
 ·rw [hs,hv]
  rfl
end
end Go.Proofs.YtodpjdmdmmnlpaaGreat

namespace Go.Proofs.YtodpjdmdmmnlpaaGreat
open Go.RowKit Go.ChangeShapes Go.WideShapes Go.Deep

def nobody : Nat → Prop:=fun _=>False
/-- Cells that are as a table says. -/
def CellsAre (w:World) (cs:List Value) (sz:Nat) (c:Nat → AV):Prop:=cs.length = sz ∧ ∀ o,o < sz → ∃ u,cs[o]? = some u ∧ u.oneCell' = true ∧ rep nobody w (c o) g0 u
theorem law_calls {P:Program} {f:FuncId} {xs:List AV} (H:ACall P f xs [] (fun r h=>r = .bool true ∧ h = [])) {w:World} {vs:Array Value} (hs:vs.size = xs.length) (hr:∀ (i:Nat) (x:AV),xs[i]? = some x → rep nobody w x g0 (vs.getD i undef)) :
  Calls P f vs w fun e w'=>e = .returned (.bool true) ∧ Ext w w':=by
 have noM:∀ b,MM nobody g0 [] b → False:=fun b hb=>by
  rcases hb with hb|⟨d,cap,⟨x,hx,_⟩,_⟩
  ·exact hb
  ·simp at hx
 refine (H.2 nobody g0 w vs (HOK.nil w (fun _ h=>h.elim)) hs fun i x hx=>rep_mono (Chg.refl _ w) (fun b _ hb=>(noM b hb).elim) _ (GM.le_refl _) (hr i x hx)).mono ?_
 rintro e w' ⟨v,r,h',g',rfl,T,hv,rfl,_⟩
 have:v = .bool true:=hv
 subst this
 exact ⟨rfl,T.chg.os,T.chg.tape,T.chg.output,T.chg.size,fun b hb=>T.chg.block b hb (fun hm=>noM b (.inr hm))⟩
theorem CellsAre.agg {w:World} {cs:List Value} {sz:Nat} {c:Nat → AV} (h:CellsAre w cs sz c):rep nobody w (.agg sz c) g0 (.agg cs.toArray) :=
 ⟨_,rfl,by simp [h.1],fun i hi=>by obtain ⟨u,h1,h2,h3⟩:=h.2 i hi;exact ⟨u,by simpa using h1,h2,h3⟩⟩
theorem CellsAre.val {w:World} {v:Value} {cs:List Value} {c:Nat → AV} (h:CellsAre w cs 1 c) (hv:cs = [v]):rep nobody w (c 0) g0 v:=by
 subst hv
 obtain ⟨u,h1,_,h3⟩:=h.2 0 (by omega)
 simp at h1
 rw [h1];exact h3
theorem CellsAre.sub {w:World} {cs:List Value} {off k:Nat} {c:Nat → AV} (h:CellsAre w ((cs.drop off).take k) k c) {o:Nat} (ho:o < k):∃ u,cs[off + o]? = some u ∧ u.oneCell' = true ∧ rep nobody w (c o) g0 u:=by
 obtain ⟨u,h1,h2⟩:=h.2 o ho
 rw [List.getElem?_take] at h1
 simp only [ho,if_true,List.getElem?_drop] at h1
 exact ⟨u,h1,h2⟩
theorem CellsAre.one {w : World} {v : Value} {x : AV} (h1 : v.oneCell' = true) (h : rep nobody w x g0 v) : CellsAre w [v] 1 (fun _ => x) :=
  ⟨rfl, fun o ho => by obtain rfl : o = 0 := (by omega)
                       exact ⟨v, rfl, h1, h⟩⟩
section
variable {H:Type} {enc:TypeId × Value → H} {P:Program} {w:World} {base:Nat} {held:Bool}
theorem rdr_int {t:TypeId} {n:Nat} {cs:List Value} {y:DataW H × List MemPlace} (ht:P.underlying t = some (.int .i64)) (h:DataW.trod enc P w base (fun _=>true) held n t cs = some y):∃ i:Int,I64 i ∧ CellsAre w cs 1 (fun _=>.int .i64 i):=by
 obtain ⟨i,rfl,hi⟩:=rd_int ht h
 exact ⟨i,hi,.one rfl rfl⟩
theorem rdr_slice {α:Type} {t e:TypeId} {sz:Nat} (c:α → Nat → AV) (Q:α → Prop) (d:α) (ht:P.underlying t = some (.slice e)) (hc:P.cellsOf e = sz) (hsz:0 < sz) (rd:∀ {n:Nat} {cs:List Value} {y:DataW H × List MemPlace},DataW.trod enc P w base (fun _=>true) held n e cs = some y → ∃ x,Q x ∧ CellsAre w cs sz (c x))
  {n:Nat} {cs:List Value} {y:DataW H × List MemPlace} (h:DataW.trod enc P w base (fun _=>true) held n t cs = some y) :
  ∃ (z:Bool) (l:List α),(l.length ≤ 9223372036854775807 ∧ ∀ x ∈ l,Q x) ∧ CellsAre w cs 1 (fun _=>.sl z false l.length sz (fun k=>c (l.getD k d))):=by
 have hmx:maxLen = 9223372036854775807:=rfl
 have h':=h
 rcases open_slice ht h with ⟨rfl,_⟩|⟨a,len,cap,m,n',D,Pl,rfl,hb,hl,hm,hmm,_,hx⟩
 ·refine ⟨true,[],⟨by simp,fun x hx=>by cases hx⟩,.one rfl ⟨none,0,rfl,by simp,by simp,fun h=>(by cases h),by simp,fun k hk=>absurd hk (Nat.not_lt_zero k)⟩⟩
 ·obtain ⟨A,len',cap',h0,hl',hn,hxx⟩:=rd_slice ht hc hsz h'
  injection h0 with e1 e2 e3
  subst e1;subst e2;subst e3
  have key:∀ i,i < len → ∃ x:α,Q x ∧ ∃ b off,(some a:Option Addr) = some ⟨b,off,none⟩ ∧ b < w.heap.size ∧ ∀ o,o < sz → ∃ u,w.cell? ⟨b,off + i * sz + o,none⟩ = some u ∧ u.oneCell' = true ∧ rep nobody w (c x o) g0 u:=fun i hi=>by
   obtain ⟨b,off,m,cs,z,hA,hb,hlen,hcell,ht'⟩:=hxx i hi
   obtain ⟨x,hq,hcs⟩:=rd ht'
   refine ⟨x,hq,b,off,hA,hb,fun o ho=>?_⟩
   obtain ⟨u,h1,h2⟩:=hcs.2 o ho
   exact ⟨u,(hcell o ho).trans h1,h2⟩
  obtain ⟨f,hf⟩:∃ f:Nat → α,∀ i,i < len → Q (f i) ∧ ∃ b off,(some a:Option Addr) = some ⟨b,off,none⟩ ∧ b < w.heap.size ∧ ∀ o,o < sz → ∃ u,w.cell? ⟨b,off + i * sz + o,none⟩ = some u ∧ u.oneCell' = true ∧ rep nobody w (c (f i) o) g0 u:=by
   refine ⟨fun i=>open Classical in if hi:i < len then (key i hi).choose else d,fun i hi=>?_⟩
   simp only [hi,dif_pos]
   exact (key i hi).choose_spec
  have hlen:((List.range len).map f).length = len:=by simp
  refine ⟨false,(List.range len).map f,⟨by rw [hlen];omega,fun x hx=>?_⟩,?_⟩
  ·obtain ⟨k,hk,rfl⟩:=List.mem_map.1 hx
   exact (hf k (by simpa using hk)).1
  ·refine .one rfl ⟨some a,cap,by rw [hlen],by simp,by simp,fun h=>(by cases h),by rw [hlen];exact hl,fun k hk o ho=>?_⟩
   rw [hlen] at hk
   obtain ⟨_,b,off,h1,h2,h3⟩:=hf k hk
   obtain ⟨u,h4,h5,h6⟩:=h3 o ho
   have hg:((List.range len).map f).getD k d = f k:=by simp [List.getD,hk]
   exact ⟨b,off,u,h1,h2,fun h=>h,h4,h5,by show rep nobody w (c (((List.range len).map f).getD k d) o) g0 u;rw [hg];exact h6⟩
theorem rdr_field {t:TypeId} {fs:Array Field} {n:Nat} {cs:List Value} {y:DataW H × List MemPlace} (ht:P.underlying t = some (.struct fs)) (h:DataW.trod enc P w base (fun _=>true) held n t cs = some y):cs.length = P.cellsOf t ∧ ∀ (k:Nat) (f:Field),fs[k]? = some f → ∃ m x,DataW.trod enc P w base (fun _=>true) held m f.type ((cs.drop f.offset).take (P.cellsOf f.type)) = some x:=by
 obtain ⟨xs,m,_,rfl,hl,hlen,hf⟩:=DataW.trod_struct ht h
 refine ⟨hl,fun k f hk=>?_⟩
 have hk':k < fs.size:=by
  rcases Nat.lt_or_ge k fs.size with h|h
  ·exact h
  ·rw [Array.getElem?_eq_none h] at hk;cases hk
 have:=hf k f hk
 rw [List.getElem?_eq_getElem (by omega)] at this
 exact ⟨m,_,this⟩
/-- Each field reads. -/
def FRd (enc:TypeId × Value → H) (P:Program) (w:World) (base:Nat) (held:Bool) (cs:List Value):List Field → Prop
 | []=>True
 | f :: fs=>(∃ m x,DataW.trod enc P w base (fun _=>true) held m f.type ((cs.drop f.offset).take (P.cellsOf f.type)) = some x) ∧ FRd enc P w base held cs fs
theorem FRd.of {cs:List Value}:∀ {l:List Field},(∀ f ∈ l,∃ m x,DataW.trod enc P w base (fun _=>true) held m f.type ((cs.drop f.offset).take (P.cellsOf f.type)) = some x) → FRd enc P w base held cs l
 | [],_=>trivial
 | _ :: _,h=>⟨h _ List.mem_cons_self,FRd.of fun f hf=>h f (List.mem_cons_of_mem _ hf)⟩
theorem rdr_fields {t:TypeId} {fs:Array Field} {n:Nat} {cs:List Value} {y:DataW H × List MemPlace} (ht:P.underlying t = some (.struct fs)) (h:DataW.trod enc P w base (fun _=>true) held n t cs = some y):cs.length = P.cellsOf t ∧ FRd enc P w base held cs fs.toList:=by
 obtain ⟨h1,h2⟩:=rdr_field ht h
 refine ⟨h1,FRd.of fun f hf=>?_⟩
 obtain ⟨k,hk,rfl⟩:=List.getElem_of_mem hf
 exact h2 k _ (by simp)
end
end Go.Proofs.YtodpjdmdmmnlpaaGreat
