/- From handed data to abstract values; from a reading of a law to what its row asks / Cover: how pools and watches read. / Relay: studios and answers as plain data; waiting; ways to answer / Relay: the search spot by spot finds best answers / Relay: answers as lists -/
import Derived.Test.YtjfldbkjfaopbaaBp15
import Derived.Test.YtjfldbkjfaopbaaBp22
import Derived.Test.YtjfldbkjfaopbaaBp16
set_option linter.unusedSimpArgs false
set_option linter.unusedVariables false
namespace Go.Proofs.Ytjfldbkjfaopbaa
open Go.RowKit Go.ChangeShapes Go.WideShapes Go.Deep

def nobody : Nat → Prop:=fun _=>False
/-- Cells that are as a table says. -/
def CellsAre (w:World) (cs:List Value) (sz:Nat) (c:Nat → AV):Prop:=cs.length = sz ∧ ∀ o,o < sz → ∃ u,cs[o]? = some u ∧ u.oneCell' = true ∧ rep nobody w (c o) g0 u
theorem law_calls {P:Program} {f:FuncId} {xs:List AV} (H:ACall P f xs [] (fun r h=>r = .bool true ∧ h = [])) {w:World} {vs:Array Value} (hs:vs.size = xs.length) (hr:∀ (i:Nat) (x:AV),xs[i]? = some x → rep nobody w x g0 (vs.getD i undef)) :
  Calls P f vs w fun e w'=>e = .returned (.bool true) ∧ Ext w w':=by
 have noM:∀ b,MM nobody g0 [] b → False:=fun b hb=>by
  rcases hb with hb|⟨d,cap,⟨x,hx,_⟩,_⟩
  ·exact hb
  ·simp at hx
 refine (H.2 nobody g0 w vs (HOK.nil w (fun _ h=>h.elim)) hs fun i x hx=>rep_mono (Chg.refl _ w) (fun b _ hb=>(noM b hb).elim) _ (GM.le_refl _) (hr i x hx)).mono ?_
 rintro e w' ⟨v,r,h',g',rfl,T,hv,rfl,_⟩
 have:v = .bool true:=hv
 subst this
 exact ⟨rfl,T.chg.os,T.chg.tape,T.chg.output,T.chg.size,fun b hb=>T.chg.block b hb (fun hm=>noM b (.inr hm))⟩
theorem CellsAre.agg {w:World} {cs:List Value} {sz:Nat} {c:Nat → AV} (h:CellsAre w cs sz c):rep nobody w (.agg sz c) g0 (.agg cs.toArray) :=
 ⟨_,rfl,by simp [h.1],fun i hi=>by obtain ⟨u,h1,h2,h3⟩:=h.2 i hi;exact ⟨u,by simpa using h1,h2,h3⟩⟩
theorem CellsAre.val {w:World} {v:Value} {cs:List Value} {c:Nat → AV} (h:CellsAre w cs 1 c) (hv:cs = [v]):rep nobody w (c 0) g0 v:=by
 subst hv
 obtain ⟨u,h1,_,h3⟩:=h.2 0 (by omega)
 simp at h1
 rw [h1];exact h3
theorem CellsAre.sub {w:World} {cs:List Value} {off k:Nat} {c:Nat → AV} (h:CellsAre w ((cs.drop off).take k) k c) {o:Nat} (ho:o < k):∃ u,cs[off + o]? = some u ∧ u.oneCell' = true ∧ rep nobody w (c o) g0 u:=by
 obtain ⟨u,h1,h2⟩:=h.2 o ho
 rw [List.getElem?_take] at h1
 simp only [ho,if_true,List.getElem?_drop] at h1
 exact ⟨u,h1,h2⟩
theorem CellsAre.one {w : World} {v : Value} {x : AV} (h1 : v.oneCell' = true) (h : rep nobody w x g0 v) : CellsAre w [v] 1 (fun _ => x) :=
  ⟨rfl, fun o ho => by obtain rfl : o = 0 := (by omega)
                       exact ⟨v, rfl, h1, h⟩⟩
section
variable {H:Type} {enc:TypeId × Value → H} {P:Program} {w:World} {base:Nat} {held:Bool}
theorem rdr_int {t:TypeId} {n:Nat} {cs:List Value} {y:DataW H × List MemPlace} (ht:P.underlying t = some (.int .i64)) (h:DataW.trod enc P w base (fun _=>true) held n t cs = some y):∃ i:Int,I64 i ∧ CellsAre w cs 1 (fun _=>.int .i64 i):=by
 obtain ⟨i,rfl,hi⟩:=rd_int ht h
 exact ⟨i,hi,.one rfl rfl⟩
theorem rdr_slice {α:Type} {t e:TypeId} {sz:Nat} (c:α → Nat → AV) (Q:α → Prop) (d:α) (ht:P.underlying t = some (.slice e)) (hc:P.cellsOf e = sz) (hsz:0 < sz) (rd:∀ {n:Nat} {cs:List Value} {y:DataW H × List MemPlace},DataW.trod enc P w base (fun _=>true) held n e cs = some y → ∃ x,Q x ∧ CellsAre w cs sz (c x))
  {n:Nat} {cs:List Value} {y:DataW H × List MemPlace} (h:DataW.trod enc P w base (fun _=>true) held n t cs = some y) :
  ∃ (z:Bool) (l:List α),(l.length ≤ 9223372036854775807 ∧ ∀ x ∈ l,Q x) ∧ CellsAre w cs 1 (fun _=>.sl z false l.length sz (fun k=>c (l.getD k d))):=by
 have hmx:maxLen = 9223372036854775807:=rfl
 have h':=h
 rcases open_slice ht h with ⟨rfl,_⟩|⟨a,len,cap,m,n',D,Pl,rfl,hb,hl,hm,hmm,_,hx⟩
 ·refine ⟨true,[],⟨by simp,fun x hx=>by cases hx⟩,.one rfl ⟨none,0,rfl,by simp,by simp,fun h=>(by cases h),by simp,fun k hk=>absurd hk (Nat.not_lt_zero k)⟩⟩
 ·obtain ⟨A,len',cap',h0,hl',hn,hxx⟩:=rd_slice ht hc hsz h'
  injection h0 with e1 e2 e3
  subst e1;subst e2;subst e3
  have key:∀ i,i < len → ∃ x:α,Q x ∧ ∃ b off,(some a:Option Addr) = some ⟨b,off,none⟩ ∧ b < w.heap.size ∧ ∀ o,o < sz → ∃ u,w.cell? ⟨b,off + i * sz + o,none⟩ = some u ∧ u.oneCell' = true ∧ rep nobody w (c x o) g0 u:=fun i hi=>by
   obtain ⟨b,off,m,cs,z,hA,hb,hlen,hcell,ht'⟩:=hxx i hi
   obtain ⟨x,hq,hcs⟩:=rd ht'
   refine ⟨x,hq,b,off,hA,hb,fun o ho=>?_⟩
   obtain ⟨u,h1,h2⟩:=hcs.2 o ho
   exact ⟨u,(hcell o ho).trans h1,h2⟩
  obtain ⟨f,hf⟩:∃ f:Nat → α,∀ i,i < len → Q (f i) ∧ ∃ b off,(some a:Option Addr) = some ⟨b,off,none⟩ ∧ b < w.heap.size ∧ ∀ o,o < sz → ∃ u,w.cell? ⟨b,off + i * sz + o,none⟩ = some u ∧ u.oneCell' = true ∧ rep nobody w (c (f i) o) g0 u:=by
   refine ⟨fun i=>open Classical in if hi:i < len then (key i hi).choose else d,fun i hi=>?_⟩
   simp only [hi,dif_pos]
   exact (key i hi).choose_spec
  have hlen:((List.range len).map f).length = len:=by simp
  refine ⟨false,(List.range len).map f,⟨by rw [hlen];omega,fun x hx=>?_⟩,?_⟩
  ·obtain ⟨k,hk,rfl⟩:=List.mem_map.1 hx
   exact (hf k (by simpa using hk)).1
  ·refine .one rfl ⟨some a,cap,by rw [hlen],by simp,by simp,fun h=>(by cases h),by rw [hlen];exact hl,fun k hk o ho=>?_⟩
   rw [hlen] at hk
   obtain ⟨_,b,off,h1,h2,h3⟩:=hf k hk
   obtain ⟨u,h4,h5,h6⟩:=h3 o ho
   have hg:((List.range len).map f).getD k d = f k:=by simp [List.getD,hk]
   exact ⟨b,off,u,h1,h2,fun h=>h,h4,h5,by show rep nobody w (c (((List.range len).map f).getD k d) o) g0 u;rw [hg];exact h6⟩
theorem rdr_field {t:TypeId} {fs:Array Field} {n:Nat} {cs:List Value} {y:DataW H × List MemPlace} (ht:P.underlying t = some (.struct fs)) (h:DataW.trod enc P w base (fun _=>true) held n t cs = some y):cs.length = P.cellsOf t ∧ ∀ (k:Nat) (f:Field),fs[k]? = some f → ∃ m x,DataW.trod enc P w base (fun _=>true) held m f.type ((cs.drop f.offset).take (P.cellsOf f.type)) = some x:=by
 obtain ⟨xs,m,_,rfl,hl,hlen,hf⟩:=DataW.trod_struct ht h
 refine ⟨hl,fun k f hk=>?_⟩
 have hk':k < fs.size:=by
  rcases Nat.lt_or_ge k fs.size with h|h
  ·exact h
  ·rw [Array.getElem?_eq_none h] at hk;cases hk
 have:=hf k f hk
 rw [List.getElem?_eq_getElem (by omega)] at this
 exact ⟨m,_,this⟩
/-- Each field reads. -/
def FRd (enc:TypeId × Value → H) (P:Program) (w:World) (base:Nat) (held:Bool) (cs:List Value):List Field → Prop
 | []=>True
 | f :: fs=>(∃ m x,DataW.trod enc P w base (fun _=>true) held m f.type ((cs.drop f.offset).take (P.cellsOf f.type)) = some x) ∧ FRd enc P w base held cs fs
theorem FRd.of {cs:List Value}:∀ {l:List Field},(∀ f ∈ l,∃ m x,DataW.trod enc P w base (fun _=>true) held m f.type ((cs.drop f.offset).take (P.cellsOf f.type)) = some x) → FRd enc P w base held cs l
 | [],_=>trivial
 | _ :: _,h=>⟨h _ List.mem_cons_self,FRd.of fun f hf=>h f (List.mem_cons_of_mem _ hf)⟩
theorem rdr_fields {t:TypeId} {fs:Array Field} {n:Nat} {cs:List Value} {y:DataW H × List MemPlace} (ht:P.underlying t = some (.struct fs)) (h:DataW.trod enc P w base (fun _=>true) held n t cs = some y):cs.length = P.cellsOf t ∧ FRd enc P w base held cs fs.toList:=by
 obtain ⟨h1,h2⟩:=rdr_field ht h
 refine ⟨h1,FRd.of fun f hf=>?_⟩
 obtain ⟨k,hk,rfl⟩:=List.getElem_of_mem hf
 exact h2 k _ (by simp)
end
end Go.Proofs.Ytjfldbkjfaopbaa

namespace Go.Proofs.Ytjfldbkjfaopbaa
open Go.RowKit Go.ChangeShapes Go.WideShapes Go.Deep

theorem in64_get {l:List Int} (h:∀ x ∈ l,I64 x):∀ s,s < l.length → in64 (l.getD s 0):=fun s hs=>by
 have:=h (l.getD s 0) (by simp [List.getD,List.getElem?_eq_getElem hs])
 exact this
section
variable {H:Type} {enc:TypeId × Value → H} {w:World} {base:Nat} {held:Bool}
theorem csz : Try.prog.cellsOf 3 = 1 ∧ Try.prog.cellsOf 26 = 1 ∧ Try.prog.cellsOf 23 = 1 ∧ Try.prog.cellsOf 43 = 3 ∧ Try.prog.cellsOf 22 = 1 ∧ Try.prog.cellsOf 25 = 4:=by
 refine ⟨?_,?_,?_,?_,?_,?_⟩ <;> kernel_rfl
theorem rt_int {n:Nat} {cs:List Value} {y:DataW H × List MemPlace} (h:DataW.trod enc Try.prog w base (fun _=>true) held n 3 cs = some y):∃ i:Int,I64 i ∧ CellsAre w cs 1 (fun _=>AI i):=rdr_int Try.underlying3 h
theorem rt_ints {n:Nat} {cs:List Value} {y:DataW H × List MemPlace} (h:DataW.trod enc Try.prog w base (fun _=>true) held n 26 cs = some y):∃ (z:Bool) (l:List Int),(l.length ≤ 9223372036854775807 ∧ ∀ x ∈ l,I64 x) ∧ CellsAre w cs 1 (fun _=>aInts z false l) :=
 rdr_slice (fun (x:Int) _=>AI x) I64 0 Try.underlying26 csz.1 (by omega) rt_int h
theorem rt_row {n:Nat} {cs:List Value} {y:DataW H × List MemPlace} (h:DataW.trod enc Try.prog w base (fun _=>true) held n 26 cs = some y):∃ x:Bool × List Int,True ∧ CellsAre w cs 1 (fun _=>aInts x.1 false x.2):=by
 obtain ⟨z,l,_,c⟩:=rt_ints h
 exact ⟨(z,l),trivial,c⟩
theorem rt_rows {n:Nat} {cs:List Value} {y:DataW H × List MemPlace} (h:DataW.trod enc Try.prog w base (fun _=>true) held n 23 cs = some y):∃ (z:Bool) (rz:Nat → Bool) (l:List (List Int)),True ∧ CellsAre w cs 1 (fun _=>aRows z false rz (fun _=>false) l):=by
 obtain ⟨z,l,_,c⟩:=rdr_slice (fun (x:Bool × List Int) _=>aInts x.1 false x.2) (fun _=>True) (true,[]) Try.underlying23 csz.2.1 (by omega) rt_row h
 have hb:∀ k,(l.map Prod.snd).getD k [] = (l.getD k (true,[])).2:=fun k=>by
  simp only [List.getD,List.getElem?_map]
  cases l[k]? <;> rfl
 refine ⟨z,fun k=>(l.getD k (true,[])).1,l.map Prod.snd,trivial,?_⟩
 simp only [aRows,List.length_map,hb]
 exact c
theorem rt_folk {n:Nat} {cs:List Value} {y:DataW H × List MemPlace} (h:DataW.trod enc Try.prog w base (fun _=>true) held n 43 cs = some y):∃ x:Folk,(I64 x.tongues ∧ I64 x.slots ∧ I64 x.pay) ∧ CellsAre w cs 3 (cFolk x):=by
 obtain ⟨hl,⟨_,_,h0⟩,⟨_,_,h1⟩,⟨_,_,h2⟩,_⟩:=rdr_fields Try.underlying43 h
 simp only [csz.1] at h0 h1 h2
 obtain ⟨a,ha,c0⟩:=rt_int h0
 obtain ⟨b,hb,c1⟩:=rt_int h1
 obtain ⟨c,hc,c2⟩:=rt_int h2
 refine ⟨⟨a,b,c⟩,⟨ha,hb,hc⟩,by rw [hl];exact csz.2.2.2.1,fun o ho=>?_⟩
 rcases (show o = 0 ∨ o = 1 ∨ o = 2 by omega) with rfl|rfl|rfl
 ·exact c0.sub (o:=0) (by omega)
 ·exact c1.sub (o:=0) (by omega)
 ·exact c2.sub (o:=0) (by omega)
theorem rt_folks {n:Nat} {cs:List Value} {y:DataW H × List MemPlace} (h:DataW.trod enc Try.prog w base (fun _=>true) held n 22 cs = some y):∃ (z:Bool) (l:List Folk),(l.length ≤ 9223372036854775807 ∧ ∀ x ∈ l,I64 x.tongues ∧ I64 x.slots ∧ I64 x.pay) ∧ CellsAre w cs 1 (fun _=>aFolks z false l) :=
 rdr_slice cFolk (fun x=>I64 x.tongues ∧ I64 x.slots ∧ I64 x.pay) fo0 Try.underlying22 csz.2.2.2.1 (by omega) rt_folk h
theorem rt_pool {n:Nat} {cs:List Value} {y:DataW H × List MemPlace} (h:DataW.trod enc Try.prog w base (fun _=>true) held n 25 cs = some y):∃ (f:PoF) (p:Pool),True ∧ CellsAre w cs 4 (cPool f p):=by
 obtain ⟨hl,⟨_,_,h0⟩,⟨_,_,h1⟩,⟨_,_,h2⟩,⟨_,_,h3⟩,_⟩:=rdr_fields Try.underlying25 h
 simp only [csz.1,csz.2.2.1,csz.2.2.2.2.1] at h0 h1 h2 h3
 obtain ⟨z0,a,_,c0⟩:=rt_folks h0
 obtain ⟨z1,rz,b,_,c1⟩:=rt_rows h1
 obtain ⟨c,_,c2⟩:=rt_int h2
 obtain ⟨d,_,c3⟩:=rt_int h3
 refine ⟨⟨z0,false,z1,false,rz,fun _=>false⟩,⟨a,b,c,d⟩,trivial,by rw [hl];exact csz.2.2.2.2.2,fun o ho=>?_⟩
 rcases (show o = 0 ∨ o = 1 ∨ o = 2 ∨ o = 3 by omega) with rfl|rfl|rfl|rfl
 ·exact c0.sub (o:=0) (by omega)
 ·exact c1.sub (o:=0) (by omega)
 ·exact c2.sub (o:=0) (by omega)
 ·exact c3.sub (o:=0) (by omega)
end
end Go.Proofs.Ytjfldbkjfaopbaa

namespace Go.Proofs.Ytjfldbkjfaopbaa.Q

structure Sgn where
 tongues:Int
 from_:Int
 until_:Int
 deriving Inhabited
structure Rng where
 tongue:Int
 at_:Int
 urg:Bool
 deriving Inhabited
structure Std where
 times:Int
 sg:List Sgn
 rg:List Rng
def sg0 : Sgn:=⟨0,0,0⟩
def rg0 : Rng:=⟨0,0,false⟩
def Std.S (s:Std) (i:Nat):Sgn:=s.sg.getD i sg0
def Std.R (s:Std) (c:Nat):Rng:=s.rg.getD c rg0
def Std.T (s:Std):Nat:=s.times.toNat
def Std.n (s:Std):Nat:=s.sg.length
def Std.C (s:Std):Nat:=s.rg.length
abbrev inB (n lo hi:Int):Bool:=decide (lo ≤ n ∧ n ≤ hi)
def Sgn.ok (t:Int) (x:Sgn):Bool:=inB x.tongues 0 31 && inB x.from_ 0 x.until_ && decide (x.until_ ≤ t)
def Rng.ok (t:Int) (x:Rng):Bool:=inB x.tongue 0 4 && inB x.at_ 0 (t - 1)
def Std.head (s:Std):Bool:=inB s.times 1 8 && inB s.sg.length 1 4 && decide ((s.rg.length:Int) ≤ 12)
def Std.ok (s:Std):Bool:=s.head && s.sg.all (Sgn.ok s.times) && s.rg.all (Rng.ok s.times)
def checkS (s:Std):Int:=if s.ok then 0 else 60
theorem check_0 {s:Std}:checkS s = 0 ↔ s.ok = true:=by
 unfold checkS
 cases s.ok <;> simp
theorem check_60 {s:Std} (h:s.ok = false):checkS s = 60:=by unfold checkS;rw [h];rfl
theorem check_ok' {s:Std} (h:s.ok = true):checkS s = 0:=check_0.2 h
structure StdOk (s:Std):Prop where
 t:(s.T:Int) = s.times
 t1:1 ≤ s.T
 t8:s.T ≤ 8
 n1:1 ≤ s.n
 n4:s.n ≤ 4
 c12:s.C ≤ 12
 sg:∀ i,i < s.n → (0 ≤ (s.S i).tongues ∧ (s.S i).tongues ≤ 31) ∧ 0 ≤ (s.S i).from_ ∧ (s.S i).from_ ≤ (s.S i).until_ ∧ (s.S i).until_ ≤ s.times
 rg:∀ c,c < s.C → (0 ≤ (s.R c).tongue ∧ (s.R c).tongue ≤ 4) ∧ 0 ≤ (s.R c).at_ ∧ (s.R c).at_ < s.times
theorem all_getD {α:Type} {q:α → Bool} {l:List α} (d:α) (h:l.all q = true) {i:Nat} (hi:i < l.length):q (l.getD i d) = true:=by
 simp only [List.getD,List.getElem?_eq_getElem hi,Option.getD_some]
 exact List.all_eq_true.1 h _ (List.getElem_mem hi)
theorem std_d {s:Std} (h:s.ok = true):StdOk s:=by
 unfold Std.ok Std.head at h
 simp only [Bool.and_eq_true,decide_eq_true_eq] at h
 obtain ⟨⟨⟨⟨a,b⟩,c⟩,d⟩,e⟩:=h
 have ht:(s.T:Int) = s.times:=by unfold Std.T;omega
 refine ⟨ht,by omega,by omega,by unfold Std.n;omega,by unfold Std.n;omega,by unfold Std.C;omega,fun i hi=>?_,fun i hi=>?_⟩
 ·have:=all_getD sg0 d hi
  unfold Sgn.ok at this
  simp only [Bool.and_eq_true,decide_eq_true_eq] at this
  unfold Std.S;omega
 ·have:=all_getD rg0 e hi
  unfold Rng.ok at this
  simp only [Bool.and_eq_true,decide_eq_true_eq] at this
  unfold Std.R;omega
/-- A signer can answer a call at a time. -/
def canA (s:Std) (i:Nat) (t:Int) (c:Nat):Bool:=decide ((s.S i).from_ ≤ t) && decide (t < (s.S i).until_) && decide ((s.R c).at_ ≤ t) && (s.S i).tongues.toNat.testBit (s.R c).tongue.toNat

/-- Waiting: of the emergencies, and of the others. -/
structure Wt where
 u:Int
 o:Int
 deriving DecidableEq,Inhabited
def Wt.lt (a b:Wt):Bool:=decide (a.u < b.u) || decide (a.u = b.u) && decide (a.o < b.o)
def Wt.add (a b:Wt):Wt:=⟨a.u + b.u,a.o + b.o⟩
def w0 : Wt:=⟨0,0⟩
/-- That of one call that is answered at a time. -/
def Rng.w (r:Rng) (t:Int):Wt:=if r.urg then ⟨t - r.at_,0⟩ else ⟨0,t - r.at_⟩
/-- Waiting and that of one more call. -/
def Wt.more (a:Wt) (r:Rng) (t:Int):Wt:=if r.urg then ⟨a.u + (t - r.at_),a.o⟩ else ⟨a.u,a.o + (t - r.at_)⟩
theorem more_add (a:Wt) (r:Rng) (t:Int):a.more r t = a.add (r.w t):=by
 unfold Wt.more Wt.add Rng.w
 cases r.urg <;> simp
@[simp] theorem add_u (a b:Wt):(a.add b).u = a.u + b.u:=rfl
@[simp] theorem add_o (a b:Wt):(a.add b).o = a.o + b.o:=rfl
@[simp] theorem w0_u : w0.u = 0:=rfl
@[simp] theorem w0_o : w0.o = 0:=rfl
theorem Wt.ext' {a b:Wt} (h1:a.u = b.u) (h2:a.o = b.o):a = b:=by cases a;cases b;simp_all
theorem add_w0 (a:Wt):a.add w0 = a:=Wt.ext' (by simp) (by simp)
theorem w0_add (a:Wt):w0.add a = a:=Wt.ext' (by simp) (by simp)
theorem add_comm' (a b:Wt):a.add b = b.add a:=Wt.ext' (by simp;omega) (by simp;omega)
theorem add_assoc' (a b c:Wt):(a.add b).add c = a.add (b.add c):=Wt.ext' (by simp;omega) (by simp;omega)
theorem lt_iff {a b:Wt}:a.lt b = true ↔ a.u < b.u ∨ a.u = b.u ∧ a.o < b.o:=by
 unfold Wt.lt
 simp
theorem nlt_iff {a b:Wt}:a.lt b = false ↔ b.u < a.u ∨ a.u = b.u ∧ b.o ≤ a.o:=by
 rw [← Bool.not_eq_true,lt_iff];omega
theorem nlt_add {a b:Wt} (c:Wt):(a.add c).lt (b.add c) = a.lt b:=by
 rw [Bool.eq_iff_iff,lt_iff,lt_iff];simp only [add_u,add_o];omega

/-- A sum of waitings over the first calls. -/
def sumW (f:Nat → Wt):Nat → Wt
 | 0=>w0
 | k + 1=>(sumW f k).add (f k)
theorem sumW_congr {f g:Nat → Wt}:∀ {k:Nat},(∀ c,c < k → f c = g c) → sumW f k = sumW g k
 | 0,_=>rfl
 | k + 1,h=>by simp only [sumW];rw [sumW_congr (fun c hc=>h c (by omega)),h k (by omega)]
theorem sumW_add (f g:Nat → Wt):∀ k:Nat,sumW (fun c=>(f c).add (g c)) k = (sumW f k).add (sumW g k)
 | 0=>rfl
 | k + 1=>by
  simp only [sumW];rw [sumW_add f g k]
  exact Wt.ext' (by simp;omega) (by simp;omega)
theorem sumW_zero : ∀ k:Nat,sumW (fun _=>w0) k = w0
 | 0=>rfl
 | k + 1=>by simp only [sumW];rw [sumW_zero k];rfl
/-- One call alone. -/
theorem sumW_one (c:Nat) (v:Wt):∀ k:Nat,sumW (fun i=>if i = c then v else w0) k = if c < k then v else w0
 | 0=>by simp [sumW]
 | k + 1=>by
  simp only [sumW];rw [sumW_one c v k]
  by_cases h1:c < k
  ·rw [if_pos h1,if_neg (by omega),if_pos (by omega),add_w0]
  ·by_cases h2:k = c
   ·subst h2;rw [if_neg h1,if_pos rfl,if_pos (by omega),w0_add]
   ·rw [if_neg h1,if_neg h2,if_neg (by omega),add_w0]
theorem sumW_le_u {f g:Nat → Wt}:∀ {k:Nat},(∀ c,c < k → (f c).u ≤ (g c).u) → (sumW f k).u ≤ (sumW g k).u
 | 0,_=>Int.le_refl _
 | k + 1,h=>by
  have h1:=sumW_le_u (k:=k) (fun c hc=>h c (by omega))
  have h2:=h k (by omega)
  simp only [sumW,add_u];omega
theorem sumW_le_o {f g:Nat → Wt}:∀ {k:Nat},(∀ c,c < k → (f c).o ≤ (g c).o) → (sumW f k).o ≤ (sumW g k).o
 | 0,_=>Int.le_refl _
 | k + 1,h=>by
  have h1:=sumW_le_o (k:=k) (fun c hc=>h c (by omega))
  have h2:=h k (by omega)
  simp only [sumW,add_o];omega

/-- A way to answer calls: at most one spot for each. -/
abbrev Asg := Nat → Option (Nat × Nat)
/-- It answers just the calls of a set, at spots of some kind. -/
structure IsM (s:Std) (D:Nat × Nat → Prop) (S:Nat) (a:Asg):Prop where
 dom:∀ c,a c = none ↔ ¬ (c < s.C ∧ S.testBit c = true)
 can:∀ c p,a c = some p → D p ∧ canA s p.1 (p.2:Int) c = true
 inj:∀ c c' p,a c = some p → a c' = some p → c = c'
/-- The waiting of the calls that are answered. -/
def part (s:Std) (a:Asg):Wt:=sumW (fun c=>match a c with|some p=>(s.R c).w p.2|none=>w0) s.C
/-- The waiting of all. -/
def total (s:Std) (a:Asg):Wt:=sumW (fun c=>match a c with|some p=>(s.R c).w p.2|none=>(s.R c).w s.times) s.C
/-- The waiting of those that are not in a set. -/
def left (s:Std) (S:Nat):Wt:=sumW (fun c=>if S.testBit c then w0 else (s.R c).w s.times) s.C
theorem total_part {s:Std} {D:Nat × Nat → Prop} {S:Nat} {a:Asg} (h:IsM s D S a):total s a = (part s a).add (left s S):=by
 unfold total part left
 rw [← sumW_add]
 refine sumW_congr fun c hc=>?_
 cases ha:a c with
 | none =>
  have:=(h.dom c).1 ha
  simp only
  rw [if_neg (fun h=>this ⟨hc,h⟩),w0_add]
 | some p =>
  have:c < s.C ∧ S.testBit c = true:=Decidable.not_not.1 fun hn=>by rw [(h.dom c).2 hn] at ha;cases ha
  simp only
  rw [if_pos this.2,add_w0]
def Asg.put (a:Asg) (c:Nat) (p:Option (Nat × Nat)):Asg:=fun c'=>if c' = c then p else a c'
theorem isM_mono {s:Std} {D D':Nat × Nat → Prop} {S:Nat} {a:Asg} (h:IsM s D S a) (hD:∀ p,D p → D' p):IsM s D' S a :=
 ⟨h.dom,fun c p hp=>⟨hD p (h.can c p hp).1,(h.can c p hp).2⟩,h.inj⟩
theorem isM_some {s:Std} {D:Nat × Nat → Prop} {S:Nat} {a:Asg} (h:IsM s D S a) {c:Nat} {p:Nat × Nat} (hp:a c = some p):c < s.C ∧ S.testBit c = true :=
 Decidable.not_not.1 fun hn=>by rw [(h.dom c).2 hn] at hp;cases hp
theorem isM_get {s:Std} {D:Nat × Nat → Prop} {S:Nat} {a:Asg} (h:IsM s D S a) {c:Nat} (hc:c < s.C) (hS:S.testBit c = true):∃ p,a c = some p:=by
 cases ha:a c with
 | none=>exact ((h.dom c).1 ha ⟨hc,hS⟩).elim
 | some p=>exact ⟨p,rfl⟩
theorem part_put {s:Std} {a:Asg} {c:Nat} {p:Nat × Nat} (hc:c < s.C) (ha:a c = none):part s (a.put c (some p)) = (part s a).add ((s.R c).w p.2):=by
 unfold part
 have e:=sumW_one c ((s.R c).w p.2) s.C
 rw [if_pos hc] at e
 rw [← e,← sumW_add]
 refine sumW_congr fun k _=>?_
 unfold Asg.put
 by_cases hk:k = c
 ·subst hk;rw [if_pos rfl,if_pos rfl,ha,w0_add]
 ·rw [if_neg hk,if_neg hk,add_w0]
theorem part_none {s:Std} {a:Asg} (h:∀ c,c < s.C → a c = none):part s a = w0:=by
 unfold part
 refine (sumW_congr (g:=fun _=>w0) fun c hc=>?_).trans (sumW_zero _)
 rw [h c hc]
/-- A set without a call. -/
def rem (S c:Nat):Nat:=sdiff S (2 ^ c)
theorem test_rem (S c k:Nat):(rem S c).testBit k = (S.testBit k && !decide (c = k)):=by
 unfold rem
 rw [testBit_sdiff,Nat.testBit_two_pow]
theorem rem_lt {S c n:Nat} (h:S < 2 ^ n):rem S c < 2 ^ n:=sdiff_lt h
theorem rem_or {S c:Nat} (h:S.testBit c = true):rem S c ||| 2 ^ c = S:=by
 apply Nat.eq_of_testBit_eq
 intro i
 rw [Nat.testBit_or,test_rem,Nat.testBit_two_pow]
 by_cases hi:c = i
 ·subst hi;simp [h]
 ·simp [hi]
theorem or_rem {S c:Nat} (h:S.testBit c = false):rem (S ||| 2 ^ c) c = S:=by
 apply Nat.eq_of_testBit_eq
 intro i
 rw [test_rem,Nat.testBit_or,Nat.testBit_two_pow]
 by_cases hi:c = i
 ·subst hi;simp [h]
 ·simp [hi]
theorem or_test (S c:Nat):(S ||| 2 ^ c).testBit c = true:=by rw [Nat.testBit_or,Nat.testBit_two_pow];simp
theorem isM_empty (s:Std) (D:Nat × Nat → Prop):IsM s D 0 (fun _=>none):=⟨fun c=>by simp,(fun c p h=>by cases h),(fun c c' p h=>by cases h)⟩
theorem isM_zero {s:Std} {D:Nat × Nat → Prop} {a:Asg} (h:IsM s D 0 a) (c:Nat):a c = none:=(h.dom c).2 (by simp)
/-- One spot more: it is left alone. -/
theorem isM_skip {s:Std} {D:Nat × Nat → Prop} {S:Nat} {a:Asg} {p:Nat × Nat} (h:IsM s (fun q=>D q ∨ q = p) S a) (hn:∀ c,a c ≠ some p):IsM s D S a :=
 ⟨h.dom,fun c q hq=>⟨(h.can c q hq).1.resolve_right (fun e=>hn c (by rw [hq,e])),(h.can c q hq).2⟩,h.inj⟩
/-- It answers a call. -/
theorem isM_take {s:Std} {D:Nat × Nat → Prop} {S c:Nat} {a:Asg} {p:Nat × Nat} (h:IsM s (fun q=>D q ∨ q = p) S a) (hc:a c = some p):IsM s D (rem S c) (a.put c none):=by
 refine ⟨fun k=>?_,fun k q hq=>?_,fun k k' q h1 h2=>?_⟩
 ·unfold Asg.put
  by_cases hk:k = c
  ·subst hk;rw [if_pos rfl,test_rem];simp
  ·rw [if_neg hk,h.dom k,test_rem,decide_eq_false (fun e:c = k=>hk e.symm),Bool.not_false,Bool.and_true]
 ·unfold Asg.put at hq
  by_cases hk:k = c
  ·rw [if_pos hk] at hq;cases hq
  ·rw [if_neg hk] at hq
   exact ⟨(h.can k q hq).1.resolve_right (fun e=>hk (h.inj k c p (by rw [hq,e]) hc)),(h.can k q hq).2⟩
 ·unfold Asg.put at h1 h2
  by_cases hk:k = c
  ·rw [if_pos hk] at h1;cases h1
  ·by_cases hk':k' = c
   ·rw [if_pos hk'] at h2;cases h2
   ·rw [if_neg hk] at h1;rw [if_neg hk'] at h2;exact h.inj k k' q h1 h2
theorem isM_give {s:Std} {D:Nat × Nat → Prop} {S c:Nat} {a:Asg} {p:Nat × Nat} (h:IsM s D (rem S c) a) (hc:c < s.C) (hS:S.testBit c = true) (hp:canA s p.1 p.2 c = true) (hD:¬ D p):IsM s (fun q=>D q ∨ q = p) S (a.put c (some p)):=by
 refine ⟨fun k=>?_,fun k q hq=>?_,fun k k' q h1 h2=>?_⟩
 ·unfold Asg.put
  by_cases hk:k = c
  ·subst hk;rw [if_pos rfl];simp [hc,hS]
  ·rw [if_neg hk,h.dom k,test_rem,decide_eq_false (fun e:c = k=>hk e.symm),Bool.not_false,Bool.and_true]
 ·unfold Asg.put at hq
  by_cases hk:k = c
  ·subst hk;rw [if_pos rfl] at hq;cases hq;exact ⟨.inr rfl,hp⟩
  ·rw [if_neg hk] at hq;exact ⟨.inl (h.can k q hq).1,(h.can k q hq).2⟩
 ·unfold Asg.put at h1 h2
  by_cases hk:k = c
  ·subst hk
   rw [if_pos rfl] at h1;cases h1
   by_cases hk':k' = k
   ·exact hk'.symm
   ·rw [if_neg hk'] at h2;exact (hD (h.can k' _ h2).1).elim
  ·rw [if_neg hk] at h1
   by_cases hk':k' = c
   ·subst hk';rw [if_pos rfl] at h2;cases h2;exact (hD (h.can k _ h1).1).elim
   ·rw [if_neg hk'] at h2;exact h.inj k k' q h1 h2
theorem part_take {s:Std} {D:Nat × Nat → Prop} {S c:Nat} {a:Asg} {p:Nat × Nat} (h:IsM s D S a) (hc:a c = some p):part s a = (part s (a.put c none)).add ((s.R c).w p.2):=by
 have e:(a.put c none).put c (some p) = a:=by
  funext k
  unfold Asg.put
  by_cases hk:k = c
  ·subst hk;rw [if_pos rfl,hc]
  ·rw [if_neg hk,if_neg hk]
 have:=part_put (a:=a.put c none) (p:=p) (isM_some h hc).1 (by unfold Asg.put;rw [if_pos rfl])
 rw [e] at this
 exact this
end Go.Proofs.Ytjfldbkjfaopbaa.Q

namespace Go.Proofs.Ytjfldbkjfaopbaa.Q

structure Stp where
 w:Wt
 call:Int
 never:Bool
 deriving DecidableEq,Inhabited
/-- The spots: signer by signer, each through the times. -/
def sp (T k:Nat):Nat × Nat:=(k / T,k % T)
/-- The first k of them. -/
def Dk (T k:Nat) (p:Nat × Nat):Prop:=∃ j,j < k ∧ sp T j = p
theorem sp_inj {T:Nat} (j k:Nat) (h:sp T j = sp T k):j = k:=by
 unfold sp at h
 injection h with h1 h2
 rw [← Nat.div_add_mod j T,← Nat.div_add_mod k T,h1,h2]
theorem Dk_succ (T k:Nat) (p:Nat × Nat):Dk T (k + 1) p ↔ Dk T k p ∨ p = sp T k:=by
 unfold Dk
 constructor
 ·rintro ⟨j,hj,rfl⟩
  rcases Nat.lt_or_ge j k with h|h
  ·exact .inl ⟨j,h,rfl⟩
  ·exact .inr (by rw [show j = k by omega])
 ·rintro (⟨j,hj,rfl⟩|rfl)
  ·exact ⟨j,by omega,rfl⟩
  ·exact ⟨k,by omega,rfl⟩
theorem Dk_new {T k:Nat}:¬ Dk T k (sp T k):=by
 rintro ⟨j,hj,h⟩
 have:=sp_inj _ _ h
 omega
theorem Dk_all {n T:Nat} (p:Nat × Nat):Dk T (n * T) p ↔ p.1 < n ∧ p.2 < T:=by
 constructor
 ·rintro ⟨j,hj,rfl⟩
  have hT:0 < T:=Nat.pos_of_ne_zero fun h=>by subst h;simp at hj
  exact ⟨Nat.div_lt_of_lt_mul (by rw [Nat.mul_comm];exact hj),Nat.mod_lt _ hT⟩
 ·rintro ⟨h1,h2⟩
  refine ⟨p.1 * T + p.2,?_,?_⟩
  ·have:(p.1 + 1) * T ≤ n * T:=Nat.mul_le_mul_right _ h1
   rw [Nat.add_mul,Nat.one_mul] at this;omega
  ·unfold sp
   have hT:0 < T:=by omega
   rw [Nat.mul_comm,Nat.mul_add_div hT,Nat.div_eq_of_lt h2,Nat.add_zero,Nat.mul_add_mod,Nat.mod_eq_of_lt h2]
/-- One spot more: the first c calls are tried. -/
def stepRow (s:Std) (p:Nat × Nat) (b:Nat → Stp):Nat → Nat → Stp
 | 0,S=>{ b S with call:=-1 }
 | c + 1,S=>if canA s p.1 p.2 c && (S.testBit c && !(b (rem S c)).never) then
   (if (stepRow s p b c S).never || ((b (rem S c)).w.more (s.R c) p.2).lt (stepRow s p b c S).w then ⟨(b (rem S c)).w.more (s.R c) p.2,c,false⟩ else stepRow s p b c S)
  else stepRow s p b c S
def row (s:Std):Nat → Nat → Stp
 | 0,S=>⟨w0,0,decide (S ≠ 0)⟩
 | k + 1,S=>stepRow s (sp s.T k) (row s k) s.C S
/-- What a row says of a set. -/
structure IsOpt (s:Std) (D:Nat × Nat → Prop) (S:Nat) (x:Stp):Prop where
 some_:x.never = false → ∃ a,IsM s D S a ∧ part s a = x.w
 best:∀ a,IsM s D S a → x.never = false ∧ (part s a).lt x.w = false
theorem lt_trans' {a b c:Wt} (h1:a.lt b = false) (h2:c.lt b = true):a.lt c = false:=by
 rw [nlt_iff] at h1 ⊢
 rw [lt_iff] at h2
 omega
theorem lt_trans2 {a b c:Wt} (h1:a.lt b = false) (h2:b.lt c = false):a.lt c = false:=by
 rw [nlt_iff] at h1 h2 ⊢
 omega
theorem lt_self (a:Wt):a.lt a = false:=by rw [nlt_iff];omega
theorem step_opt {s:Std} {D:Nat × Nat → Prop} {p:Nat × Nat} {b:Nat → Stp} {C:Nat} (hC:s.C = C) (hp:¬ D p) (hb:∀ S,S < 2 ^ C → IsOpt s D S (b S)):∀ (c:Nat),c ≤ C → ∀ S,S < 2 ^ C →
  ((stepRow s p b c S).never = false → ∃ a,IsM s (fun q=>D q ∨ q = p) S a ∧ part s a = (stepRow s p b c S).w) ∧
  (∀ a,IsM s (fun q=>D q ∨ q = p) S a → (∀ k,a k = some p → k < c) → (stepRow s p b c S).never = false ∧ (part s a).lt (stepRow s p b c S).w = false):=by
 intro c
 induction c with
 | zero =>
  intro _ S hS
  have h:=hb S hS
  refine ⟨fun hn=>?_,fun a ha hk=>?_⟩
  ·obtain ⟨a,h1,h2⟩:=h.some_ hn
   exact ⟨a,isM_mono h1 (fun _ h=>.inl h),h2⟩
  ·exact h.best a (isM_skip ha (fun k hk'=>absurd (hk k hk') (Nat.not_lt_zero k)))
 | succ c ih =>
  intro hc S hS
  obtain ⟨i1,i2⟩:=ih (by omega) S hS
  have hr:=hb (rem S c) (rem_lt hS)
  simp only [stepRow]
  by_cases hq:(canA s p.1 p.2 c && (S.testBit c && !(b (rem S c)).never)) = true
  ·rw [if_pos hq]
   simp only [Bool.and_eq_true,Bool.not_eq_true'] at hq
   obtain ⟨q1,q2,q3⟩:=hq
   obtain ⟨a0,a1,a2⟩:=hr.some_ q3
   have hgive:=isM_give a1 (by omega) q2 q1 hp
   have hpart:part s (a0.put c (some p)) = (b (rem S c)).w.more (s.R c) p.2:=by
    rw [part_put (by omega) ((a1.dom c).2 (by rw [test_rem];simp)),a2,more_add]
   have hnew:∀ a,IsM s (fun q=>D q ∨ q = p) S a → a c = some p → (part s a).lt ((b (rem S c)).w.more (s.R c) p.2) = false:=fun a ha hac=>by
    rw [part_take ha hac,more_add,nlt_add]
    exact (hr.best _ (isM_take ha hac)).2
   by_cases hl:((stepRow s p b c S).never || ((b (rem S c)).w.more (s.R c) p.2).lt (stepRow s p b c S).w) = true
   ·rw [if_pos hl]
    refine ⟨fun _=>⟨_,hgive,hpart⟩,fun a ha hk=>⟨rfl,?_⟩⟩
    by_cases hac:a c = some p
    ·exact hnew a ha hac
    ·obtain ⟨j1,j2⟩:=i2 a ha (fun k hk'=>by
      have:=hk k hk'
      rcases Nat.lt_or_ge k c with h|h
      ·exact h
      ·rw [show k = c by omega] at hk';exact (hac hk').elim)
     rw [j1,Bool.false_or] at hl
     exact lt_trans' j2 hl
   ·rw [if_neg hl]
    simp only [Bool.or_eq_true,not_or,Bool.not_eq_true] at hl
    refine ⟨i1,fun a ha hk=>⟨hl.1,?_⟩⟩
    by_cases hac:a c = some p
    ·exact lt_trans2 (hnew a ha hac) hl.2
    ·exact (i2 a ha (fun k hk'=>by
      have:=hk k hk'
      rcases Nat.lt_or_ge k c with h|h
      ·exact h
      ·rw [show k = c by omega] at hk';exact (hac hk').elim)).2
  ·rw [if_neg hq]
   refine ⟨i1,fun a ha hk=>i2 a ha (fun k hk'=>?_)⟩
   have:=hk k hk'
   rcases Nat.lt_or_ge k c with h|h
   ·exact h
   ·obtain rfl:k = c:=by omega
    refine (hq ?_).elim
    have h1:=isM_some ha hk'
    have h2:=(ha.can k p hk').2
    have h3:=(hr.best _ (isM_take ha hk')).1
    rw [h2,h1.2,h3];rfl
theorem row_opt (s:Std):∀ k S,S < 2 ^ s.C → IsOpt s (Dk s.T k) S (row s k S)
 | 0,S,_=>by
  refine ⟨fun hn=>?_,fun a ha=>?_⟩
  ·have h0:S = 0:=by
    unfold row at hn
    simpa using hn
   subst h0
   exact ⟨fun _=>none,isM_empty s _,part_none fun _ _=>rfl⟩
  ·have hno:∀ c,a c = none:=fun c=>by
    cases hc:a c with
    | none=>rfl
    | some p=>obtain ⟨⟨j,hj,_⟩,_⟩:=ha.can c p hc;omega
   have h0:S = 0:=by
    apply Nat.eq_of_testBit_eq
    intro i
    rw [Nat.zero_testBit]
    by_cases hi:i < s.C
    ·have:=(ha.dom i).1 (hno i)
     simpa [hi] using this
    ·exact Nat.testBit_lt_two_pow (Nat.lt_of_lt_of_le (by assumption) (Nat.pow_le_pow_right (by decide) (by omega)))
   subst h0
   rw [part_none fun c _=>hno c]
   exact ⟨by unfold row;simp,lt_self _⟩
 | k + 1,S,hS=>by
  have h:=step_opt (p:=sp s.T k) rfl Dk_new (row_opt s k) s.C (Nat.le_refl _) S hS
  have e:(fun q=>Dk s.T k q ∨ q = sp s.T k) = Dk s.T (k + 1):=funext fun q=>propext (Dk_succ _ _ q).symm
  rw [e] at h
  refine ⟨h.1,fun a ha=>h.2 a ha (fun c hc=>(isM_some ha hc).1)⟩
/-- What the last spot does. -/
theorem step_call {s:Std} {p:Nat × Nat} {b:Nat → Stp}:∀ (c:Nat) (S:Nat),((stepRow s p b c S).call = -1 ∧ (stepRow s p b c S).w = (b S).w ∧ (stepRow s p b c S).never = (b S).never) ∨
  ∃ k,k < c ∧ (stepRow s p b c S).call = (k:Int) ∧ canA s p.1 p.2 k = true ∧ S.testBit k = true ∧ (b (rem S k)).never = false ∧ (stepRow s p b c S).never = false ∧ (stepRow s p b c S).w = (b (rem S k)).w.more (s.R k) p.2
 | 0,S=>.inl ⟨rfl,rfl,rfl⟩
 | c + 1,S=>by
  have ih:=step_call (s:=s) (p:=p) (b:=b) c S
  have ih':((stepRow s p b c S).call = -1 ∧ (stepRow s p b c S).w = (b S).w ∧ (stepRow s p b c S).never = (b S).never) ∨
   ∃ k,k < c + 1 ∧ (stepRow s p b c S).call = (k:Int) ∧ canA s p.1 p.2 k = true ∧ S.testBit k = true ∧ (b (rem S k)).never = false ∧ (stepRow s p b c S).never = false ∧ (stepRow s p b c S).w = (b (rem S k)).w.more (s.R k) p.2 :=
   ih.imp id (fun ⟨k,hk,r⟩=>⟨k,by omega,r⟩)
  simp only [stepRow]
  by_cases hq:(canA s p.1 p.2 c && (S.testBit c && !(b (rem S c)).never)) = true
  ·rw [if_pos hq]
   simp only [Bool.and_eq_true,Bool.not_eq_true'] at hq
   by_cases hl:((stepRow s p b c S).never || ((b (rem S c)).w.more (s.R c) p.2).lt (stepRow s p b c S).w) = true
   ·rw [if_pos hl]
    exact .inr ⟨c,Nat.lt_succ_self c,rfl,hq.1,hq.2.1,hq.2.2,rfl,rfl⟩
   ·rw [if_neg hl];exact ih'
  ·rw [if_neg hq];exact ih'
/-- The answers that a row stands for. -/
def rcon (s:Std):Nat → Nat → Asg
 | 0,_=>fun _=>none
 | k + 1,S=>if 0 ≤ (row s (k + 1) S).call then (rcon s k (rem S (row s (k + 1) S).call.toNat)).put (row s (k + 1) S).call.toNat (some (sp s.T k)) else rcon s k S
theorem rcon_ok (s:Std):∀ k S,S < 2 ^ s.C → (row s k S).never = false → IsM s (Dk s.T k) S (rcon s k S) ∧ part s (rcon s k S) = (row s k S).w
 | 0,S,_,hn=>by
  have h0:S = 0:=by
   unfold row at hn
   simpa using hn
  subst h0
  exact ⟨isM_empty s _,part_none fun _ _=>rfl⟩
 | k + 1,S,hS,hn=>by
  have e:(fun q=>Dk s.T k q ∨ q = sp s.T k) = Dk s.T (k + 1):=funext fun q=>propext (Dk_succ _ _ q).symm
  rcases step_call (s:=s) (p:=sp s.T k) (b:=row s k) s.C S with ⟨h1,h2,h3⟩|⟨c,hc,h1,h2,h3,h4,h5,h6⟩
  ·have hcall:(row s (k + 1) S).call = -1:=h1
   obtain ⟨i1,i2⟩:=rcon_ok s k S hS (h3.symm.trans hn)
   simp only [rcon]
   rw [hcall,if_neg (by decide)]
   exact ⟨e ▸ isM_mono i1 (fun _ h=>.inl h),i2.trans h2.symm⟩
  ·have hcall:(row s (k + 1) S).call = (c:Int):=h1
   obtain ⟨i1,i2⟩:=rcon_ok s k (rem S c) (rem_lt hS) h4
   simp only [rcon]
   rw [hcall,if_pos (by omega),Int.toNat_natCast]
   refine ⟨e ▸ isM_give i1 hc h3 h2 Dk_new,?_⟩
   rw [part_put hc ((i1.dom c).2 (by rw [test_rem];simp)),i2,← more_add]
   exact h6.symm
/-- With the waiting of the calls that are never answered. -/
def leftK (s:Std) (S k:Nat):Wt:=sumW (fun c=>if S.testBit c then w0 else (s.R c).w s.times) k
theorem leftK_all (s:Std) (S:Nat):leftK s S s.C = left s S:=rfl
def fin' (s:Std) (S:Nat):Wt:=(row s (s.n * s.T) S).w.add (left s S)
/-- The best of the first sets. -/
def bst (s:Std):Nat → Int × Wt
 | 0=>(-1,w0)
 | S + 1=>if !(row s (s.n * s.T) S).never && (decide ((bst s S).1 < 0) || (fin' s S).lt (bst s S).2) then ((S:Int),fin' s S) else bst s S
theorem bst_ok (s:Std):∀ K,((bst s K).1 = -1 ∧ ∀ S,S < K → (row s (s.n * s.T) S).never = true) ∨ ∃ S,S < K ∧ (bst s K).1 = (S:Int) ∧ (row s (s.n * s.T) S).never = false ∧ (bst s K).2 = fin' s S ∧ ∀ S',S' < K → (row s (s.n * s.T) S').never = false → (fin' s S').lt (fin' s S) = false
 | 0=>.inl ⟨rfl,fun S h=>by omega⟩
 | K + 1=>by
  have ih:=bst_ok s K
  simp only [bst]
  by_cases hq:(!(row s (s.n * s.T) K).never && (decide ((bst s K).1 < 0) || (fin' s K).lt (bst s K).2)) = true
  ·rw [if_pos hq]
   simp only [Bool.and_eq_true,Bool.not_eq_true',Bool.or_eq_true,decide_eq_true_eq] at hq
   refine .inr ⟨K,Nat.lt_succ_self K,rfl,hq.1,rfl,fun S' hS' hn=>?_⟩
   rcases Nat.lt_or_ge S' K with h|h
   ·rcases ih with ⟨_,i2⟩|⟨S,i1,i2,i3,i4,i5⟩
    ·rw [i2 S' h] at hn;cases hn
    ·rcases hq.2 with h'|h'
     ·rw [i2] at h';omega
     ·rw [i4] at h';exact lt_trans' (i5 S' h hn) h'
   ·rw [show S' = K by omega];exact lt_self _
  ·rw [if_neg hq]
   rcases ih with ⟨i1,i2⟩|⟨S,i1,i2,i3,i4,i5⟩
   ·refine .inl ⟨i1,fun S' hS'=>?_⟩
    rcases Nat.lt_or_ge S' K with h|h
    ·exact i2 S' h
    ·obtain rfl:S' = K:=by omega
     rw [i1] at hq
     simpa using hq
   ·refine .inr ⟨S,by omega,i2,i3,i4,fun S' hS' hn=>?_⟩
    rcases Nat.lt_or_ge S' K with h|h
    ·exact i5 S' h hn
    ·obtain rfl:S' = K:=by omega
     rw [i2,i4,hn] at hq
     simpa using hq
/-- Where best answers stand, and their waiting. -/
def bestAt (s:Std):Nat:=(bst s (2 ^ s.C)).1.toNat
def bestW (s:Std):Wt:=(bst s (2 ^ s.C)).2
def bestA (s:Std):Asg:=rcon s (s.n * s.T) (bestAt s)
def AllD (s:Std) (p:Nat × Nat):Prop:=p.1 < s.n ∧ p.2 < s.T
theorem isM_lt {s:Std} {D:Nat × Nat → Prop} {S:Nat} {a:Asg} (h:IsM s D S a):∃ S',S' < 2 ^ s.C ∧ IsM s D S' a:=by
 refine ⟨S % 2 ^ s.C,Nat.mod_lt _ (Nat.two_pow_pos _),fun c=>?_,h.can,h.inj⟩
 rw [h.dom c,Nat.testBit_mod_two_pow]
 by_cases hc:c < s.C <;> simp [hc]
theorem row0_zero (s:Std):∀ k,(row s k 0).never = false:=fun k=>((row_opt s k 0 (Nat.two_pow_pos _)).best _ (isM_empty s _)).1
theorem bestAt_eq (s:Std):(bst s (2 ^ s.C)).1 = (bestAt s:Int) ∧ bestAt s < 2 ^ s.C ∧ (row s (s.n * s.T) (bestAt s)).never = false ∧ bestW s = fin' s (bestAt s) ∧ ∀ S',S' < 2 ^ s.C → (row s (s.n * s.T) S').never = false → (fin' s S').lt (bestW s) = false:=by
 rcases bst_ok s (2 ^ s.C) with ⟨_,h⟩|⟨S,h1,h2,h3,h4,h5⟩
 ·have:=h 0 (Nat.two_pow_pos _)
  rw [row0_zero] at this;cases this
 ·have e:bestAt s = S:=by unfold bestAt;rw [h2];rfl
  have e2:bestW s = fin' s S:=h4
  rw [e,e2]
  exact ⟨h2,h1,h3,rfl,h5⟩
/-- THE BEST ANSWERS: they are right ones, and no right ones wait less. -/
theorem best_ok (s:Std):(∃ S,IsM s (AllD s) S (bestA s)) ∧ total s (bestA s) = bestW s ∧ ∀ (S:Nat) (a:Asg),IsM s (AllD s) S a → (total s a).lt (bestW s) = false:=by
 obtain ⟨_,h1,h2,h3,h4⟩:=bestAt_eq s
 obtain ⟨r1,r2⟩:=rcon_ok s (s.n * s.T) (bestAt s) h1 h2
 have eD:Dk s.T (s.n * s.T) = AllD s:=funext fun p=>propext (Dk_all p)
 refine ⟨⟨_,eD ▸ r1⟩,?_,fun S a ha=>?_⟩
 ·rw [h3]
  exact (total_part r1).trans (by rw [r2];rfl)
 ·obtain ⟨S',hS',ha'⟩:=isM_lt ha
  rw [total_part ha']
  have ho:=row_opt s (s.n * s.T) S' hS'
  rw [eD] at ho
  obtain ⟨j1,j2⟩:=ho.best a ha'
  refine lt_trans2 ?_ (h4 S' hS' j1)
  unfold fin'
  rw [nlt_add];exact j2
end Go.Proofs.Ytjfldbkjfaopbaa.Q

namespace Go.Proofs.Ytjfldbkjfaopbaa.Q

structure Anr where
 t:Int
 g:Int
 deriving DecidableEq,Inhabited
def na : Anr:=⟨-1,-1⟩
/-- The answer to a call is right. -/
def okAt (s:Std) (l:List Anr) (i:Nat):Bool:=decide (l.getD i na = na) || (inB (l.getD i na).g 0 (s.n - 1) && canA s (l.getD i na).g.toNat (l.getD i na).t i && (List.range i).all fun k=>!decide (l.getD k na = l.getD i na))
def rightL (s:Std) (l:List Anr):Bool:=decide (l.length = s.C) && (List.range s.C).all (okAt s l)
def checkA (s:Std) (l:List Anr):Int:=if s.ok then (if rightL s l then 0 else 61) else 60
/-- Until when a call waits that is answered at a time. -/
def untilT (s:Std) (t:Int):Int:=if t < 0 then s.times else t
def waitK (s:Std) (l:List Anr) (k:Nat):Wt:=sumW (fun c=>(s.R c).w (untilT s (l.getD c na).t)) k
def waitL (s:Std) (l:List Anr):Wt:=waitK s l s.C
def asgL (l:List Anr):Asg:=fun c=>if l.getD c na = na then none else some ((l.getD c na).g.toNat,(l.getD c na).t.toNat)
def enc : Option (Nat × Nat) → Anr
 | none=>na
 | some p=>⟨(p.2:Int),(p.1:Int)⟩
def encL (s:Std) (a:Asg):List Anr:=(List.range s.C).map fun c=>enc (a c)
/-- The set of those for which something holds. -/
def maskOf (f:Nat → Bool):Nat → Nat
 | 0=>0
 | k + 1=>if f k then maskOf f k ||| 2 ^ k else maskOf f k
theorem test_maskOf (f:Nat → Bool):∀ (k c:Nat),(maskOf f k).testBit c = (decide (c < k) && f c)
 | 0,c=>by simp [maskOf]
 | k + 1,c=>by
  have ih:=test_maskOf f k c
  simp only [maskOf]
  by_cases h:f k = true
  ·rw [if_pos h,Nat.testBit_or,Nat.testBit_two_pow,ih]
   by_cases e:k = c
   ·subst e;simp [h]
   ·simp only [e,decide_false,Bool.or_false]
    congr 1
    rw [decide_eq_decide];omega
  ·rw [if_neg h,ih]
   by_cases e:c = k
   ·subst e;simp [h]
   ·congr 1
    rw [decide_eq_decide];omega
theorem maskOf_lt (f:Nat → Bool) (k:Nat):maskOf f k < 2 ^ k:=by
 apply Nat.lt_pow_two_of_testBit
 intro i hi
 rw [test_maskOf,decide_eq_false (by omega),Bool.false_and]
structure Right (s:Std) (l:List Anr):Prop where
 len:l.length = s.C
 ok:∀ i,i < s.C → l.getD i na = na ∨ ((0 ≤ (l.getD i na).g ∧ (l.getD i na).g ≤ (s.n:Int) - 1) ∧ canA s (l.getD i na).g.toNat (l.getD i na).t i = true ∧ ∀ k,k < i → l.getD k na ≠ l.getD i na)
theorem right_d {s:Std} {l:List Anr}:rightL s l = true ↔ Right s l:=by
 unfold rightL okAt
 constructor
 ·intro h
  simp only [Bool.and_eq_true,decide_eq_true_eq,List.all_eq_true,List.mem_range,Bool.or_eq_true,Bool.not_eq_true',decide_eq_false_iff_not] at h
  exact ⟨h.1,fun i hi=>(h.2 i hi).imp id fun ⟨⟨a,b⟩,c⟩=>⟨a,b,c⟩⟩
 ·intro h
  simp only [Bool.and_eq_true,decide_eq_true_eq,List.all_eq_true,List.mem_range,Bool.or_eq_true,Bool.not_eq_true',decide_eq_false_iff_not]
  exact ⟨h.len,fun i hi=>(h.ok i hi).imp id fun ⟨a,b,c⟩=>⟨⟨a,b⟩,c⟩⟩
theorem canA_d {s:Std} {i c:Nat} {t:Int} (h:canA s i t c = true):(s.S i).from_ ≤ t ∧ t < (s.S i).until_ ∧ (s.R c).at_ ≤ t:=by
 unfold canA at h
 simp only [Bool.and_eq_true,decide_eq_true_eq] at h
 exact ⟨h.1.1.1,h.1.1.2,h.1.2⟩
/-- A time at which somebody can is one of the studio. -/
theorem can_time {s:Std} (hs:StdOk s) {i c:Nat} {t:Int} (hi:i < s.n) (h:canA s i t c = true):0 ≤ t ∧ t < s.times:=by
 have h1:=canA_d h
 have h2:=hs.sg i hi
 omega
theorem right_isM {s:Std} (hs:StdOk s) {l:List Anr} (h:Right s l):IsM s (AllD s) (maskOf (fun c=>!decide (l.getD c na = na)) s.C) (asgL l):=by
 have get:∀ c p,asgL l c = some p → c < s.C ∧ l.getD c na ≠ na ∧ p = ((l.getD c na).g.toNat,(l.getD c na).t.toNat):=fun c p hp=>by
  unfold asgL at hp
  by_cases hn:l.getD c na = na
  ·rw [if_pos hn] at hp;cases hp
  ·rw [if_neg hn] at hp
   injection hp with hp
   refine ⟨?_,hn,hp.symm⟩
   rcases Nat.lt_or_ge c s.C with h'|h'
   ·exact h'
   ·rw [← h.len] at h'
    exact (hn (by simp [List.getD,List.getElem?_eq_none h'])).elim
 have info:∀ c,c < s.C → l.getD c na ≠ na → (0 ≤ (l.getD c na).g ∧ (l.getD c na).g ≤ (s.n:Int) - 1) ∧ canA s (l.getD c na).g.toNat (l.getD c na).t c = true ∧ (0 ≤ (l.getD c na).t ∧ (l.getD c na).t < s.times) ∧ ∀ k,k < c → l.getD k na ≠ l.getD c na:=fun c hc hn=>by
  obtain ⟨a,b,d⟩:=(h.ok c hc).resolve_left hn
  exact ⟨a,b,can_time hs (by omega) b,d⟩
 refine ⟨fun c=>?_,fun c p hp=>?_,fun c c' p h1 h2=>?_⟩
 ·rw [test_maskOf]
  unfold asgL
  by_cases hn:l.getD c na = na
  ·rw [if_pos hn,hn];simp
  ·rw [if_neg hn]
   have:c < s.C:=by
    rcases Nat.lt_or_ge c s.C with h'|h'
    ·exact h'
    ·rw [← h.len] at h'
     exact (hn (by simp [List.getD,List.getElem?_eq_none h'])).elim
   simp [this];exact hn
 ·obtain ⟨hc,hn,rfl⟩:=get c p hp
  obtain ⟨a,b,d,_⟩:=info c hc hn
  have ht:=hs.t
  refine ⟨⟨by simp only;omega,by simp only;omega⟩,?_⟩
  simp only
  rwa [Int.toNat_of_nonneg d.1]
 ·obtain ⟨hc,hn,e1⟩:=get c p h1
  obtain ⟨hc',hn',e2⟩:=get c' p h2
  have i1:=info c hc hn
  have i2:=info c' hc' hn'
  rw [e1] at e2
  injection e2 with e3 e4
  have e:l.getD c na = l.getD c' na:=by
   have a1:(l.getD c na).g = (l.getD c' na).g:=by omega
   have a2:(l.getD c na).t = (l.getD c' na).t:=by omega
   cases hx:l.getD c na
   cases hy:l.getD c' na
   rw [hx,hy] at a1 a2
   simp only at a1 a2
   rw [a1,a2]
  rcases Nat.lt_trichotomy c c' with h'|h'|h'
  ·exact (i2.2.2.2 c h' e).elim
  ·exact h'
  ·exact (i1.2.2.2 c' h' e.symm).elim
theorem waitL_total {s:Std} (hs:StdOk s) {l:List Anr} (h:Right s l):waitL s l = total s (asgL l):=by
 unfold waitL waitK total
 refine sumW_congr fun c hc=>?_
 unfold asgL untilT
 by_cases hn:l.getD c na = na
 ·rw [if_pos hn,hn,if_pos (by decide)]
 ·rw [if_neg hn]
  obtain ⟨a,b,_⟩:=(h.ok c hc).resolve_left hn
  have:=can_time hs (by omega) b
  simp only
  rw [if_neg (by omega),Int.toNat_of_nonneg this.1]
theorem encL_get {s:Std} {a:Asg} {c:Nat} (hc:c < s.C):(encL s a).getD c na = enc (a c):=by
 unfold encL
 simp [List.getD,hc]
theorem encL_len (s:Std) (a:Asg):(encL s a).length = s.C:=by simp [encL]
theorem enc_na {x:Option (Nat × Nat)}:enc x = na ↔ x = none:=by
 cases x with
 | none=>simp [enc]
 | some p =>
  simp only [enc,na,Anr.mk.injEq]
  constructor
  ·intro h;omega
  ·intro h;cases h
theorem enc_inj {x y:Option (Nat × Nat)} (h:enc x = enc y):x = y:=by
 cases x <;> cases y
 ·rfl
 ·exact ((enc_na.1 h.symm).symm)
 ·exact enc_na.1 h
 ·rename_i p q
  simp only [enc,Anr.mk.injEq] at h
  obtain ⟨a,b⟩:=p
  obtain ⟨c,d⟩:=q
  simp only at h
  rw [show a = c by omega,show b = d by omega]
theorem isM_right {s:Std} {S:Nat} {a:Asg} (h:IsM s (AllD s) S a):Right s (encL s a):=by
 refine ⟨encL_len s a,fun i hi=>?_⟩
 rw [encL_get hi]
 cases ha:a i with
 | none=>exact .inl rfl
 | some p =>
  obtain ⟨⟨h1,h2⟩,h3⟩:=h.can i p ha
  refine .inr ⟨?_,?_,fun k hk e=>?_⟩
  ·simp only [enc];omega
  ·simp only [enc];rwa [Int.toNat_natCast]
  ·rw [encL_get (by omega)] at e
   have:=enc_inj e
   have:=h.inj k i p this ha
   omega
theorem asgL_encL {s:Std} {S:Nat} {D:Nat × Nat → Prop} {a:Asg} (h:IsM s D S a):asgL (encL s a) = a:=by
 funext c
 unfold asgL
 rcases Nat.lt_or_ge c s.C with hc|hc
 ·rw [encL_get hc]
  cases ha:a c with
  | none=>rw [if_pos (show enc none = na from rfl)]
  | some p =>
   rw [if_neg (fun e=>by have:=enc_na.1 e;cases this)]
   simp [enc]
 ·rw [(h.dom c).2 (by omega)]
  rw [if_pos]
  simp [List.getD,List.getElem?_eq_none (show (encL s a).length ≤ c by rw [encL_len];exact hc)]
/-- The answers of the program's search. -/
def bestL (s:Std):List Anr:=encL s (bestA s)
theorem bestL_right (s:Std):Right s (bestL s):=by
 obtain ⟨⟨S,h⟩,_⟩:=best_ok s
 exact isM_right h
theorem bestL_wait {s:Std} (hs:StdOk s):waitL s (bestL s) = bestW s:=by
 obtain ⟨⟨S,h⟩,h2,_⟩:=best_ok s
 rw [waitL_total hs (bestL_right s)]
 unfold bestL
 rw [asgL_encL h,h2]
theorem bestL_least {s:Std} (hs:StdOk s) {l:List Anr} (h:Right s l):(waitL s l).lt (bestW s) = false:=by
 rw [waitL_total hs h]
 exact (best_ok s).2.2 _ _ (right_isM hs h)
end Go.Proofs.Ytjfldbkjfaopbaa.Q
