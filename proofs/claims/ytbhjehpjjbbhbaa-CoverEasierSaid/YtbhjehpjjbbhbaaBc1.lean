/- An abstract reading of code: abstract values, a heap of the call's own blocks, and what they say of a world / The operations of code over abstract values: what each asks and gives / From the operations of code to the abstract ones; those that change nothing are sound / The operations that change nothing: abstract and real agree -/
import Derived.WalkKit
import Derived.Laws.AppendOwn
import Derived.Lib.Hide
import Derived.Orders
import Derived.WalkSpells
import Derived.WalkLawsBesides

namespace Go.Proofs.Ytbhjehpjjbbhbaa
open Go.RowKit

/-- Abstract values. -/
inductive AV where
 | bot
 | int (k:IntKind) (n:Int)
 | bool (b:Bool)
 | nilp
 | nilf
 | sl (z e:Bool) (n sz:Nat) (c:Nat → Nat → AV)
 | ip (m:Nat) (c:Nat → AV) (o:Nat)
 | own (d n:Nat)
 | ptr (d o:Nat)
 | rp (d sz k o:Nat)
 | osl (d sz lo n:Nat)
 | mpv (d:Nat)
 | mv (f:FuncId) (m:Nat) (c:Nat → AV)
 | fn (f:FuncId) (m:Nat) (c:Nat → AV)
 | agg (m:Nat) (c:Nat → AV)
 | tup (m:Nat) (c:Nat → AV)
 deriving Inhabited

abbrev GM := Nat → Option (Nat × Nat)
def g0 : GM:=fun _=>none
def GM.le (g g':GM):Prop:=∀ d p,g d = some p → g' d = some p
theorem GM.le_refl (g:GM):g.le g:=fun _ _ h=>h
theorem GM.le_trans {a b c:GM} (h:a.le b) (k:b.le c):a.le c:=fun d p x=>k d p (h d p x)
theorem g0_le (g:GM):g0.le g:=fun d p h=>by cases h

/-- What an abstract value says of a value. M: the blocks that the call may write. -/
def rep (M:Nat → Prop) (w:World):AV → GM → Value → Prop
 | .bot,_,_=>True
 | .int k n,_,v=>v = .int k n
 | .bool b,_,v=>v = .bool b
 | .nilp,_,v=>v = .pointer none
 | .nilf,_,v=>v = .nilFunc
 | .sl z e n sz c,_,v=>∃ A cap,v = .slice A n cap ∧ (z = true ↔ A = none) ∧ (A = none → n = 0 ∧ cap = 0) ∧ (e = true → cap = n) ∧ n ≤ cap ∧
   ∀ k,k < n → ∀ o,o < sz → ∃ b off u,A = some ⟨b,off,none⟩ ∧ b < w.heap.size ∧ ¬ M b ∧ w.cell? ⟨b,off + k * sz + o,none⟩ = some u ∧ u.oneCell' = true ∧ rep M w (c k o) g0 u
 | .ip m c o,_,v=>∃ b off,v = .pointer (some ⟨b,off + o,none⟩) ∧ b < w.heap.size ∧ ¬ M b ∧ ∀ i,i < m → ∃ u,w.cell? ⟨b,off + i,none⟩ = some u ∧ u.oneCell' = true ∧ rep M w (c i) g0 u
 | .own d n,g,v=>∃ b cap,g d = some (b,cap) ∧ v = .slice (some ⟨b,0,none⟩) n cap ∧ n ≤ cap
 | .ptr d o,g,v=>∃ b cap,g d = some (b,cap) ∧ v = .pointer (some ⟨b,o,none⟩)
 | .rp d sz k o,g,v=>∃ b cap,g d = some (b,cap) ∧ v = .pointer (some ⟨b,k * sz + o,none⟩)
 | .osl d sz lo n,g,v=>∃ b cap p,g d = some (b,cap) ∧ v = .slice (some ⟨b,p,none⟩) n (cap - lo) ∧ lo + n ≤ cap ∧ (lo < cap → p = lo * sz)
 | .mpv d,g,v=>∃ b cap,g d = some (b,cap) ∧ v = .map (some b)
 | .mv f m c,_,v=>∃ cs,v = .func (.func f) cs #[] ∧ cs.size = m ∧ ∀ i,i < m → ∃ u,cs[i]? = some u ∧ rep M w (c i) g0 u
 | .fn f m c,g,v=>∃ cs,v = .func (.func f) #[] cs ∧ cs.size = m ∧ ∀ i,i < m → ∃ u,cs[i]? = some u ∧ rep M w (c i) g u
 | .agg m c,g,v=>∃ cs,v = .agg cs ∧ cs.size = m ∧ ∀ i,i < m → ∃ u,cs[i]? = some u ∧ u.oneCell' = true ∧ rep M w (c i) g u
 | .tup m c,g,v=>∃ cs,v = .tuple cs ∧ cs.size = m ∧ ∀ i,i < m → ∃ u,cs[i]? = some u ∧ rep M w (c i) g u

/-- A world that has changed only in the blocks of M. -/
structure Chg (M:Nat → Prop) (w w':World):Prop where
 os:w'.os = w.os
 tape:w'.tape = w.tape
 output:w'.output = w.output
 size:w.heap.size ≤ w'.heap.size
 block:∀ b,b < w.heap.size → ¬ M b → w'.heap[b]? = w.heap[b]?
theorem Chg.refl (M:Nat → Prop) (w:World):Chg M w w:=⟨rfl,rfl,rfl,Nat.le_refl _,fun _ _ _=>rfl⟩
theorem Chg.trans {M M':Nat → Prop} {a b c:World} (h:Chg M a b) (k:Chg M' b c) (hm:∀ x,x < a.heap.size → M' x → M x):Chg M a c :=
 ⟨k.os.trans h.os,k.tape.trans h.tape,k.output.trans h.output,Nat.le_trans h.size k.size,fun x hx hn=>(k.block x (Nat.lt_of_lt_of_le hx h.size) (fun hM=>hn (hm x hx hM))).trans (h.block x hx hn)⟩
theorem Chg.weak {M M':Nat → Prop} {a b:World} (h:Chg M a b) (hm:∀ x,x < a.heap.size → M x → M' x):Chg M' a b :=
 ⟨h.os,h.tape,h.output,h.size,fun x hx hn=>h.block x hx (fun hM=>hn (hm x hx hM))⟩
theorem Chg.cell {M:Nat → Prop} {w w':World} (h:Chg M w w') {b off:Nat} {sp:Option Nat} (hb:b < w.heap.size) (hn:¬ M b):w'.cell? ⟨b,off,sp⟩ = w.cell? ⟨b,off,sp⟩:=by
 simp only [World.cell?,h.block b hb hn]
theorem Chg.drew (M:Nat → Prop) (w:World):Chg M w w.drew:=⟨rfl,rfl,rfl,Nat.le_refl _,fun _ _ _=>rfl⟩
theorem Chg.alloc (M:Nat → Prop) (w:World) (o:Obj):Chg M w (w.alloc o) :=
 have h:=(Below.refl w.heap.size w).alloc (Nat.le_refl _) o
 ⟨h.os,h.tape,h.output,h.size,fun b hb _=>h.block b hb⟩

theorem rep_mono {M M':Nat → Prop} {w w':World} (hc:Chg M w w') (hM:∀ b,b < w.heap.size → M' b → M b):∀ (v:AV) {g g':GM} {u:Value},g.le g' → rep M w v g u → rep M' w' v g' u:=by
 intro v
 induction v with
 | bot=>intros;trivial
 | int k n=>intro g g' u _ h;exact h
 | bool b=>intro g g' u _ h;exact h
 | nilp=>intro g g' u _ h;exact h
 | nilf=>intro g g' u _ h;exact h
 | sl z e n sz c ih =>
  intro g g' u _ h
  obtain ⟨A,cap,h1,h2,h3,h4,h4',h5⟩:=h
  refine ⟨A,cap,h1,h2,h3,h4,h4',fun k hk o ho=>?_⟩
  obtain ⟨b,off,x,hA,hb,hn,hcell,h1c,hr⟩:=h5 k hk o ho
  exact ⟨b,off,x,hA,Nat.lt_of_lt_of_le hb hc.size,fun h'=>hn (hM b hb h'),(hc.cell hb hn).trans hcell,h1c,ih k o (GM.le_refl _) hr⟩
 | ip m c o ih =>
  intro g g' u _ h
  obtain ⟨b,off,h1,hb,hn,h5⟩:=h
  refine ⟨b,off,h1,Nat.lt_of_lt_of_le hb hc.size,fun h'=>hn (hM b hb h'),fun i hi=>?_⟩
  obtain ⟨x,hcell,h1c,hr⟩:=h5 i hi
  exact ⟨x,(hc.cell hb hn).trans hcell,h1c,ih i (GM.le_refl _) hr⟩
 | own d n =>
  intro g g' u hg h
  obtain ⟨b,cap,h1,h2⟩:=h
  exact ⟨b,cap,hg _ _ h1,h2⟩
 | ptr d o =>
  intro g g' u hg h
  obtain ⟨b,cap,h1,h2⟩:=h
  exact ⟨b,cap,hg _ _ h1,h2⟩
 | rp d sz k o =>
  intro g g' u hg h
  obtain ⟨b,cap,h1,h2⟩:=h
  exact ⟨b,cap,hg _ _ h1,h2⟩
 | osl d sz lo n =>
  intro g g' u hg h
  obtain ⟨b,cap,p,h1,h2⟩:=h
  exact ⟨b,cap,p,hg _ _ h1,h2⟩
 | mpv d =>
  intro g g' u hg h
  obtain ⟨b,cap,h1,h2⟩:=h
  exact ⟨b,cap,hg _ _ h1,h2⟩
 | mv f m c ih =>
  intro g g' u _ h
  obtain ⟨cs,h1,h2,h3⟩:=h
  refine ⟨cs,h1,h2,fun i hi=>?_⟩
  obtain ⟨x,hx,hr⟩:=h3 i hi
  exact ⟨x,hx,ih i (GM.le_refl _) hr⟩
 | fn f m c ih =>
  intro g g' u hg h
  obtain ⟨cs,h1,h2,h3⟩:=h
  refine ⟨cs,h1,h2,fun i hi=>?_⟩
  obtain ⟨x,hx,hr⟩:=h3 i hi
  exact ⟨x,hx,ih i hg hr⟩
 | agg m c ih =>
  intro g g' u hg h
  obtain ⟨cs,h1,h2,h3⟩:=h
  refine ⟨cs,h1,h2,fun i hi=>?_⟩
  obtain ⟨x,hx,h1c,hr⟩:=h3 i hi
  exact ⟨x,hx,h1c,ih i hg hr⟩
 | tup m c ih =>
  intro g g' u hg h
  obtain ⟨cs,h1,h2,h3⟩:=h
  refine ⟨cs,h1,h2,fun i hi=>?_⟩
  obtain ⟨x,hx,hr⟩:=h3 i hi
  exact ⟨x,hx,ih i hg hr⟩

theorem rep_up {M:Nat → Prop} {w:World} {v:AV} {g g':GM} {u:Value} (hg:g.le g') (h:rep M w v g u):rep M w v g' u:=rep_mono (Chg.refl M w) (fun _ _ h=>h) v hg h

/-- Values that name no block of the call's own. -/
def AV.pure : AV → Prop
 | .own .. | .ptr .. | .rp .. | .osl .. | .mpv ..=>False
 | .fn _ m c | .agg m c | .tup m c=>∀ i,i < m → (c i).pure
 | _=>True
theorem rep_pure {M:Nat → Prop} {w:World}:∀ (v:AV) {g:GM} {u:Value},v.pure → rep M w v g u → rep M w v g0 u:=by
 intro v
 induction v with
 | bot=>intros;trivial
 | int k n=>intro g u _ h;exact h
 | bool b=>intro g u _ h;exact h
 | nilp=>intro g u _ h;exact h
 | nilf=>intro g u _ h;exact h
 | sl z e n sz c ih=>intro g u _ h;exact h
 | ip m c o ih=>intro g u _ h;exact h
 | own d n=>intro g u hp;exact hp.elim
 | ptr d o=>intro g u hp;exact hp.elim
 | rp d sz k o=>intro g u hp;exact hp.elim
 | osl d sz lo n=>intro g u hp;exact hp.elim
 | mpv d=>intro g u hp;exact hp.elim
 | mv f m c ih=>intro g u _ h;exact h
 | fn f m c ih =>
  intro g u hp h
  obtain ⟨cs,h1,h2,h3⟩:=h
  refine ⟨cs,h1,h2,fun i hi=>?_⟩
  obtain ⟨x,hx,hr⟩:=h3 i hi
  exact ⟨x,hx,ih i (hp i hi) hr⟩
 | agg m c ih =>
  intro g u hp h
  obtain ⟨cs,h1,h2,h3⟩:=h
  refine ⟨cs,h1,h2,fun i hi=>?_⟩
  obtain ⟨x,hx,h1c,hr⟩:=h3 i hi
  exact ⟨x,hx,h1c,ih i (hp i hi) hr⟩
 | tup m c ih =>
  intro g u hp h
  obtain ⟨cs,h1,h2,h3⟩:=h
  refine ⟨cs,h1,h2,fun i hi=>?_⟩
  obtain ⟨x,hx,hr⟩:=h3 i hi
  exact ⟨x,hx,ih i (hp i hi) hr⟩

/-- Values of one cell. -/
def AV.one : AV → Bool
 | .bot | .agg .. | .tup ..=>false
 | _=>true
theorem one_of_rep {M:Nat → Prop} {w:World} {v:AV} {g:GM} {u:Value} (h1:v.one = true) (h:rep M w v g u):u.oneCell' = true ∧ u.cells = #[u]:=by
 cases v <;> simp only [AV.one,Bool.false_eq_true] at h1 <;> simp only [rep] at h
 case int=>subst h;exact ⟨rfl,rfl⟩
 case bool=>subst h;exact ⟨rfl,rfl⟩
 case nilp=>subst h;exact ⟨rfl,rfl⟩
 case nilf=>subst h;exact ⟨rfl,rfl⟩
 case sl=>obtain ⟨A,cap,rfl,_⟩:=h;exact ⟨rfl,rfl⟩
 case ip=>obtain ⟨b,off,rfl,_⟩:=h;exact ⟨rfl,rfl⟩
 case own=>obtain ⟨b,cap,_,rfl,_⟩:=h;exact ⟨rfl,rfl⟩
 case ptr=>obtain ⟨b,cap,_,rfl⟩:=h;exact ⟨rfl,rfl⟩
 case rp=>obtain ⟨b,cap,_,rfl⟩:=h;exact ⟨rfl,rfl⟩
 case osl=>obtain ⟨b,cap,p,_,rfl,_⟩:=h;exact ⟨rfl,rfl⟩
 case mpv=>obtain ⟨b,cap,_,rfl⟩:=h;exact ⟨rfl,rfl⟩
 case mv=>obtain ⟨cs,rfl,_⟩:=h;exact ⟨rfl,rfl⟩
 case fn=>obtain ⟨cs,rfl,_⟩:=h;exact ⟨rfl,rfl⟩

/-- The call's own blocks: a variable of m cells, or a row of n elements of sz cells each. -/
inductive AB where
 | dead
 | box (m:Nat) (c:Nat → AV)
 | row (n sz:Nat) (c:Nat → Nat → AV)
 | mp (kt:Nat) (L:List (List Int × AV))
 | mit (m:AV) (n:Nat) (seen:List Nat)
 | rwg (n sz:Nat) (c:Nat → Nat → AV)
 deriving Inhabited
/-- A key of a map: one number (0), or so many cells that are numbers. -/
def keyV (kt:Nat) (l:List Int):Value:=match kt with
 | 0=>.int .i64 (l.getD 0 0)
 | _ + 1=>.agg (l.map (Value.int .i64)).toArray
def in64 (a:Int):Prop:=-9223372036854775808 ≤ a ∧ a ≤ 9223372036854775807
def KeyOK (kt:Nat) (l:List Int):Prop:=l.length = max 1 kt ∧ ∀ a ∈ l,in64 a
/-- What a map holds: its entries in the order of their coming. -/
structure MapOK (M:Nat → Prop) (w:World) (kt:Nat) (L:List (List Int × AV)) (es:Array MapEntry):Prop where
 len:es.size = L.length
 ent:∀ i,i < L.length → ∃ e,es[i]? = some e ∧ e.born = i ∧ e.key = keyV kt (L.getD i default).1 ∧ rep M w (L.getD i default).2 g0 e.val
 nod:(L.map (·.1)).Nodup
 one:∀ p ∈ L,KeyOK kt p.1
theorem MapOK.mono {M M':Nat → Prop} {w w':World} {kt:Nat} {L:List (List Int × AV)} {es:Array MapEntry} (h:MapOK M w kt L es) (hc:Chg M w w') (hM:∀ b,b < w.heap.size → M' b → M b):MapOK M' w' kt L es :=
 ⟨h.len,fun i hi=>by obtain ⟨e,a,b,c,d⟩:=h.ent i hi;exact ⟨e,a,b,c,rep_mono hc hM _ (GM.le_refl _) d⟩,h.nod,h.one⟩
def AB.live : AB → Prop
 | .dead=>False
 | _=>True
def live (h:List AB) (d:Nat):Prop:=∃ b,h[d]? = some b ∧ b.live
/-- The blocks that the call may write. -/
def MO (g:GM) (h:List AB) (b:Nat):Prop:=∃ d cap,live h d ∧ g d = some (b,cap)
/-- With them, those of all who called. -/
def MM (F:Nat → Prop) (g:GM) (h:List AB) (b:Nat):Prop:=F b ∨ MO g h b

structure HOK (F:Nat → Prop) (g:GM) (w:World) (h:List AB):Prop where
 dom:∀ d,h.length ≤ d → g d = none
 lv:∀ d,live h d → ∃ p,g d = some p
 inj:∀ d d' b c c',live h d → live h d' → g d = some (b,c) → g d' = some (b,c') → d = d'
 box:∀ d m c b cap,h[d]? = some (.box m c) → g d = some (b,cap) → ∃ cs t,w.heap[b]? = some (.cells cs t (0,0)) ∧ cs.size = m ∧ ∀ i,i < m → ∃ u,cs[i]? = some u ∧ u.oneCell' = true ∧ rep (MM F g h) w (c i) g u
 row:∀ d n sz c b cap,h[d]? = some (.row n sz c) → g d = some (b,cap) → n ≤ cap ∧ cap ≤ maxLen ∧ ∃ cs t,w.heap[b]? = some (.cells cs t (0,0)) ∧ cs.size = cap * sz ∧ ∀ k,k < n → ∀ o,o < sz → ∃ u,cs[k * sz + o]? = some u ∧ u.oneCell' = true ∧ rep (MM F g h) w (c k o) g0 u
 mp:∀ d kt L b cap,h[d]? = some (.mp kt L) → g d = some (b,cap) → ∃ es,w.heap[b]? = some (.map es es.size) ∧ MapOK (MM F g h) w kt L es
 mit:∀ d m n seen b cap,h[d]? = some (.mit m n seen) → g d = some (b,cap) → seen.Nodup ∧ (∀ i ∈ seen,i < n) ∧ ∃ mb,rep (MM F g h) w m g (.map (some mb)) ∧ w.heap[b]? = some (.mapIter (some mb) n seen.toArray n)
 rwg:∀ d n sz c b cap,h[d]? = some (.rwg n sz c) → g d = some (b,cap) → n ≤ cap ∧ cap ≤ maxLen ∧ ∃ cs t,w.heap[b]? = some (.cells cs t (0,0)) ∧ cs.size = cap * sz ∧ ∀ k,k < n → ∀ o,o < sz → ∃ u,cs[k * sz + o]? = some u ∧ u.oneCell' = true ∧ rep (MM F g h) w (c k o) g u
 fr:∀ b,F b → b < w.heap.size ∧ ¬ MO g h b
theorem lt_of_heap {w:World} {b:Nat} {o:Obj} (h:w.heap[b]? = some o):b < w.heap.size:=by
 rcases Nat.lt_or_ge b w.heap.size with hlt|hge
 ·exact hlt
 ·rw [Array.getElem?_eq_none hge] at h;cases h

section
variable {F:Nat → Prop}
theorem HOK.nil (w:World) (hF:∀ b,F b → b < w.heap.size):HOK F g0 w []:=⟨fun _ _=>rfl,fun d ⟨b,h,_⟩=>by simp at h,fun d d' b c c' ⟨x,h,_⟩=>by simp at h,fun d m c b cap h=>by simp at h,fun d n sz c b cap h=>by simp at h,fun d kt L b cap h=>by simp at h,fun d m n seen b cap h=>by simp at h,fun d n sz c b cap h=>by simp at h,fun b hb=>⟨hF b hb,fun ⟨d,cap,⟨x,h,_⟩,_⟩=>by simp at h⟩⟩
theorem HOK.olt {g:GM} {w:World} {h:List AB} (k:HOK F g w h) {b:Nat} (hb:MO g h b):b < w.heap.size:=by
 obtain ⟨d,cap,⟨x,hx,hl⟩,hg⟩:=hb
 cases x with
 | dead=>exact hl.elim
 | box m c=>obtain ⟨cs,t,h1,_⟩:=k.box d m c b cap hx hg;exact lt_of_heap h1
 | row n sz c=>obtain ⟨_,_,cs,t,h1,_⟩:=k.row d n sz c b cap hx hg;exact lt_of_heap h1
 | mp kt L=>obtain ⟨es,h1,_⟩:=k.mp d kt L b cap hx hg;exact lt_of_heap h1
 | mit m n seen=>obtain ⟨_,_,mb,_,h1⟩:=k.mit d m n seen b cap hx hg;exact lt_of_heap h1
 | rwg n sz c=>obtain ⟨_,_,cs,t,h1,_⟩:=k.rwg d n sz c b cap hx hg;exact lt_of_heap h1
theorem HOK.mlt {g:GM} {w:World} {h:List AB} (k:HOK F g w h) {b:Nat} (hb:MM F g h b):b < w.heap.size:=hb.elim (fun h=>(k.fr b h).1) k.olt
theorem HOK.lt {g:GM} {w:World} {h:List AB} (k:HOK F g w h) {d:Nat} {p:Nat × Nat} (hg:g d = some p):d < h.length:=by
 rcases Nat.lt_or_ge d h.length with h'|h'
 ·exact h'
 ·rw [k.dom d h'] at hg;cases hg

/-- From one state of the call's own blocks to the next. -/
structure Tr (F:Nat → Prop) (g:GM) (h:List AB) (w:World) (g':GM) (h':List AB) (w':World):Prop where
 ok:HOK F g' w' h'
 gle:g.le g'
 chg:Chg (MO g h) w w'
 new:∀ b,MO g' h' b → MO g h b ∨ w.heap.size ≤ b
theorem Tr.refl {g:GM} {h:List AB} {w:World} (k:HOK F g w h):Tr F g h w g h w:=⟨k,GM.le_refl _,Chg.refl _ _,fun _ h=>.inl h⟩
theorem Tr.oldo {g g':GM} {h h':List AB} {w w':World} (t:Tr F g h w g' h' w'):∀ b,b < w.heap.size → MO g' h' b → MO g h b:=fun b hb hm=>(t.new b hm).resolve_right (by omega)
theorem Tr.old {g g':GM} {h h':List AB} {w w':World} (t:Tr F g h w g' h' w'):∀ b,b < w.heap.size → MM F g' h' b → MM F g h b:=fun b hb hm=>hm.imp id (t.oldo b hb)
theorem Tr.mchg {g g':GM} {h h':List AB} {w w':World} (t:Tr F g h w g' h' w'):Chg (MM F g h) w w':=t.chg.weak fun _ _ h=>.inr h
theorem Tr.trans {g g' g'':GM} {h h' h'':List AB} {w w' w'':World} (a:Tr F g h w g' h' w') (b:Tr F g' h' w' g'' h'' w''):Tr F g h w g'' h'' w'' :=
 ⟨b.ok,GM.le_trans a.gle b.gle,a.chg.trans b.chg a.oldo,fun x hx=>by
  rcases b.new x hx with h|h
  ·exact a.new x h
  ·exact .inr (Nat.le_trans a.chg.size h)⟩
theorem Tr.hold {g g':GM} {h h':List AB} {w w':World} (t:Tr F g h w g' h' w') {v:AV} {u:Value} (hr:rep (MM F g h) w v g u):rep (MM F g' h') w' v g' u:=rep_mono t.mchg t.old v t.gle hr

theorem cell_of_heap {w:World} {b i:Nat} {cs:Array Value} {t:TypeId} {u:Value} (h:w.heap[b]? = some (.cells cs t (0,0))) (hu:cs[i]? = some u):w.cell? ⟨b,i,none⟩ = some u:=by
 simp [World.cell?,h,hu]
theorem free_of_heap {w:World} {b i:Nat} {cs:Array Value} {t:TypeId} (h:w.heap[b]? = some (.cells cs t (0,0))):w.frozen? ⟨b,i,none⟩ = false:=by
 simp [World.frozen?,h]

/-- What a block of the call's own holds. -/
def ABOK (M:Nat → Prop) (g:GM) (w:World) (b cap:Nat):AB → Prop
 | .dead=>True
 | .box m c=>∃ cs t,w.heap[b]? = some (.cells cs t (0,0)) ∧ cs.size = m ∧ ∀ i,i < m → ∃ u,cs[i]? = some u ∧ u.oneCell' = true ∧ rep M w (c i) g u
 | .row n sz c=>n ≤ cap ∧ cap ≤ maxLen ∧ ∃ cs t,w.heap[b]? = some (.cells cs t (0,0)) ∧ cs.size = cap * sz ∧ ∀ k,k < n → ∀ o,o < sz → ∃ u,cs[k * sz + o]? = some u ∧ u.oneCell' = true ∧ rep M w (c k o) g0 u
 | .mp kt L=>∃ es,w.heap[b]? = some (.map es es.size) ∧ MapOK M w kt L es
 | .mit m n seen=>seen.Nodup ∧ (∀ i ∈ seen,i < n) ∧ ∃ mb,rep M w m g (.map (some mb)) ∧ w.heap[b]? = some (.mapIter (some mb) n seen.toArray n)
 | .rwg n sz c=>n ≤ cap ∧ cap ≤ maxLen ∧ ∃ cs t,w.heap[b]? = some (.cells cs t (0,0)) ∧ cs.size = cap * sz ∧ ∀ k,k < n → ∀ o,o < sz → ∃ u,cs[k * sz + o]? = some u ∧ u.oneCell' = true ∧ rep M w (c k o) g u
theorem ABOK.lt {M:Nat → Prop} {g:GM} {w:World} {b cap:Nat} {x:AB} (h:ABOK M g w b cap x) (hl:x.live):b < w.heap.size:=by
 cases x with
 | dead=>exact hl.elim
 | box m c=>obtain ⟨cs,t,h1,_⟩:=h;exact lt_of_heap h1
 | row n sz c=>obtain ⟨_,_,cs,t,h1,_⟩:=h;exact lt_of_heap h1
 | mp kt L=>obtain ⟨es,h1,_⟩:=h;exact lt_of_heap h1
 | mit m n seen=>obtain ⟨_,_,mb,_,h1⟩:=h;exact lt_of_heap h1
 | rwg n sz c=>obtain ⟨_,_,cs,t,h1,_⟩:=h;exact lt_of_heap h1
theorem HOK.all {g:GM} {w:World} {h:List AB} (k:HOK F g w h) {d b cap:Nat} {x:AB} (hx:h[d]? = some x) (hg:g d = some (b,cap)):ABOK (MM F g h) g w b cap x:=by
 cases x with
 | dead=>trivial
 | box m c=>exact k.box d m c b cap hx hg
 | row n sz c=>exact k.row d n sz c b cap hx hg
 | mp kt L=>exact k.mp d kt L b cap hx hg
 | mit m n seen=>exact k.mit d m n seen b cap hx hg
 | rwg n sz c=>exact k.rwg d n sz c b cap hx hg
theorem HOK.of_all {g:GM} {w:World} {h:List AB} (dom:∀ d,h.length ≤ d → g d = none) (lv:∀ d,live h d → ∃ p,g d = some p)
  (inj:∀ d d' b c c',live h d → live h d' → g d = some (b,c) → g d' = some (b,c') → d = d')
  (all:∀ d b cap x,h[d]? = some x → g d = some (b,cap) → ABOK (MM F g h) g w b cap x) (fr:∀ b,F b → b < w.heap.size ∧ ¬ MO g h b):HOK F g w h :=
 ⟨dom,lv,inj,fun d _ _ b cap hd hg=>all d b cap _ hd hg,fun d _ _ _ b cap hd hg=>all d b cap _ hd hg,fun d _ _ b cap hd hg=>all d b cap _ hd hg,fun d _ _ _ b cap hd hg=>all d b cap _ hd hg,fun d _ _ _ b cap hd hg=>all d b cap _ hd hg,fr⟩
theorem ABOK.mono {M M':Nat → Prop} {g g':GM} {w w':World} {b cap:Nat} {x:AB} (h:ABOK M g w b cap x) (hc:Chg M w w') (hM:∀ b,b < w.heap.size → M' b → M b) (hg:g.le g') (hb:w'.heap[b]? = w.heap[b]?):ABOK M' g' w' b cap x:=by
 cases x with
 | dead=>trivial
 | box m c =>
  obtain ⟨cs,t,h1,h2,h3⟩:=h
  refine ⟨cs,t,hb.trans h1,h2,fun i hi=>?_⟩
  obtain ⟨u,hu,h1c,hr⟩:=h3 i hi
  exact ⟨u,hu,h1c,rep_mono hc hM _ hg hr⟩
 | row n sz c =>
  obtain ⟨hn,hm,cs,t,h1,h2,h3⟩:=h
  refine ⟨hn,hm,cs,t,hb.trans h1,h2,fun kk hk o ho=>?_⟩
  obtain ⟨u,hu,h1c,hr⟩:=h3 kk hk o ho
  exact ⟨u,hu,h1c,rep_mono hc hM _ (GM.le_refl _) hr⟩
 | mp kt L =>
  obtain ⟨es,h1,h2⟩:=h
  exact ⟨es,hb.trans h1,h2.mono hc hM⟩
 | mit m n seen =>
  obtain ⟨h1,h2,mb,h3,h4⟩:=h
  exact ⟨h1,h2,mb,rep_mono hc hM _ hg h3,hb.trans h4⟩
 | rwg n sz c =>
  obtain ⟨hn,hm,cs,t,h1,h2,h3⟩:=h
  refine ⟨hn,hm,cs,t,hb.trans h1,h2,fun kk hk o ho=>?_⟩
  obtain ⟨u,hu,h1c,hr⟩:=h3 kk hk o ho
  exact ⟨u,hu,h1c,rep_mono hc hM _ hg hr⟩

/-- A world in which nothing of the call's own has changed, and no block is new to it. -/
theorem HOK.keep {g:GM} {w w':World} {h:List AB} (k:HOK F g w h) (hc:Chg (fun _=>False) w w'):HOK F g w' h:=by
 have hc':Chg (MM F g h) w w':=hc.weak (fun _ _ h=>h.elim)
 refine HOK.of_all k.dom k.lv k.inj (fun d b cap x hx hg=>?_) (fun b hb=>⟨Nat.lt_of_lt_of_le (k.fr b hb).1 hc.size,(k.fr b hb).2⟩)
 by_cases hl:x.live
 ·exact (k.all hx hg).mono hc' (fun _ _ h=>h) (GM.le_refl _) (hc.block b ((k.all hx hg).lt hl) (fun h=>h))
 ·cases x with
  | dead=>trivial
  | box=>exact (hl trivial).elim
  | row=>exact (hl trivial).elim
  | mp=>exact (hl trivial).elim
  | mit=>exact (hl trivial).elim
  | rwg=>exact (hl trivial).elim
theorem Tr.keep {g:GM} {h:List AB} {w w':World} (k:HOK F g w h) (hc:Chg (fun _=>False) w w'):Tr F g h w g h w':=⟨k.keep hc,GM.le_refl _,hc.weak (fun _ _ h=>h.elim),fun _ h=>.inl h⟩

theorem live_set {h:List AB} {d d':Nat} {x:AB} (hl:live (h.set d x) d'):(d' = d ∧ x.live) ∨ (d' ≠ d ∧ live h d'):=by
 obtain ⟨y,hy,hyl⟩:=hl
 by_cases e:d' = d
 ·subst e
  rw [List.getElem?_set] at hy
  simp only [if_true] at hy
  split at hy
  ·injection hy with hy;subst hy;exact .inl ⟨rfl,hyl⟩
  ·cases hy
 ·rw [List.getElem?_set_ne (fun h=>e h.symm)] at hy
  exact .inr ⟨e,y,hy,hyl⟩
theorem live_set_ne {h:List AB} {d d':Nat} {x:AB} (e:d' ≠ d) (hl:live h d'):live (h.set d x) d':=by
 obtain ⟨y,hy,hyl⟩:=hl
 exact ⟨y,by rw [List.getElem?_set_ne (fun h=>e h.symm)];exact hy,hyl⟩
theorem live_set_eq {h:List AB} {d:Nat} {x:AB} (hd:d < h.length) (hl:x.live):live (h.set d x) d :=
 ⟨x,by rw [List.getElem?_set];simp [hd],hl⟩
theorem live_push {h:List AB} {d:Nat} {x:AB} (hl:live (h ++ [x]) d):live h d ∨ (d = h.length ∧ x.live):=by
 obtain ⟨y,hy,hyl⟩:=hl
 rcases Nat.lt_trichotomy d h.length with hd|hd|hd
 ·rw [List.getElem?_append_left hd] at hy;exact .inl ⟨y,hy,hyl⟩
 ·subst hd
  simp at hy
  subst hy
  exact .inr ⟨rfl,hyl⟩
 ·rw [List.getElem?_append_right (by omega)] at hy
  rw [List.getElem?_eq_none (by simp;omega)] at hy
  cases hy
theorem live_push_old {h:List AB} {d:Nat} {x:AB} (hl:live h d):live (h ++ [x]) d:=by
 obtain ⟨y,hy,hyl⟩:=hl
 have hd:d < h.length:=by
  rcases Nat.lt_or_ge d h.length with h'|h'
  ·exact h'
  ·rw [List.getElem?_eq_none h'] at hy;cases hy
 exact ⟨y,by rw [List.getElem?_append_left hd];exact hy,hyl⟩

/-- A block of the call's own is let go. -/
theorem Tr.kill {g:GM} {w:World} {h:List AB} (k:HOK F g w h) (d:Nat):Tr F g h w g (h.set d .dead) w:=by
 have hO:∀ b,MO g (h.set d .dead) b → MO g h b:=by
  rintro b ⟨d',cap,hl,hg⟩
  rcases live_set hl with ⟨_,h'⟩|⟨_,h'⟩
  ·exact h'.elim
  ·exact ⟨d',cap,h',hg⟩
 have hM:∀ b,MM F g (h.set d .dead) b → MM F g h b:=fun b=>Or.imp id (hO b)
 refine ⟨HOK.of_all (fun d' hd=>k.dom d' (by simpa using hd)) (fun d' hl=>?_) (fun d1 d2 b c c' h1 h2=>?_) (fun d' b cap x hx hg=>?_) (fun b hb=>⟨(k.fr b hb).1,fun h=>(k.fr b hb).2 (hO b h)⟩),GM.le_refl _,Chg.refl _ _,fun b hb=>.inl (hO b hb)⟩
 ·rcases live_set hl with ⟨_,h'⟩|⟨_,h'⟩
  ·exact h'.elim
  ·exact k.lv d' h'
 ·rcases live_set h1 with ⟨_,h'⟩|⟨_,h1'⟩
  ·exact h'.elim
  rcases live_set h2 with ⟨_,h'⟩|⟨_,h2'⟩
  ·exact h'.elim
  exact k.inj d1 d2 b c c' h1' h2'
 ·by_cases e:d' = d
  ·subst e
   rw [List.getElem?_set] at hx
   simp only [if_true] at hx
   split at hx
   ·injection hx with hx;subst hx;trivial
   ·cases hx
  ·rw [List.getElem?_set_ne (fun h=>e h.symm)] at hx
   exact (k.all hx hg).mono (Chg.refl _ _) (fun b _=>hM b) (GM.le_refl _) rfl
theorem MM_kill {g:GM} {w:World} {h:List AB} (k:HOK F g w h) {d b cap:Nat} (hl:live h d) (hg:g d = some (b,cap)):¬ MO g (h.set d .dead) b:=by
 rintro ⟨d',cap',hl',hg'⟩
 rcases live_set hl' with ⟨_,h'⟩|⟨hne,h'⟩
 ·exact h'.elim
 ·exact hne (k.inj d' d b cap' cap h' hl hg' hg)

def GM.push (g:GM) (n:Nat) (p:Nat × Nat):GM:=fun d=>if d = n then some p else g d
theorem GM.le_push {g:GM} {w:World} {h:List AB} (k:HOK F g w h) (p:Nat × Nat):g.le (g.push h.length p):=fun d q hd=>by
 have:=k.lt hd
 simp [GM.push,Nat.ne_of_lt this,hd]
theorem MO_push {g:GM} {w:World} {h:List AB} (k:HOK F g w h) {b cap:Nat} {x:AB} {b':Nat} (hm:MO (g.push h.length (b,cap)) (h ++ [x]) b'):MO g h b' ∨ (b' = b ∧ x.live):=by
 obtain ⟨d,c',hl,hg⟩:=hm
 rcases live_push hl with hl'|⟨e,hxl⟩
 ·obtain ⟨p,hp⟩:=k.lv d hl'
  have:=k.lt hp
  simp only [GM.push,Nat.ne_of_lt this,if_false] at hg
  exact .inl ⟨d,c',hl',hg⟩
 ·subst e
  simp only [GM.push,if_true] at hg
  injection hg with hg
  injection hg with hg1 hg2
  exact .inr ⟨hg1.symm,hxl⟩
theorem MM_push {g:GM} {w:World} {h:List AB} (k:HOK F g w h) {b cap:Nat} {x:AB} {b':Nat} (hm:MM F (g.push h.length (b,cap)) (h ++ [x]) b'):MM F g h b' ∨ (b' = b ∧ x.live):=by
 rcases hm with hF|hm
 ·exact .inl (.inl hF)
 ·exact (MO_push k hm).imp .inr id
/-- A new block, whose contents are in place. -/
theorem Tr.push {g:GM} {w w':World} {h:List AB} (k:HOK F g w h) {b cap:Nat} {x:AB} (hc:Chg (fun _=>False) w w') (hbn':w.heap.size ≤ b)
  (hx:ABOK (MM F (g.push h.length (b,cap)) (h ++ [x])) (g.push h.length (b,cap)) w' b cap x):Tr F g h w (g.push h.length (b,cap)) (h ++ [x]) w':=by
 have hb:¬ MO g h b:=fun hm=>by have:=k.olt hm;omega
 have hle:=GM.le_push k (b,cap)
 have hc':Chg (MM F g h) w w':=hc.weak (fun _ _ h=>h.elim)
 have hM:∀ x',x' < w.heap.size → MM F (g.push h.length (b,cap)) (h ++ [x]) x' → MM F g h x':=fun x' hx' hm=>(MM_push k hm).resolve_right (fun ⟨e,_⟩=>by omega)
 refine ⟨HOK.of_all (fun d hd=>?_) (fun d hl=>?_) (fun d1 d2 b1 c c' h1 h2 g1 g2=>?_) (fun d b1 cap1 y hy hg=>?_) (fun y hy=>⟨Nat.lt_of_lt_of_le (k.fr y hy).1 hc.size,fun hm=>?_⟩),hle,hc.weak (fun _ _ h=>h.elim),fun x' hm=>?_⟩
 ·rw [List.length_append,List.length_singleton] at hd
  have e:d ≠ h.length:=by omega
  simp only [GM.push,e,if_false]
  exact k.dom d (by omega)
 ·rcases live_push hl with hl|⟨rfl,_⟩
  ·obtain ⟨p,hp⟩:=k.lv d hl
   exact ⟨p,hle _ _ hp⟩
  ·exact ⟨(b,cap),by simp [GM.push]⟩
 ·have old:∀ d,live h d → ∃ q,g d = some q ∧ d ≠ h.length:=fun d hl=>by
   obtain ⟨p,hp⟩:=k.lv d hl
   exact ⟨p,hp,Nat.ne_of_lt (k.lt hp)⟩
  rcases live_push h1 with h1|⟨rfl,_⟩ <;> rcases live_push h2 with h2|⟨rfl,_⟩
  ·obtain ⟨q1,e1,n1⟩:=old d1 h1
   obtain ⟨q2,e2,n2⟩:=old d2 h2
   simp only [GM.push,n1,n2,if_false] at g1 g2
   exact k.inj d1 d2 b1 c c' h1 h2 g1 g2
  ·obtain ⟨q1,e1,n1⟩:=old d1 h1
   simp only [GM.push,n1,if_false,if_true] at g1 g2
   injection g2 with g2
   injection g2 with g2 _
   subst g2
   exact (hb ⟨d1,c,h1,g1⟩).elim
  ·obtain ⟨q2,e2,n2⟩:=old d2 h2
   simp only [GM.push,n2,if_false,if_true] at g1 g2
   injection g1 with g1
   injection g1 with g1 _
   subst g1
   exact (hb ⟨d2,c',h2,g2⟩).elim
  ·rfl
 ·rcases Nat.lt_trichotomy d h.length with hd|hd|hd
  ·rw [List.getElem?_append_left hd] at hy
   simp only [GM.push,Nat.ne_of_lt hd,if_false] at hg
   by_cases hl:y.live
   ·have hlt:b1 < w.heap.size:=(k.all hy hg).lt hl
    exact (k.all hy hg).mono hc' hM hle (hc.block b1 hlt (fun h=>h))
   ·cases y with
    | dead=>trivial
    | box=>exact (hl trivial).elim
    | row=>exact (hl trivial).elim
    | mp=>exact (hl trivial).elim
    | mit=>exact (hl trivial).elim
    | rwg=>exact (hl trivial).elim
  ·subst hd
   simp only [GM.push,if_true] at hg
   injection hg with hg
   injection hg with hg1 hg2
   subst hg1;subst hg2
   simp at hy
   subst hy
   exact hx
  ·rw [List.getElem?_append_right (by omega),List.getElem?_eq_none (by simp;omega)] at hy
   cases hy
 ·rcases MO_push k hm with h'|⟨rfl,_⟩
  ·exact (k.fr y hy).2 h'
  ·have:=(k.fr y hy).1;omega
 ·rcases MO_push k hm with h'|⟨rfl,_⟩
  ·exact .inl h'
  ·exact .inr hbn'
/-- A row of the call's own under a new name. -/
theorem Tr.move {g:GM} {w:World} {h:List AB} (k:HOK F g w h) {d b cap:Nat} {x:AB} (hl:live h d) (hg:g d = some (b,cap)) (hx:ABOK (MM F g h) g w b cap x):Tr F g h w (g.push h.length (b,cap)) (h.set d .dead ++ [x]) w:=by
 have hd:d < h.length:=k.lt hg
 have kk:=(Tr.kill k d).ok
 have hlen:(h.set d .dead).length = h.length:=by simp
 have hle:=GM.le_push k (b,cap)
 have hMk:∀ y,MO g (h.set d .dead) y → MO g h y:=fun y hy=>((Tr.kill k d).new y hy).resolve_right (fun h'=>by have:=kk.olt hy;omega)
 have hO:∀ y,MO (g.push h.length (b,cap)) (h.set d .dead ++ [x]) y → MO g h y:=fun y hy=>by
  have:=MO_push kk (b:=b) (cap:=cap) (x:=x) (b':=y) (by rw [hlen];exact hy)
  rcases this with h'|⟨rfl,_⟩
  ·exact hMk y h'
  ·exact ⟨d,cap,hl,hg⟩
 have hM:∀ y,MM F (g.push h.length (b,cap)) (h.set d .dead ++ [x]) y → MM F g h y:=fun y=>Or.imp id (hO y)
 have old:∀ d',live (h.set d .dead) d' → live h d' ∧ d' ≠ d ∧ d' ≠ h.length ∧ ∃ q,g d' = some q:=fun d' hl'=>by
  rcases live_set hl' with ⟨_,h'⟩|⟨hne,h'⟩
  ·exact h'.elim
  ·obtain ⟨p,hp⟩:=k.lv d' h'
   exact ⟨h',hne,Nat.ne_of_lt (k.lt hp),p,hp⟩
 have lp:∀ d',live (h.set d .dead ++ [x]) d' → live (h.set d .dead) d' ∨ d' = h.length:=fun d' hl'=>by
  rcases live_push hl' with h'|⟨e,_⟩
  ·exact .inl h'
  ·exact .inr (by rw [e,hlen])
 refine ⟨HOK.of_all (fun d' hd'=>?_) (fun d' hl'=>?_) (fun d1 d2 b1 c c' h1 h2 g1 g2=>?_) (fun d' b1 cap1 y hy hg1=>?_) (fun y hy=>⟨(k.fr y hy).1,fun h=>(k.fr y hy).2 (hO y h)⟩),hle,Chg.refl _ _,fun y hy=>.inl (hO y hy)⟩
 ·rw [List.length_append,List.length_singleton,hlen] at hd'
  have e:d' ≠ h.length:=by omega
  simp only [GM.push,e,if_false]
  exact k.dom d' (by omega)
 ·rcases lp d' hl' with h'|rfl
  ·obtain ⟨_,_,_,q,hq⟩:=old d' h'
   exact ⟨q,hle _ _ hq⟩
  ·exact ⟨(b,cap),by simp [GM.push]⟩
 ·rcases lp d1 h1 with h1|rfl <;> rcases lp d2 h2 with h2|rfl
  ·obtain ⟨l1,_,n1,_⟩:=old d1 h1
   obtain ⟨l2,_,n2,_⟩:=old d2 h2
   simp only [GM.push,n1,n2,if_false] at g1 g2
   exact k.inj d1 d2 b1 c c' l1 l2 g1 g2
  ·obtain ⟨l1,m1,n1,_⟩:=old d1 h1
   simp only [GM.push,n1,if_false,if_true] at g1 g2
   injection g2 with g2
   injection g2 with g2 _
   subst g2
   exact (m1 (k.inj d1 d b c cap l1 hl g1 hg)).elim
  ·obtain ⟨l2,m2,n2,_⟩:=old d2 h2
   simp only [GM.push,n2,if_false,if_true] at g1 g2
   injection g1 with g1
   injection g1 with g1 _
   subst g1
   exact (m2 (k.inj d2 d b c' cap l2 hl g2 hg)).elim
  ·rfl
 ·rcases Nat.lt_trichotomy d' h.length with hd'|hd'|hd'
  ·rw [List.getElem?_append_left (by rw [hlen];exact hd')] at hy
   simp only [GM.push,Nat.ne_of_lt hd',if_false] at hg1
   by_cases e:d' = d
   ·subst e
    rw [List.getElem?_set] at hy
    simp only [if_true,hd] at hy
    injection hy with hy
    subst hy
    trivial
   ·rw [List.getElem?_set_ne (fun h=>e h.symm)] at hy
    exact (k.all hy hg1).mono (Chg.refl _ _) (fun y _=>hM y) hle rfl
  ·subst hd'
   simp only [GM.push,if_true] at hg1
   injection hg1 with hg1
   injection hg1 with e1 e2
   subst e1;subst e2
   rw [List.getElem?_append_right (by rw [hlen];exact Nat.le_refl _),hlen] at hy
   simp at hy
   subst hy
   exact hx.mono (Chg.refl _ _) (fun y _=>hM y) hle rfl
  ·rw [List.getElem?_append_right (by rw [hlen];omega),List.getElem?_eq_none (by rw [hlen];simp;omega)] at hy
   cases hy
/-- A block of the call's own gets other contents. -/
theorem Tr.upd {g:GM} {w w':World} {h:List AB} (k:HOK F g w h) {d b cap:Nat} {x:AB} (hl:live h d) (hg:g d = some (b,cap)) (hxl:x.live) (hc:Chg (fun y=>y = b) w w')
  (hx:ABOK (MM F g h) g w' b cap x):Tr F g h w g (h.set d x) w':=by
 have hd:d < h.length:=k.lt hg
 have hM:∀ y,MO g (h.set d x) y ↔ MO g h y:=fun y=>by
  constructor
  ·rintro ⟨d',c',hl',hg'⟩
   rcases live_set hl' with ⟨rfl,_⟩|⟨_,h'⟩
   ·exact ⟨d',c',hl,hg'⟩
   ·exact ⟨d',c',h',hg'⟩
  ·rintro ⟨d',c',hl',hg'⟩
   by_cases e:d' = d
   ·subst e;exact ⟨d',c',live_set_eq hd hxl,hg'⟩
   ·exact ⟨d',c',live_set_ne e hl',hg'⟩
 have hMe:MM F g (h.set d x) = MM F g h:=funext fun y=>propext ⟨Or.imp id (hM y).1,Or.imp id (hM y).2⟩
 have hco:Chg (MO g h) w w':=hc.weak (fun y _ e=>by subst e;exact ⟨d,cap,hl,hg⟩)
 have hc':Chg (MM F g h) w w':=hco.weak (fun y _ e=>.inr e)
 have back:∀ d',live (h.set d x) d' → live h d':=fun d' hl'=>by
  rcases live_set hl' with ⟨rfl,_⟩|⟨_,h'⟩
  ·exact hl
  ·exact h'
 refine ⟨HOK.of_all (fun d' hd'=>k.dom d' (by simpa using hd')) (fun d' hl'=>k.lv d' (back d' hl')) (fun d1 d2 b1 c c' h1 h2=>k.inj d1 d2 b1 c c' (back _ h1) (back _ h2)) (fun d' b1 cap1 y hy hg1=>?_) (fun y hy=>⟨Nat.lt_of_lt_of_le (k.fr y hy).1 hc.size,fun h=>(k.fr y hy).2 ((hM y).1 h)⟩),GM.le_refl _,hco,fun y hy=>.inl ((hM y).1 hy)⟩
 rw [hMe]
 by_cases e:d' = d
 ·subst e
  rw [List.getElem?_set] at hy
  simp only [if_true,hd] at hy
  injection hy with hy
  subst hy
  rw [hg] at hg1
  injection hg1 with hg1
  injection hg1 with e1 e2
  subst e1;subst e2
  exact hx
 ·rw [List.getElem?_set_ne (fun h=>e h.symm)] at hy
  by_cases hyl:y.live
  ·have hlt:b1 < w.heap.size:=(k.all hy hg1).lt hyl
   have hne:b1 ≠ b:=fun e'=>by
    subst e'
    exact e (k.inj d' d b1 cap1 cap ⟨y,hy,hyl⟩ hl hg1 hg)
   exact (k.all hy hg1).mono hc' (fun _ _ h=>h) (GM.le_refl _) (hc.block b1 hlt hne)
  ·cases y with
   | dead=>trivial
   | box=>exact (hyl trivial).elim
   | row=>exact (hyl trivial).elim
   | mp=>exact (hyl trivial).elim
   | mit=>exact (hyl trivial).elim
   | rwg=>exact (hyl trivial).elim
end
end Go.Proofs.Ytbhjehpjjbbhbaa

namespace Go.Proofs.Ytbhjehpjjbbhbaa
open Go.RowKit

inductive AX where
 | t (i:Nat)
 | k (v:AV)
 deriving Inhabited
def AX.ev (s:Nat → AV):AX → AV
 | .t i=>s i
 | .k v=>v

/-- Operations on maps and arrays. -/
inductive XOp where
 | mkm (kt:Nat)
 | ins (kt:Nat) (m k v:AX)
 | lkp (kt:Nat) (ok:Bool) (z:AV) (m k:AX)
 | mlen (m:AX)
 | rng (m:AX)
 | ment (kt:Nat) (z:AV) (m k:AX)
 | est (m s v:AX)
 | boxr (n sz:Nat) (z:AV)
 | iaa (n sz:Nat) (x i:AX)
 | idx (n sz:Nat) (m:Option Nat) (x i:AX)
 | ent (x:AX)
 | mmv (f:FuncId) (xs:List AX)
 | cpy (sz:Nat) (x y:AX)
 deriving Inhabited
inductive AOp where
 | mv (x:AX)
 | pick (c a b:AX)
 | nilck (x:AX)
 | box (x:AX)
 | build (zs:List AV) (ps:List (Nat × Nat × AX))
 | bsl (n sz:Nat) (zs:List AV) (ps:List (Nat × AX))
 | bslp (n sz:Nat) (zs:List AV) (ps:List (Nat × AX))
 | ld (m:Option Nat) (x:AX)
 | st (m:Nat) (x y:AX)
 | fa (x:AX) (off:Nat)
 | fld (x:AX) (off:Nat) (m:Option Nat)
 | ia (sz:Nat) (x i:AX)
 | slc (sz:Nat) (x:AX) (lo hi:Option AX)
 | bin (op:BinOp) (x y:AX)
 | binb (neg:Bool) (x y:AX)
 | eqz (tag:Nat) (neg:Bool) (x y:AX)
 | eqa (m:Nat) (neg:Bool) (x y:AX)
 | clr (sz:Nat) (x:AX)
 | un (op:UnOp) (x:AX)
 | conv (k:IntKind) (x:AX)
 | mkf (f:FuncId) (xs:List AX)
 | msl (sz bytes:Nat) (zs:List AV) (x y:AX)
 | len (x:AX)
 | app (sz bytes:Nat) (x y:AX)
 | mx (x y:AX)
 | mn (x y:AX)
 | ext (x:AX) (i:Nat)
 | call (f:FuncId) (xs:List AX)
 | calv (x:AX) (xs:List AX)
 | xt (X:XOp)
 | nxt (x:AX)
 | no
 deriving Inhabited

def ofL (l:List AV):Nat → AV:=fun i=>l.getD i .bot
def und : AV:=.tup 0 (ofL [])
/-- Cells as a table. -/
def tab (m:Nat) (f:Nat → AV):Nat → AV:=ofL ((List.range m).map f)
theorem tab_get {m:Nat} {f:Nat → AV} {i:Nat} (h:i < m):tab m f i = f i:=by simp [tab,ofL,List.getD,List.getElem?_range h]
def acond (q:Bool) (A B:Prop):Prop:=match q with|true=>A|false=>B
theorem acond_i {q:Bool} {A B:Prop} (h1:q = true → A) (h2:q = false → B):acond q A B:=by
 cases q
 ·exact h2 rfl
 ·exact h1 rfl
theorem acond_e {q:Bool} {A B:Prop} (h:acond q A B):(q = true ∧ A) ∨ (q = false ∧ B):=by
 cases q
 ·exact .inr ⟨rfl,h⟩
 ·exact .inl ⟨rfl,h⟩
def updN (c:Nat → AV) (o:Nat) (v:AV):Nat → AV:=fun i=>if i = o then v else c i
def stM (c:Nat → AV) (o:Nat) (cy:Nat → AV):Nat → Nat → AV
 | 0=>c
 | m + 1=>updN (stM c o cy m) (o + m) (cy m)
def updR (c:Nat → Nat → AV) (k o:Nat) (v:AV):Nat → Nat → AV:=fun k' o'=>if k' = k ∧ o' = o then v else c k' o'
def updRm (c:Nat → Nat → AV) (k:Nat) (cy:Nat → AV):Nat → Nat → AV:=fun k' o'=>if k' = k then cy o' else c k' o'
def appc (n:Nat) (c c':Nat → Nat → AV):Nat → Nat → AV:=fun k o=>if k < n then c k o else c' (k - n) o

/-- What a binary operation on integers of one kind gives. -/
def ibin (op:BinOp) (k:IntKind) (x y:Int) (K:AV → Prop):Prop :=
 match op with
 | .add=>K (.int k (k.wrap (x + y)))
 | .sub=>K (.int k (k.wrap (x - y)))
 | .mul=>K (.int k (k.wrap (x * y)))
 | .quo=>y ≠ 0 ∧ K (.int k (k.wrap (x.tdiv y)))
 | .rem=>y ≠ 0 ∧ K (.int k (x.tmod y))
 | .and=>K (.int k (k.wrap (BitVec.ofInt k.bits x &&& BitVec.ofInt k.bits y).toNat))
 | .or=>K (.int k (k.wrap (BitVec.ofInt k.bits x ||| BitVec.ofInt k.bits y).toNat))
 | .xor=>K (.int k (k.wrap (BitVec.ofInt k.bits x ^^^ BitVec.ofInt k.bits y).toNat))
 | .andNot=>K (.int k (k.wrap (BitVec.ofInt k.bits x &&& ~~~ BitVec.ofInt k.bits y).toNat))
 | .eql=>K (.bool (decide (x = y)))
 | .neq=>K (.bool (!decide (x = y)))
 | .lss=>K (.bool (decide (x < y)))
 | .leq=>K (.bool (decide (x ≤ y)))
 | .gtr=>K (.bool (decide (y < x)))
 | .geq=>K (.bool (decide (y ≤ x)))
 | .shl | .shr=>False
def ishift (op:BinOp) (k:IntKind) (x y:Int) (K:AV → Prop):Prop :=
 match op with
 | .shl=>0 ≤ y ∧ K (.int k (k.wrap (x * 2 ^ (min y.toNat k.bits))))
 | .shr=>0 ≤ y ∧ K (.int k (x.fdiv (2 ^ (min y.toNat k.bits))))
 | _=>False
def abin (op:BinOp) (x y:AV) (K:AV → Prop):Prop :=
 match x,y with
 | .int k a,.int k' b =>
  match op with
  | .shl=>ishift .shl k a b K
  | .shr=>ishift .shr k a b K
  | op=>k = k' ∧ ibin op k a b K
 | _,_=>False
/-- Comparison with nil. -/
def aeqz (tag:Nat) (x y:AV) (K:Bool → Prop):Prop :=
 match tag,x,y with
 | 0,.sl true _ _ _ _,.sl z _ _ _ _=>K z
 | 0,.sl z _ _ _ _,.sl true _ _ _ _=>K z
 | 0,.own ..,.sl true _ _ _ _=>K false
 | 1,.nilp,.nilp=>K true
 | 1,.ptr ..,.nilp=>K false
 | 1,.ip ..,.nilp=>K false
 | 2,.nilf,.nilf=>K true
 | 2,.fn ..,.nilf=>K false
 | _,_,_=>False

/-- Comparison of two cells. -/
def eqc (x y:AV) (K:Bool → Prop):Prop :=
 match x,y with
 | .int k a,.int k' b=>k = k' ∧ K (decide (a = b))
 | _,_=>False
theorem eqc_one {x y:AV} {K:Bool → Prop} (H:eqc x y K):∃ q,K q ∧ ∀ K2:Bool → Prop,K2 q → eqc x y K2:=by
 unfold eqc at H ⊢
 split at H
 ·exact ⟨_,H.2,fun K2 h=>⟨H.1,h⟩⟩
 ·exact H.elim
/-- Comparison of two structs, cell by cell: i cells from the one in front of the last m on. -/
def eqcs (n:Nat) (c c':Nat → AV):Nat → (Bool → Prop) → Prop
 | 0,K=>K true
 | m + 1,K=>eqc (c (n - (m + 1))) (c' (n - (m + 1))) fun q=>eqcs n c c' m fun q'=>K (q && q')
theorem eqcs_one {n:Nat} {c c':Nat → AV}:∀ {m:Nat} {K:Bool → Prop},eqcs n c c' m K → ∃ q,K q ∧ ∀ K2:Bool → Prop,K2 q → eqcs n c c' m K2
 | 0,K,H=>⟨true,H,fun K2 h=>h⟩
 | m + 1,K,H=>by
  obtain ⟨q,h1,k1⟩:=eqc_one H
  obtain ⟨q',h2,k2⟩:=eqcs_one h1
  exact ⟨_,h2,fun K2 h=>k1 _ (k2 _ h)⟩
/-- One element of a literal: its cells. -/
def elemC (v:AV):Nat → AV :=
 match v with
 | .agg _ c=>c
 | v=>fun _=>v
def elemOK (sz:Nat) (v:AV):Prop :=
 match v with
 | .agg m _=>m = sz
 | v=>v.one = true ∧ sz = 1
def bslC : (Nat → Nat → AV) → List (Nat × AV) → Nat → Nat → AV
 | c,[]=>c
 | c,(i,v) :: es=>bslC (updRm c i (elemC v)) es
def buildC : (Nat → AV) → List (Nat × Nat × AV) → Nat → AV
 | c,[]=>c
 | c,(off,sz,v) :: ps=>buildC (stM c off (elemC v) sz) ps

/-- A slice of the call's own that is laid into a row: from then on it is only read. -/
def apub (h:List AB) (v:AV) (K:AV → List AB → Prop):Prop :=
 match v with
 | .own d n=>(match h[d]? with
  | some (.row N sz c)=>n ≤ N ∧ K (.sl false false n sz c) (h.set d .dead)
  | _=>False)
 | .ptr d o=>(match h[d]? with
  | some (.box m c)=>(∀ i,i < m → (c i).pure) ∧ K (.ip m c o) (h.set d .dead)
  | _=>False)
 | v=>v.pure ∧ K v h
def apubs (e:AX → AV) (ps:List (Nat × AX)) (h:List AB) (K:List (Nat × AV) → List AB → Prop):Prop :=
 match ps with
 | []=>K [] h
 | (i,x) :: ps=>apub h (e x) (fun v h'=>apubs e ps h' (fun l h''=>K ((i,v) :: l) h''))
theorem apub_one {h:List AB} {v:AV} {K:AV → List AB → Prop} (H:apub h v K):∃ r h',K r h' ∧ ∀ K2:AV → List AB → Prop,K2 r h' → apub h v K2:=by
 cases v
 case own d n =>
  simp only [apub] at H ⊢
  split at H
  ·rename_i hd
   exact ⟨_,_,H.2,fun K2 hk=>⟨H.1,hk⟩⟩
  ·exact H.elim
 case ptr d o =>
  simp only [apub] at H ⊢
  split at H
  ·rename_i hd
   exact ⟨_,_,H.2,fun K2 hk=>⟨H.1,hk⟩⟩
  ·exact H.elim
 all_goals exact ⟨_,_,H.2,fun K2 hk=>⟨H.1,hk⟩⟩
theorem apubs_one {e:AX → AV}:∀ {ps:List (Nat × AX)} {h:List AB} {K:List (Nat × AV) → List AB → Prop},apubs e ps h K → ∃ l h',K l h' ∧ ∀ K2:List (Nat × AV) → List AB → Prop,K2 l h' → apubs e ps h K2
 | [],h,K,H=>⟨[],h,H,fun _ hk=>hk⟩
 | (i,x) :: ps,h,K,H=>by
  obtain ⟨v,h1,H1,k1⟩:=apub_one H
  obtain ⟨l,h2,H2,k2⟩:=apubs_one H1
  exact ⟨(i,v) :: l,h2,H2,fun K2 hk=>k1 _ (k2 _ hk)⟩
/-- A row that is read: what append takes from. -/
def asrc (sz:Nat) (h:List AB) (y:AV) (K:Bool → Nat → (Nat → Nat → AV) → Prop):Prop :=
 match y with
 | .sl _ _ m sz' c'=>(sz' = sz ∨ m = 0) ∧ K false m c'
 | .own d m=>(match h[d]? with
  | some (.row N sz' c')=>sz' = sz ∧ m ≤ N ∧ K false m c'
  | some (.rwg N sz' c')=>sz' = sz ∧ m ≤ N ∧ K true m c'
  | _=>False)
 | .osl d sz0 lo m=>(match h[d]? with
  | some (.row N sz' c')=>sz' = sz ∧ sz0 = sz ∧ lo + m ≤ N ∧ K false m (fun k=>c' (lo + k))
  | _=>False)
 | _=>False
/-- A row; q: its cells may lead to the call's own blocks. -/
def AB.rw (q:Bool) (n sz:Nat) (c:Nat → Nat → AV):AB:=match q with
 | false=>.row n sz c
 | true=>.rwg n sz c
def gq (q:Bool) (g:GM):GM:=match q with
 | false=>g0
 | true=>g
theorem gq_le (q:Bool) (g:GM):(gq q g).le g:=by
 cases q
 ·exact g0_le g
 ·exact GM.le_refl g
theorem gq_or {a:Bool} (b:Bool) (g:GM):(gq a g).le (gq (a || b) g):=by
 cases a
 ·exact g0_le _
 ·exact GM.le_refl g
theorem gq_mono (q:Bool) {g g':GM} (h:g.le g'):(gq q g).le (gq q g'):=by
 cases q
 ·exact GM.le_refl _
 ·exact h
theorem rw_live (q:Bool) (n sz:Nat) (c:Nat → Nat → AV):(AB.rw q n sz c).live:=by cases q <;> trivial
def Src (q:Bool) (sz:Nat) (h:List AB) (y:AV) (m:Nat) (c':Nat → Nat → AV):Prop :=
 (∃ z e sz',q = false ∧ y = .sl z e m sz' c' ∧ (sz' = sz ∨ m = 0)) ∨ (∃ d N,y = .own d m ∧ h[d]? = some (.rw q N sz c') ∧ m ≤ N) ∨
  (∃ d lo N c0,q = false ∧ y = .osl d sz lo m ∧ h[d]? = some (.row N sz c0) ∧ lo + m ≤ N ∧ c' = fun k=>c0 (lo + k))
theorem asrc_e {sz:Nat} {h:List AB} {y:AV} {K:Bool → Nat → (Nat → Nat → AV) → Prop} (H:asrc sz h y K):∃ q m c',Src q sz h y m c' ∧ K q m c':=by
 unfold asrc at H
 split at H
 ·exact ⟨_,_,_,.inl ⟨_,_,_,rfl,rfl,H.1⟩,H.2⟩
 ·split at H
  ·rename_i hd
   obtain ⟨rfl,h1,h2⟩:=H
   exact ⟨false,_,_,.inr (.inl ⟨_,_,rfl,hd,h1⟩),h2⟩
  ·rename_i hd
   obtain ⟨rfl,h1,h2⟩:=H
   exact ⟨true,_,_,.inr (.inl ⟨_,_,rfl,hd,h1⟩),h2⟩
  ·exact H.elim
 ·split at H
  ·rename_i hd
   obtain ⟨rfl,rfl,h1,h2⟩:=H
   exact ⟨false,_,_,.inr (.inr ⟨_,_,_,_,rfl,rfl,hd,h1,rfl⟩),h2⟩
  ·exact H.elim
 ·exact H.elim
theorem asrc_i {q:Bool} {sz:Nat} {h:List AB} {y:AV} {K:Bool → Nat → (Nat → Nat → AV) → Prop} {m:Nat} {c':Nat → Nat → AV} (hs:Src q sz h y m c') (H:K q m c'):asrc sz h y K:=by
 rcases hs with ⟨z,e,sz',rfl,rfl,h1⟩|⟨d,N,rfl,h1,h2⟩|⟨d,lo,N,c0,rfl,rfl,h1,h2,rfl⟩
 ·exact ⟨h1,H⟩
 ·unfold asrc
  simp only
  cases q <;> simp only [AB.rw] at h1 <;> rw [h1] <;> exact ⟨rfl,h2,H⟩
 ·unfold asrc
  simp only
  rw [h1];exact ⟨rfl,trivial,h2,H⟩
def alook (L:List (List Int × AV)) (k:List Int):Option AV:=(L.find? (fun p=>p.1 == k)).map (·.2)
def aput : List (List Int × AV) → List Int → AV → List (List Int × AV)
 | [],k,v=>[(k,v)]
 | p :: L,k,v=>if p.1 = k then (k,v) :: L else p :: aput L k v
def aidx (L:List (List Int × AV)) (k:List Int):Option Nat:=L.findIdx? (fun p=>p.1 == k)
def acell (c:Nat → AV):Nat → (List Int → Prop) → Prop
 | 0,K=>K []
 | m + 1,K=>acell c m fun l=>match c m with
  | .int .i64 a=>K (l ++ [a])
  | _=>False
def akey (kt:Nat) (v:AV) (K:List Int → Prop):Prop :=
 match kt,v with
 | 0,.int .i64 a=>in64 a ∧ K [a]
 | n + 1,.agg m c=>m = n + 1 ∧ acell c m fun l=>(∀ a ∈ l,in64 a) ∧ K l
 | _,_=>False
theorem acell_one {c:Nat → AV}:∀ {m:Nat} {K:List Int → Prop},acell c m K → ∃ l,K l ∧ l.length = m ∧ (∀ i,i < m → c i = .int .i64 (l.getD i 0)) ∧ ∀ K2:List Int → Prop,K2 l → acell c m K2
 | 0,K,H=>⟨[],H,rfl,fun i hi=>by omega,fun K2 h=>h⟩
 | m + 1,K,H=>by
  obtain ⟨l,h1,h2,h3,h4⟩:=acell_one (m:=m) H
  split at h1
  ·rename_i a ha
   refine ⟨_,h1,by simp [h2],fun i hi=>?_,fun K2 hk=>h4 _ (by simp only [ha];exact hk)⟩
   by_cases e:i = m
   ·subst e;rw [ha,← h2];simp
   ·rw [h3 i (by omega)];simp [List.getD,List.getElem?_append_left (show i < l.length by omega)]
  ·exact h1.elim
theorem akey_one {kt:Nat} {v:AV} {K:List Int → Prop} (H:akey kt v K):∃ l,K l ∧ KeyOK kt l ∧ (∀ (M:Nat → Prop) (w:World) (g:GM) (u:Value),rep M w v g u → u = keyV kt l) ∧ ∀ K2:List Int → Prop,K2 l → akey kt v K2:=by
 unfold akey at H ⊢
 split at H
 ·exact ⟨_,H.2,⟨rfl,fun a ha=>by rw [List.mem_singleton.1 ha];exact H.1⟩,fun M w g u hr=>hr,fun K2 h=>⟨H.1,h⟩⟩
 ·rename_i n m c
  obtain ⟨hmn,H⟩:=H
  obtain ⟨l,⟨h0,h1⟩,h2,h3,h4⟩:=acell_one H
  refine ⟨l,h1,⟨by omega,h0⟩,fun M w g u hr=>?_,fun K2 hk=>⟨hmn,h4 _ ⟨h0,hk⟩⟩⟩
  obtain ⟨cs,rfl,hm,hc⟩:=hr
  unfold keyV
  congr 1
  apply Array.ext
  ·simp [hm,h2]
  ·intro i hi1 hi2
   obtain ⟨u,e1,_,e3⟩:=hc i (by omega)
   rw [h3 i (by omega)] at e3
   have e3':u = .int .i64 (l.getD i 0):=e3
   rw [Array.getElem?_eq_getElem hi1] at e1
   injection e1 with e1
   rw [e1,e3']
   simp [List.getD,List.getElem?_eq_getElem (show i < l.length by omega)]
 ·exact H.elim
def lkres (ok:Bool) (z:AV) (o:Option AV):AV:=match ok,o with
 | true,some v=>.tup 2 (ofL [v,.bool true])
 | true,none=>.tup 2 (ofL [z,.bool false])
 | false,some v=>v
 | false,none=>z
def keyA (kt:Nat) (l:List Int):AV:=match kt with
 | 0=>.int .i64 (l.getD 0 0)
 | n + 1=>.agg (n + 1) (ofL (l.map (AV.int .i64)))
/-- The next entry of a map, whichever it is. -/
def anext (it:AV) (h:List AB) (K:AV → List AB → Prop):Prop :=
 match it with
 | .ptr d 0=>(match h[d]? with
  | some (.mit (.mpv d2) n seen)=>(match h[d2]? with
   | some (.mp kt L)=>L.length = n ∧ (seen.length = n → K (.tup 1 (ofL [.bool false])) h) ∧ ∀ i,i < n → i ∉ seen → K (.tup 3 (ofL [.bool true,keyA kt (L.getD i default).1,(L.getD i default).2])) (h.set d (.mit (.mpv d2) n (seen ++ [i])))
   | _=>False)
  | _=>False)
 | _=>False
theorem anext_mono {it:AV} {h:List AB} {K K':AV → List AB → Prop} (hk:∀ r h',K r h' → K' r h') (H:anext it h K):anext it h K':=by
 unfold anext at H ⊢
 split at H
 ·split at H
  ·split at H
   ·exact ⟨H.1,fun h=>hk _ _ (H.2.1 h),fun i hi hn=>hk _ _ (H.2.2 i hi hn)⟩
   ·exact H.elim
  ·exact H.elim
 ·exact H.elim
/-- Elements written over elements. -/
def cpc (lo k:Nat) (c c':Nat → Nat → AV):Nat → Nat → AV:=fun i o=>if lo ≤ i ∧ i < lo + k then c' (i - lo) o else c i o
/-- Where a copy goes. -/
def adst (sz:Nat) (x:AV) (K:Nat → Nat → Nat → Prop):Prop :=
 match x with
 | .own d n=>K d 0 n
 | .osl d sz' lo n=>sz' = sz ∧ K d lo n
 | _=>False
def xop (X:XOp) (e:AX → AV) (h:List AB) (K:AV → List AB → Prop):Prop :=
 match X with
 | .mkm kt=>K (.mpv h.length) (h ++ [.mp kt []])
 | .ins kt m k v=>match e m with
  | .mpv d=>(match h[d]? with
   | some (.mp kt' L)=>kt' = kt ∧ (e v).pure ∧ akey kt (e k) fun l=>K und (h.set d (.mp kt (aput L l (e v))))
   | _=>False)
  | _=>False
 | .lkp kt ok z m k=>match e m with
  | .mpv d=>(match h[d]? with
   | some (.mp kt' L)=>kt' = kt ∧ akey kt (e k) fun l=>K (lkres ok z (alook L l)) h
   | _=>False)
  | _=>False
 | .mlen m=>match e m with
  | .mpv d=>(match h[d]? with
   | some (.mp _ L)=>K (.int .i64 L.length) h
   | _=>False)
  | _=>False
 | .rng m=>match e m with
  | .mpv d=>(match h[d]? with
   | some (.mp _ L)=>K (.ptr h.length 0) (h ++ [.mit (.mpv d) L.length []])
   | _=>False)
  | _=>False
 | .ment kt z m k=>match e m with
  | .mpv d=>(match h[d]? with
   | some (.mp kt' L)=>kt' = kt ∧ z.pure ∧ akey kt (e k) fun l=>match aidx L l with
    | some i=>K (.tup 2 (ofL [(L.getD i default).2,.int .i64 i])) h
    | none=>K (.tup 2 (ofL [z,.int .i64 L.length])) (h.set d (.mp kt (L ++ [(l,z)])))
   | _=>False)
  | _=>False
 | .est m s v=>match e m,e s with
  | .mpv d,.int .i64 i=>(match h[d]? with
   | some (.mp kt L)=>0 ≤ i ∧ i < L.length ∧ (e v).pure ∧ K und (h.set d (.mp kt (L.set i.toNat ((L.getD i.toNat default).1,e v))))
   | _=>False)
  | _,_=>False
 | .boxr n sz z=>K (.rp h.length sz 0 0) (h ++ [.row n sz (fun _ _=>z)])
 | .mmv f xs=>(∀ x ∈ xs,(e x).pure) ∧ K (.mv f xs.length (ofL (xs.map e))) h
 | .cpy sz x y=>0 < sz ∧ adst sz (e x) fun d lo n=>asrc sz h (e y) fun q m c'=>match h[d]? with
  | some (.row N sz2 c)=>q = false ∧ sz2 = sz ∧ lo + n ≤ N ∧ K (.int .i64 (min m n:Nat)) (h.set d (.row N sz (cpc lo (min m n) c c')))
  | _=>False
 | .iaa n sz x i=>match e i,e x with
  | .int _ j,.rp d sz' k o=>sz' = sz ∧ k = 0 ∧ o = 0 ∧ 0 ≤ j ∧ j < n ∧ K (.rp d sz j.toNat 0) h
  | .int _ j,.ptr d o=>0 ≤ j ∧ j < n ∧ K (.ptr d (o + j.toNat * sz)) h
  | .int _ j,.ip m c o=>0 ≤ j ∧ j < n ∧ K (.ip m c (o + j.toNat * sz)) h
  | _,_=>False
 | .idx n sz m x i=>match e i,e x with
  | .int _ j,.agg N c=>0 ≤ j ∧ j < n ∧ n * sz ≤ N ∧ 0 < sz ∧ (match m with
   | none=>K (c (j.toNat * sz)) h
   | some m'=>m' = sz ∧ K (.agg m' (tab m' fun i=>c (j.toNat * sz + i))) h)
  | _,_=>False
 | .ent x=>match e x with
  | .ptr d 0=>(match h[d]? with
   | some (.mit (.mpv d2) n seen)=>(match h[d2]?,seen.getLast? with
    | some (.mp kt L),some i=>L.length = n ∧ K (.tup 2 (ofL [keyA kt (L.getD i default).1,(L.getD i default).2])) h
    | _,_=>False)
   | _=>False)
  | _=>False
def XOp.xs : XOp → List AX
 | .mkm _ | .boxr ..=>[]
 | .mmv _ xs=>xs
 | .cpy _ x y=>[x,y]
 | .ins _ m k v=>[m,k,v]
 | .lkp _ _ _ m k=>[m,k]
 | .mlen m | .rng m | .ent m=>[m]
 | .ment _ _ m k=>[m,k]
 | .est m s v=>[m,s,v]
 | .iaa _ _ x i | .idx _ _ _ x i=>[x,i]
def XOp.chg : XOp → Bool
 | .lkp .. | .mlen _ | .iaa .. | .idx .. | .ent _ | .mmv ..=>false
 | _=>true
def XOp.rds : XOp → Bool
 | .iaa .. | .idx .. | .mmv ..=>false
 | _=>true
theorem xop_one {X:XOp} {e:AX → AV} {h:List AB} {K:AV → List AB → Prop} (H:xop X e h K):∃ r h',K r h' ∧ (X.chg = false → h' = h) ∧ (∀ K2:AV → List AB → Prop,K2 r h' → xop X e h K2) ∧ (X.rds = false → ∀ h2 (K2:AV → List AB → Prop),K2 r h2 → xop X e h2 K2):=by
 cases X <;> simp only [xop,XOp.chg,XOp.rds,Bool.true_eq_false,false_implies,true_implies,and_true,true_and] at H ⊢
 case mkm kt=>exact ⟨_,_,H,fun K2 h=>h⟩
 case boxr=>exact ⟨_,_,H,fun K2 h=>h⟩
 case mmv=>exact ⟨_,_,H.2,rfl,fun K2 hk=>⟨H.1,hk⟩,fun h2 K2 hk=>⟨H.1,hk⟩⟩
 case cpy sz x y =>
  obtain ⟨h0,H⟩:=H
  have key:∀ d lo n,(asrc sz h (e y) fun q m c'=>match h[d]? with
    | some (AB.row N sz2 c)=>q = false ∧ sz2 = sz ∧ lo + n ≤ N ∧ K (.int .i64 (min m n:Nat)) (h.set d (.row N sz (cpc lo (min m n) c c')))
    | _=>False) → ∃ r h',K r h' ∧ ∀ K2:AV → List AB → Prop,K2 r h' → asrc sz h (e y) fun q m c'=>match h[d]? with
    | some (AB.row N sz2 c)=>q = false ∧ sz2 = sz ∧ lo + n ≤ N ∧ K2 (.int .i64 (min m n:Nat)) (h.set d (.row N sz (cpc lo (min m n) c c')))
    | _=>False:=fun d lo n H=>by
   obtain ⟨q,m,c',hs,H⟩:=asrc_e H
   split at H
   ·obtain ⟨a,a',b,H⟩:=H
    exact ⟨_,_,H,fun K2 hk=>asrc_i hs ⟨a,a',b,hk⟩⟩
   ·exact H.elim
  unfold adst at H ⊢
  split at H
  ·obtain ⟨r,h',k1,k2⟩:=key _ _ _ H
   exact ⟨r,h',k1,fun K2 hk=>⟨h0,k2 K2 hk⟩⟩
  ·obtain ⟨r,h',k1,k2⟩:=key _ _ _ H.2
   exact ⟨r,h',k1,fun K2 hk=>⟨h0,H.1,k2 K2 hk⟩⟩
  ·exact H.elim
 case ins kt m k v =>
  split at H
  ·rename_i d hm
   split at H
   ·rename_i kt' L hd
    obtain ⟨h1,h2,H⟩:=H
    obtain ⟨l,k1,_,_,k2⟩:=akey_one H
    exact ⟨_,_,k1,fun K2 hk=>by exact ⟨h1,h2,k2 _ hk⟩⟩
   ·exact H.elim
  ·exact H.elim
 case lkp kt ok z m k =>
  split at H
  ·rename_i d hm
   split at H
   ·rename_i kt' L hd
    obtain ⟨h1,H⟩:=H
    obtain ⟨l,k1,_,_,k2⟩:=akey_one H
    exact ⟨_,_,k1,rfl,fun K2 hk=>by exact ⟨h1,k2 _ hk⟩⟩
   ·exact H.elim
  ·exact H.elim
 case mlen m =>
  split at H
  ·rename_i d hm
   split at H
   ·rename_i kt' L hd
    exact ⟨_,_,H,rfl,fun K2 hk=>by exact hk⟩
   ·exact H.elim
  ·exact H.elim
 case ent x =>
  split at H
  ·split at H
   ·split at H
    ·obtain ⟨h1,H⟩:=H
     exact ⟨_,_,H,rfl,fun K2 hk=>⟨h1,hk⟩⟩
    ·exact H.elim
   ·exact H.elim
  ·exact H.elim
 case rng m =>
  split at H
  ·rename_i d hm
   split at H
   ·rename_i kt' L hd
    exact ⟨_,_,H,fun K2 hk=>by exact hk⟩
   ·exact H.elim
  ·exact H.elim
 case ment kt z m k =>
  split at H
  ·rename_i d hm
   split at H
   ·rename_i kt' L hd
    obtain ⟨h1,h2,H⟩:=H
    obtain ⟨l,k1,_,_,k2⟩:=akey_one H
    cases hi:aidx L l with
    | some i =>
     simp only [hi] at k1
     exact ⟨_,_,k1,fun K2 hk=>by exact ⟨h1,h2,k2 _ (by simp only [hi];exact hk)⟩⟩
    | none =>
     simp only [hi] at k1
     exact ⟨_,_,k1,fun K2 hk=>by exact ⟨h1,h2,k2 _ (by simp only [hi];exact hk)⟩⟩
   ·exact H.elim
  ·exact H.elim
 case est m s v =>
  split at H
  ·rename_i d i hm hs
   split at H
   ·rename_i kt' L hd
    obtain ⟨h1,h2,h3,H⟩:=H
    exact ⟨_,_,H,fun K2 hk=>by exact ⟨h1,h2,h3,hk⟩⟩
   ·exact H.elim
  ·exact H.elim
 case iaa n sz x i =>
  split at H
  ·rename_i k j d sz' kk o hi hx
   obtain ⟨a,b,c,d',e',H⟩:=H
   exact ⟨_,_,H,rfl,fun K2 hk=>by exact ⟨a,b,c,d',e',hk⟩,fun h2 K2 hk=>by exact ⟨a,b,c,d',e',hk⟩⟩
  ·rename_i k j d o hi hx
   obtain ⟨a,b,H⟩:=H
   exact ⟨_,_,H,rfl,fun K2 hk=>by exact ⟨a,b,hk⟩,fun h2 K2 hk=>by exact ⟨a,b,hk⟩⟩
  ·rename_i k j m c o hi hx
   obtain ⟨a,b,H⟩:=H
   exact ⟨_,_,H,rfl,fun K2 hk=>by exact ⟨a,b,hk⟩,fun h2 K2 hk=>by exact ⟨a,b,hk⟩⟩
  ·exact H.elim
 case idx n sz m x i =>
  split at H
  ·rename_i k j N c hi hx
   obtain ⟨a,b,c',d',H⟩:=H
   cases m with
   | none=>exact ⟨_,_,H,rfl,fun K2 hk=>by exact ⟨a,b,c',d',hk⟩,fun h2 K2 hk=>by exact ⟨a,b,c',d',hk⟩⟩
   | some m'=>exact ⟨_,_,H.2,rfl,fun K2 hk=>by exact ⟨a,b,c',d',H.1,hk⟩,fun h2 K2 hk=>by exact ⟨a,b,c',d',H.1,hk⟩⟩
  ·exact H.elim
theorem xop_env {X:XOp} {e e':AX → AV} {h:List AB} {K:AV → List AB → Prop} (hx:∀ x ∈ X.xs,e x = e' x) (H:xop X e h K):xop X e' h K:=by
 cases X <;> simp only [XOp.xs,List.mem_cons,List.not_mem_nil,or_false,forall_eq,forall_eq_or_imp] at hx <;> simp only [xop] at H ⊢
 case mkm=>exact H
 case boxr=>exact H
 case mmv f xs =>
  have hm:xs.map e = xs.map e':=List.map_congr_left hx
  rw [← hm];exact ⟨fun x hx'=>by rw [← hx x hx'];exact H.1 x hx',H.2⟩
 case cpy=>obtain ⟨h1,h2⟩:=hx;rw [← h1,← h2];exact H
 case ins=>obtain ⟨h1,h2,h3⟩:=hx;rw [← h1,← h2,← h3];exact H
 case lkp=>obtain ⟨h1,h2⟩:=hx;rw [← h1,← h2];exact H
 case mlen=>rw [← hx];exact H
 case rng=>rw [← hx];exact H
 case ent=>rw [← hx];exact H
 case ment=>obtain ⟨h1,h2⟩:=hx;rw [← h1,← h2];exact H
 case est=>obtain ⟨h1,h2,h3⟩:=hx;rw [← h1,← h2,← h3];exact H
 case iaa=>obtain ⟨h1,h2⟩:=hx;rw [← h1,← h2];exact H
 case idx=>obtain ⟨h1,h2⟩:=hx;rw [← h1,← h2];exact H
/-- One operation but a call: K is what must hold of its value and of the call's own blocks. -/
def aop (o:AOp) (e:AX → AV) (h:List AB) (K:AV → List AB → Prop):Prop :=
 match o with
 | .mv x=>K (e x) h
 | .pick c a b=>match e c with
  | .bool q=>acond q (K (e a) h) (K (e b) h)
  | _=>False
 | .nilck x=>match e x with
  | .ptr d o=>K (.ptr d o) h
  | .ip m c o=>K (.ip m c o) h
  | .rp d sz k o=>K (.rp d sz k o) h
  | .fn f m c=>K (.fn f m c) h
  | _=>False
 | .box x=>match e x with
  | .agg m c=>K (.ptr h.length 0) (h ++ [.box m c])
  | .bot=>False
  | .tup ..=>False
  | v=>K (.ptr h.length 0) (h ++ [.box 1 (ofL [v])])
 | .build zs ps=>(∀ p ∈ ps,elemOK p.2.1 (e p.2.2)) ∧ (∀ p ∈ ps,p.1 + p.2.1 ≤ zs.length) ∧ K (.agg zs.length (tab zs.length (buildC (ofL zs) (ps.map fun p=>(p.1,p.2.1,e p.2.2))))) h
 | .bsl n sz zs ps=>(∀ p ∈ ps,elemOK sz (e p.2) ∧ (e p.2).pure) ∧ (∀ p ∈ ps,p.1 < n) ∧ K (.sl false true n sz (bslC (fun _=>ofL zs) (ps.map fun p=>(p.1,e p.2)))) h
 | .bslp n sz zs ps=>apubs e ps h (fun es h'=>(∀ p ∈ es,elemOK sz p.2 ∧ p.1 < n) ∧ K (.sl false true n sz (bslC (fun _=>ofL zs) es)) h') ∨
  ((∀ p ∈ ps,elemOK sz (e p.2) ∧ p.1 < n) ∧ K (.own h.length n) (h ++ [.rwg n sz (bslC (fun _=>ofL zs) (ps.map fun p=>(p.1,e p.2)))]))
 | .ld none x=>match e x with
  | .ptr d o=>(match h[d]? with
   | some (.box m c)=>o < m ∧ K (c o) h
   | _=>False)
  | .rp d sz k o=>(match h[d]? with
   | some (.row n sz' c)=>k < n ∧ o < sz ∧ sz' = sz ∧ K (c k o) h
   | some (.rwg n sz' c)=>k < n ∧ o < sz ∧ sz' = sz ∧ K (c k o) h
   | _=>False)
  | .ip m c o=>o < m ∧ K (c o) h
  | _=>False
 | .ld (some m') x=>match e x with
  | .ptr d o=>(match h[d]? with
   | some (.box m c)=>o + m' ≤ m ∧ K (.agg m' (tab m' fun i=>c (o + i))) h
   | _=>False)
  | .rp d sz k o=>(match h[d]? with
   | some (.row n sz' c)=>(match sz == 1 && o == 0 with
    | true=>k + m' ≤ n ∧ sz' = sz ∧ K (.agg m' (tab m' fun i=>c (k + i) 0)) h
    | false=>k < n ∧ o + m' ≤ sz ∧ sz' = sz ∧ K (.agg m' (tab m' fun i=>c k (o + i))) h)
   | some (.rwg n sz' c)=>k < n ∧ o + m' ≤ sz ∧ sz' = sz ∧ K (.agg m' (tab m' fun i=>c k (o + i))) h
   | _=>False)
  | .ip m c o=>o + m' ≤ m ∧ K (.agg m' (tab m' fun i=>c (o + i))) h
  | _=>False
 | .st m x y=>match e x with
  | .ptr d o=>(match h[d]? with
   | some (.box m' c)=>o + m ≤ m' ∧ elemOK m (e y) ∧ K und (h.set d (.box m' (tab m' (stM c o (elemC (e y)) m))))
   | _=>False)
  | .rp d sz k o=>(match h[d]? with
   | some (.row n sz' c)=>k < n ∧ sz' = sz ∧ elemOK m (e y) ∧ (e y).pure ∧ ((m = 1 ∧ o < sz ∧ K und (h.set d (.row n sz (updR c k o (elemC (e y) 0))))) ∨ (m = sz ∧ o = 0 ∧ K und (h.set d (.row n sz (updRm c k (elemC (e y)))))))
   | some (.rwg n sz' c)=>k < n ∧ sz' = sz ∧ elemOK m (e y) ∧ ((m = 1 ∧ o < sz ∧ K und (h.set d (.rwg n sz (updR c k o (elemC (e y) 0))))) ∨ (m = sz ∧ o = 0 ∧ K und (h.set d (.rwg n sz (updRm c k (elemC (e y)))))))
   | _=>False)
  | _=>False
 | .fa x off=>match e x with
  | .ptr d o=>K (.ptr d (o + off)) h
  | .rp d sz k o=>K (.rp d sz k (o + off)) h
  | .ip m c o=>K (.ip m c (o + off)) h
  | _=>False
 | .fld x off m=>match e x with
  | .agg n c=>(match m with
   | none=>off < n ∧ K (c off) h
   | some m'=>off + m' ≤ n ∧ K (.agg m' (tab m' fun i=>c (off + i))) h)
  | _=>False
 | .ia sz x i=>match e i,e x with
  | .int _ j,.sl _ _ n sz' c=>sz' = sz ∧ 0 < sz ∧ 0 ≤ j ∧ j < n ∧ K (.ip sz (c j.toNat) 0) h
  | .int _ j,.own d n=>0 ≤ j ∧ j < n ∧ K (.rp d sz j.toNat 0) h
  | .int _ j,.osl d sz' lo n=>sz' = sz ∧ 0 ≤ j ∧ j < n ∧ K (.rp d sz (lo + j.toNat) 0) h
  | _,_=>False
 | .slc sz x lo hi=>match e x with
  | .sl z ee n sz' c=>sz' = sz ∧ (match lo.map e,hi.map e with
   | none,none=>K (.sl z false n sz c) h
   | none,some (.int _ b)=>0 ≤ b ∧ b ≤ n ∧ K (.sl z false b.toNat sz c) h
   | some (.int _ a),none=>0 ≤ a ∧ a ≤ n ∧ K (.sl z ee (n - a.toNat) sz (fun k=>c (k + a.toNat))) h
   | some (.int _ a),some (.int _ b)=>0 ≤ a ∧ a ≤ b ∧ b ≤ n ∧ K (.sl z false (b.toNat - a.toNat) sz (fun k=>c (k + a.toNat))) h
   | _,_=>False)
  | .own d n=>(match lo.map e,hi.map e with
   | none,none=>K (.own d n) h
   | none,some (.int _ b)=>0 ≤ b ∧ b ≤ n ∧ K (.own d b.toNat) h
   | some (.int _ a),none=>0 ≤ a ∧ a ≤ n ∧ K (.osl d sz a.toNat (n - a.toNat)) h
   | _,_=>False)
  | .osl d sz' l0 n=>sz' = sz ∧ (match lo.map e,hi.map e with
   | some (.int _ a),none=>0 ≤ a ∧ a ≤ n ∧ K (.osl d sz (l0 + a.toNat) (n - a.toNat)) h
   | _,_=>False)
  | _=>False
 | .bin op x y=>abin op (e x) (e y) (fun v=>K v h)
 | .binb neg x y=>match e x,e y with
  | .bool a,.bool b=>K (.bool (if neg then !(a == b) else (a == b))) h
  | _,_=>False
 | .eqz tag neg x y=>aeqz tag (e x) (e y) (fun b=>K (.bool (if neg then !b else b)) h)
 | .eqa m neg x y=>match e x,e y with
  | .agg m1 c,.agg m2 c'=>m1 = m ∧ m2 = m ∧ eqcs m c c' m (fun b=>K (.bool (if neg then !b else b)) h)
  | _,_=>False
 | .un op x=>match op,e x with
  | .not,.bool b=>K (.bool !b) h
  | .neg,.int k n=>K (.int k (k.wrap (0 - n))) h
  | _,_=>False
 | .conv k x=>match e x with
  | .int _ n=>K (.int k (k.wrap n)) h
  | _=>False
 | .mkf f xs=>K (.fn f xs.length (ofL (xs.map e))) h
 | .msl sz bytes zs x y=>match e x,e y with
  | .int .i64 n,.int .i64 n'=>zs.length = sz ∧ 0 ≤ n ∧ n ≤ n' ∧ n' ≤ 9223372036854775807 ∧ n' * bytes ≤ 140737488355328 ∧ K (.own h.length n.toNat) (h ++ [.row n.toNat sz fun _=>ofL zs])
  | _,_=>False
 | .len x=>match e x with
  | .sl _ _ n _ _=>K (.int .i64 n) h
  | .own _ n=>K (.int .i64 n) h
  | .osl _ _ _ n=>K (.int .i64 n) h
  | _=>False
 | .clr sz x=>match e x with
  | .osl d sz' lo _=>(match h[d]? with
   | some (.row N sz2 c)=>sz' = sz ∧ sz2 = sz ∧ lo ≤ N ∧ K und (h.set d (.row lo sz c))
   | _=>False)
  | _=>False
 | .app sz bytes x y=>0 < sz ∧ asrc sz h (e y) (fun q m c'=>match e x with
   | .sl z ee n sz2 c=>ee = true ∧ (sz2 = sz ∨ n = 0) ∧ (m = 0 → K (.sl z ee n sz2 c) h) ∧ (0 < m → n + m ≤ maxLen ∧ (n + m) * bytes ≤ 140737488355328 ∧ K (.own h.length (n + m)) (h ++ [.rw q (n + m) sz (appc n c c')]))
   | .own d n=>(match h[d]? with
    | some (.row n' sz2 c)=>n' = n ∧ sz2 = sz ∧ n + m ≤ maxLen ∧ (n + m) * bytes ≤ 140737488355328 ∧ K (.own h.length (n + m)) (h.set d .dead ++ [.rw q (n + m) sz (appc n c c')])
    | some (.rwg n' sz2 c)=>n' = n ∧ sz2 = sz ∧ n + m ≤ maxLen ∧ (n + m) * bytes ≤ 140737488355328 ∧ K (.own h.length (n + m)) (h.set d .dead ++ [.rwg (n + m) sz (appc n c c')])
    | _=>False)
   | _=>False)
 | .mx x y=>match e x,e y with
  | .int k a,.int _ b=>K (.int k (max a b)) h
  | _,_=>False
 | .mn x y=>match e x,e y with
  | .int k a,.int _ b=>K (.int k (min a b)) h
  | _,_=>False
 | .ext x i=>match e x with
  | .tup m c=>i < m ∧ K (c i) h
  | _=>False
 | .call ..=>False
 | .calv ..=>False
 | .xt X=>xop X e h K
 | .nxt _=>False
 | .no=>False

/-- What an operation gives is one value and one state of the call's own blocks. -/
theorem ibin_one {op:BinOp} {k:IntKind} {x y:Int} {K:AV → Prop} (H:ibin op k x y K):∃ r,ibin op k x y (fun a=>a = r) ∧ K r:=by
 cases op <;> simp only [ibin] at H ⊢
 case quo=>exact ⟨_,⟨H.1,rfl⟩,H.2⟩
 case rem=>exact ⟨_,⟨H.1,rfl⟩,H.2⟩
 all_goals first|exact ⟨_,rfl,H⟩|exact H.elim
theorem ishift_one {op:BinOp} {k:IntKind} {x y:Int} {K:AV → Prop} (H:ishift op k x y K):∃ r,ishift op k x y (fun a=>a = r) ∧ K r:=by
 cases op <;> simp only [ishift] at H ⊢
 all_goals first|exact ⟨_,⟨H.1,rfl⟩,H.2⟩|exact H.elim
theorem abin_one {op:BinOp} {x y:AV} {K:AV → Prop} (H:abin op x y K):∃ r,abin op x y (fun a=>a = r) ∧ K r:=by
 cases x <;> cases y <;> simp only [abin] at H ⊢
 case int.int k a k' b =>
  cases op <;> simp only at H ⊢
  case shl=>exact ishift_one H
  case shr=>exact ishift_one H
  all_goals
   obtain ⟨h1,H⟩:=H
   obtain ⟨r,h2,h3⟩:=ibin_one H
   exact ⟨r,⟨h1,h2⟩,h3⟩
theorem aeqz_one {tag:Nat} {x y:AV} {K:Bool → Prop} (H:aeqz tag x y K):∃ r,aeqz tag x y (fun a=>a = r) ∧ K r:=by
 unfold aeqz at H ⊢
 split at H <;> first|exact ⟨_,rfl,H⟩|exact H.elim
theorem aop_one (o:AOp) (e:AX → AV) (h:List AB) (K:AV → List AB → Prop) (H:aop o e h K):∃ r h',aop o e h (fun a b=>a = r ∧ b = h') ∧ K r h':=by
 cases o <;> simp only [aop] at H ⊢
 case mv=>exact ⟨_,_,⟨rfl,rfl⟩,H⟩
 case pick c a b =>
  generalize e c = v at H ⊢
  cases v <;> simp only at H ⊢
  case bool q =>
   cases q
   ·exact ⟨_,_,⟨rfl,rfl⟩,H⟩
   ·exact ⟨_,_,⟨rfl,rfl⟩,H⟩
 case nilck x =>
  generalize e x = v at H ⊢
  cases v <;> simp only at H ⊢ <;> first|exact ⟨_,_,⟨rfl,rfl⟩,H⟩|exact H.elim
 case box x =>
  generalize e x = v at H ⊢
  cases v <;> simp only at H ⊢ <;> first|exact ⟨_,_,⟨rfl,rfl⟩,H⟩|exact H.elim
 case xt X =>
  obtain ⟨r,h',h1,_,h2,_⟩:=xop_one H
  exact ⟨r,h',h2 _ ⟨rfl,rfl⟩,h1⟩
 case build zs ps=>exact ⟨_,_,⟨H.1,H.2.1,rfl,rfl⟩,H.2.2⟩
 case bsl n sz zs ps=>exact ⟨_,_,⟨H.1,H.2.1,rfl,rfl⟩,H.2.2⟩
 case bslp n sz zs ps =>
  rcases H with H|H
  ·obtain ⟨l,h',H1,k1⟩:=apubs_one H
   exact ⟨_,_,.inl (k1 _ ⟨H1.1,rfl,rfl⟩),H1.2⟩
  ·exact ⟨_,_,.inr ⟨H.1,rfl,rfl⟩,H.2⟩
 case ld m x =>
  cases m <;> simp only at H ⊢ <;> generalize e x = v at H ⊢ <;> cases v <;> simp only at H ⊢
  case none.ip m c o=>exact ⟨_,_,⟨H.1,rfl,rfl⟩,H.2⟩
  case some.ip m c o=>exact ⟨_,_,⟨H.1,rfl,rfl⟩,H.2⟩
  case none.ptr d o=>split at H <;> first|exact ⟨_,_,⟨H.1,rfl,rfl⟩,H.2⟩|exact H.elim
  case some.ptr d o=>split at H <;> first|exact ⟨_,_,⟨H.1,rfl,rfl⟩,H.2⟩|exact H.elim
  case none.rp d o=>split at H <;> first|exact ⟨_,_,⟨H.1,H.2.1,H.2.2.1,rfl,rfl⟩,H.2.2.2⟩|exact H.elim
  case some.rp d sz k o =>
   split at H
   ·cases hb:(sz == 1 && o == 0) <;> simp only [hb] at H ⊢
    ·exact ⟨_,_,⟨H.1,H.2.1,H.2.2.1,rfl,rfl⟩,H.2.2.2⟩
    ·exact ⟨_,_,⟨H.1,H.2.1,rfl,rfl⟩,H.2.2⟩
   ·exact ⟨_,_,⟨H.1,H.2.1,H.2.2.1,rfl,rfl⟩,H.2.2.2⟩
   ·exact H.elim
 case st m x y =>
  generalize e x = v at H ⊢
  cases v <;> simp only at H ⊢
  case ptr d o=>split at H <;> first|exact ⟨_,_,⟨H.1,H.2.1,rfl,rfl⟩,H.2.2⟩|exact H.elim
  case rp d sz k o =>
   split at H
   ·obtain ⟨h1,h2,h3,h4,h5⟩:=H
    rcases h5 with ⟨a,b,h5⟩|⟨a,b,h5⟩
    ·exact ⟨_,_,⟨h1,h2,h3,h4,.inl ⟨a,b,rfl,rfl⟩⟩,h5⟩
    ·exact ⟨_,_,⟨h1,h2,h3,h4,.inr ⟨a,b,rfl,rfl⟩⟩,h5⟩
   ·obtain ⟨h1,h2,h3,h5⟩:=H
    rcases h5 with ⟨a,b,h5⟩|⟨a,b,h5⟩
    ·exact ⟨_,_,⟨h1,h2,h3,.inl ⟨a,b,rfl,rfl⟩⟩,h5⟩
    ·exact ⟨_,_,⟨h1,h2,h3,.inr ⟨a,b,rfl,rfl⟩⟩,h5⟩
   ·exact H.elim
 case fa x off =>
  generalize e x = v at H ⊢
  cases v <;> simp only at H ⊢ <;> first|exact ⟨_,_,⟨rfl,rfl⟩,H⟩|exact H.elim
 case fld x off m =>
  generalize e x = v at H ⊢
  cases v <;> simp only at H ⊢
  case agg n c=>cases m <;> simp only at H ⊢ <;> exact ⟨_,_,⟨H.1,rfl,rfl⟩,H.2⟩
 case ia sz x i =>
  generalize e x = v at H ⊢
  generalize e i = j at H ⊢
  cases j <;> cases v <;> simp only at H ⊢
  ·exact ⟨_,_,⟨H.1,H.2.1,H.2.2.1,H.2.2.2.1,rfl,rfl⟩,H.2.2.2.2⟩
  ·exact ⟨_,_,⟨H.1,H.2.1,rfl,rfl⟩,H.2.2⟩
  ·exact ⟨_,_,⟨H.1,H.2.1,H.2.2.1,rfl,rfl⟩,H.2.2.2⟩
 case slc sz x lo hi =>
  generalize e x = v at H ⊢
  cases v <;> simp only at H ⊢
  case sl z ee n sz' c =>
   obtain ⟨h1,H⟩:=H
   generalize lo.map e = a at H ⊢
   generalize hi.map e = b at H ⊢
   split at H
   ·exact ⟨_,_,⟨h1,rfl,rfl⟩,H⟩
   ·exact ⟨_,_,⟨h1,H.1,H.2.1,rfl,rfl⟩,H.2.2⟩
   ·exact ⟨_,_,⟨h1,H.1,H.2.1,rfl,rfl⟩,H.2.2⟩
   ·exact ⟨_,_,⟨h1,H.1,H.2.1,H.2.2.1,rfl,rfl⟩,H.2.2.2⟩
   ·exact H.elim
  case own d n =>
   generalize lo.map e = a at H ⊢
   generalize hi.map e = b at H ⊢
   split at H
   ·exact ⟨_,_,⟨rfl,rfl⟩,H⟩
   ·exact ⟨_,_,⟨H.1,H.2.1,rfl,rfl⟩,H.2.2⟩
   ·exact ⟨_,_,⟨H.1,H.2.1,rfl,rfl⟩,H.2.2⟩
   ·exact H.elim
  case osl d sz' l0 n =>
   obtain ⟨h1,H⟩:=H
   generalize lo.map e = a at H ⊢
   generalize hi.map e = b at H ⊢
   split at H
   ·exact ⟨_,_,⟨h1,H.1,H.2.1,rfl,rfl⟩,H.2.2⟩
   ·exact H.elim
 case bin op x y =>
  obtain ⟨r,h1,h2⟩:=abin_one H
  exact ⟨r,h,by simpa using h1,h2⟩
 case binb neg x y =>
  generalize e x = v at H ⊢
  generalize e y = u at H ⊢
  cases v <;> cases u <;> simp only at H ⊢ <;> exact ⟨_,_,⟨rfl,rfl⟩,H⟩
 case eqz tag neg x y =>
  obtain ⟨r,h1,h2⟩:=aeqz_one H
  refine ⟨_,h,?_,h2⟩
  have:∀ {K K':Bool → Prop} (x y:AV),(∀ b,K b → K' b) → aeqz tag x y K → aeqz tag x y K':=fun x y hk hh=>by
   unfold aeqz at hh ⊢
   split at hh <;> first|exact hk _ hh|exact hh.elim
  exact this _ _ (fun b hb=>by rw [hb];exact ⟨rfl,rfl⟩) h1
 case eqa m neg x y =>
  generalize e x = v at H ⊢
  generalize e y = u at H ⊢
  cases v <;> cases u <;> simp only at H ⊢
  obtain ⟨q,h1,k1⟩:=eqcs_one H.2.2
  exact ⟨_,_,⟨H.1,H.2.1,k1 _ ⟨rfl,rfl⟩⟩,h1⟩
 case clr sz x =>
  generalize e x = v at H ⊢
  cases v <;> simp only at H ⊢
  split at H
  ·exact ⟨_,_,⟨H.1,H.2.1,H.2.2.1,rfl,rfl⟩,H.2.2.2⟩
  ·exact H.elim
 case un op x =>
  generalize e x = v at H ⊢
  cases op <;> cases v <;> simp only at H ⊢ <;> first|exact ⟨_,_,⟨rfl,rfl⟩,H⟩|exact H.elim
 case conv k x =>
  generalize e x = v at H ⊢
  cases v <;> simp only at H ⊢ <;> first|exact ⟨_,_,⟨rfl,rfl⟩,H⟩|exact H.elim
 case mkf=>exact ⟨_,_,⟨rfl,rfl⟩,H⟩
 case msl sz bytes zs x y =>
  generalize e x = v at H ⊢
  generalize e y = u at H ⊢
  split at H
  ·exact ⟨_,_,⟨H.1,H.2.1,H.2.2.1,H.2.2.2.1,H.2.2.2.2.1,rfl,rfl⟩,H.2.2.2.2.2⟩
  ·exact H.elim
 case len x =>
  generalize e x = v at H ⊢
  cases v <;> simp only at H ⊢ <;> first|exact ⟨_,_,⟨rfl,rfl⟩,H⟩|exact H.elim
 case app sz bytes x y =>
  obtain ⟨h0,H⟩:=H
  obtain ⟨q,m,c',hs,H⟩:=asrc_e H
  generalize e x = v at H ⊢
  cases v <;> simp only at H ⊢ <;> try exact H.elim
  case sl z ee n sz2 c =>
   obtain ⟨h2,h3,h4,h5⟩:=H
   by_cases hm:m = 0
   ·exact ⟨_,_,⟨h0,asrc_i hs ⟨h2,h3,fun _=>⟨rfl,rfl⟩,fun h=>by omega⟩⟩,h4 hm⟩
   ·exact ⟨_,_,⟨h0,asrc_i hs ⟨h2,h3,fun h=>by omega,fun _=>⟨(h5 (by omega)).1,(h5 (by omega)).2.1,rfl,rfl⟩⟩⟩,(h5 (by omega)).2.2⟩
  case own d n =>
   split at H
   ·rename_i n' sz2 c hd
    exact ⟨_,_,⟨h0,asrc_i hs (by simp only;exact ⟨H.1,H.2.1,H.2.2.1,H.2.2.2.1,trivial,trivial⟩)⟩,H.2.2.2.2⟩
   ·rename_i n' sz2 c hd
    exact ⟨_,_,⟨h0,asrc_i hs (by simp only;exact ⟨H.1,H.2.1,H.2.2.1,H.2.2.2.1,trivial,trivial⟩)⟩,H.2.2.2.2⟩
   ·exact H.elim
 case mx x y =>
  generalize e x = v at H ⊢
  generalize e y = u at H ⊢
  cases v <;> cases u <;> simp only at H ⊢ <;> exact ⟨_,_,⟨rfl,rfl⟩,H⟩
 case mn x y =>
  generalize e x = v at H ⊢
  generalize e y = u at H ⊢
  cases v <;> cases u <;> simp only at H ⊢ <;> exact ⟨_,_,⟨rfl,rfl⟩,H⟩
 case ext x i =>
  generalize e x = v at H ⊢
  cases v <;> simp only at H ⊢
  exact ⟨_,_,⟨H.1,rfl,rfl⟩,H.2⟩
end Go.Proofs.Ytbhjehpjjbbhbaa

namespace Go.Proofs.Ytbhjehpjjbbhbaa
open Go.RowKit
variable {F:Nat → Prop}

/-- A constant. -/
def ofV1 : Value → AV
 | .bool b=>.bool b
 | .int k n=>.int k n
 | .pointer none=>.nilp
 | .nilFunc=>.nilf
 | .slice none 0 0=>.sl true true 0 0 (fun _ _=>.bot)
 | _=>.bot
def ofV : Value → AV
 | .agg cs=>if cs.toList.all (fun u=>u.oneCell') then .agg cs.size (ofL (cs.toList.map ofV1)) else .bot
 | .tuple cs=>if cs.size = 0 then und else .bot
 | v=>ofV1 v
theorem rep_ofV1 (M:Nat → Prop) (w:World) (g:GM) (v:Value):rep M w (ofV1 v) g v:=by
 unfold ofV1
 split
 ·rfl
 ·rfl
 ·rfl
 ·rfl
 ·exact ⟨none,0,rfl,by simp,fun _=>⟨rfl,rfl⟩,fun _=>rfl,Nat.le_refl _,fun k hk=>by omega⟩
 ·trivial
theorem ofL_get {l:List AV} {i:Nat} {v:AV} (h:l[i]? = some v):ofL l i = v:=by simp [ofL,List.getD,h]
theorem rep_ofV (M:Nat → Prop) (w:World) (g:GM) (v:Value):rep M w (ofV v) g v:=by
 unfold ofV
 split
 ·rename_i cs
  split
  ·rename_i h
   refine ⟨cs,rfl,rfl,fun i hi=>⟨cs[i],Array.getElem?_eq_getElem hi,?_,?_⟩⟩
   ·exact List.all_eq_true.1 h _ (by simp)
   ·rw [ofL_get (v:=ofV1 cs[i]) (by simp [hi])]
    exact rep_ofV1 M w g _
  ·trivial
 ·rename_i cs
  split
  ·rename_i h
   exact ⟨cs,rfl,h,fun i hi=>by omega⟩
  ·trivial
 ·exact rep_ofV1 M w g v

def cx : Operand → AX
 | .tmp t=>.t t
 | .const v=>.k (ofV v)
 | .global _=>.k .bot
 | .func f=>.k (.fn f 0 (ofL []))

def tyAgg (P:Program) (t:TypeId):Option Bool:=(P.underlying t).map fun | .struct _ | .array _ _=>true|_=>false
def tySz (P:Program) (t:TypeId):Option Nat:=(P.info? t).map (·.size)
def tyFld (P:Program) (t:TypeId) (f:Nat):Option Field:=match P.underlying t with|some (.struct fs)=>fs[f]?|_=>none
/-- The element of a slice type: its number, its cells, its bytes, its zero's cells. -/
def tyEl (P:Program) (t:TypeId):Option (TypeId × TypeInfo):=match P.underlying t with|some (.slice e)=>(P.info? e).map fun i=>(e,i)|_=>none
/-- A slice of slices, or of structs that hold some. -/
def tySl (P:Program) (t:TypeId):Bool:=match P.underlying t with
 | some (.slice e)=>(match P.underlying e with
  | some (.slice _)=>true
  | some (.pointer _)=>true
  | some (.struct fs)=>fs.toList.any fun f=>match P.underlying f.type with
   | some (.slice _)=>true
   | _=>false
  | _=>false)
 | _=>false
def zcells (i:TypeInfo):Option (List Value):=match i.zero with|some z=>if z.cells.size = i.size && z.cells.toList.all (fun u=>u.oneCell') then some z.cells.toList else none|none=>none
def nilT : TypeDesc → Option Nat
 | .slice _=>some 0
 | .pointer _=>some 1
 | .func _ _ _=>some 2
 | _=>none

/-- A struct all of whose fields are numbers. -/
def flatS (P:Program) (t:TypeId) (fs:Array Field):Bool:=!P.stoodInHeld t && !P.eqGuardType P.depth t && (List.range fs.size).all fun i=>match fs[i]? with
 | some f => f.offset == i && f.name != "_" && tyAgg P f.type == some false && (match P.underlying f.type with
  | some (.int _)=>true
  | _=>false)
 | none=>false
/-- The cells of fields, one behind another. -/
def chainB (P:Program):List Field → Nat → Nat → Bool
 | [],a,b=>a == b
 | f :: fs,a,b=>f.offset == a && chainB P fs (a + P.cellsOf f.type) b
/-- A key all of whose cells are numbers. -/
def i64Key (P:Program):Nat → TypeId → Bool
 | 0,_=>false
 | d + 1,t=>match P.underlying t with
  | some (.int q)=>decide (q = .i64) && P.cellsOf t == 1
  | some (.array n e)=>i64Key P d e && P.cellsOf t == n * P.cellsOf e
  | some (.struct fs) => chainB P fs.toList 0 (P.cellsOf t) && fs.toList.all fun f => f.name != "_" && i64Key P d f.type
  | _=>false
/-- A map's type: what its keys are, and its element. -/
def mapT (P:Program) (t:TypeId):Option (Nat × TypeId × TypeId):=match P.underlying t with
 | some (.map k e)=>match P.underlying k with
  | some (.int q)=>if q = .i64 then some (0,k,e) else none
  | some (.struct _)=>match P.cellsOf k with
   | n + 1=>if P.keyTypeAt 4 k && i64Key P 4 k then some (n + 1,k,e) else none
   | 0=>none
  | _=>none
 | _=>none
/-- An array of numbers: its length. -/
def arrZ (P:Program) (t:TypeId):Option Nat:=match P.underlying t with
 | some (.array n e)=>match P.underlying e,P.info? e,P.info? t with
  | some (.int q),some ie,some it=>match it.zero with
   | some (.agg cs)=>if q = .i64 ∧ ie.size = 1 ∧ cs.size = n ∧ n ≤ 1000 ∧ (cs.toList.all fun u=>match u with
     | .int .i64 a=>a == 0
     | _=>false) = true then some n else none
   | _=>none
  | _,_,_=>none
 | _=>none
def compCall (P:Program) (c:Call):AOp :=
 match c.callee with
 | .builtin .len=>match c.args.toList,(c.argTypes[0]?).bind (tyEl P),(c.argTypes[0]?).bind (mapT P) with
  | [x],some _,_=>.len (cx x)
  | [x],none,some _=>.xt (.mlen (cx x))
  | _,_,_=>.no
 | .builtin .clear=>match c.args.toList,(c.argTypes[0]?).bind (tyEl P) with
  | [x],some (_,i)=>match zcells i with
   | some _=>.clr i.size (cx x)
   | none=>.no
  | _,_=>.no
 | .builtin .copy=>match c.args.toList,c.argTypes.toList with
  | [x,y],[t,t']=>if t = t' then match tyEl P t with
   | some (_,i)=>.xt (.cpy i.size (cx x) (cx y))
   | none=>.no
   else .no
  | _,_=>.no
 | .builtin .max=>match c.args.toList with
  | [x,y]=>.mx (cx x) (cx y)
  | _=>.no
 | .builtin .min=>match c.args.toList with
  | [x,y]=>.mn (cx x) (cx y)
  | _=>.no
 | .builtin .append=>match c.args.toList,c.argTypes.toList with
  | [x,y],[t,t']=>if t = t' then match tyEl P t with
   | some (_,i)=>match zcells i with
    | some _=>.app i.size i.bytes (cx x) (cx y)
    | none=>.no
   | none=>.no
   else .no
  | _,_=>.no
 | .value (.func f)=>.call f (c.args.toList.map cx)
 | .value (.tmp t)=>.calv (.t t) (c.args.toList.map cx)
 | _=>.no
def partsOf (P:Program) (t:TypeId):List (Nat × Operand) → Option (List (Nat × Nat × AX))
 | []=>some []
 | (i,x) :: ps=>match tyFld P t i,partsOf P t ps with
  | some f,some l=>match tySz P f.type with
   | some s=>some ((f.offset,s,cx x) :: l)
   | none=>none
  | _,_=>none
def compOp (P:Program):Op → AOp
 | .move x | .assign x=>.mv (cx x)
 | .pick c a b=>.pick (cx c) (cx a) (cx b)
 | .nilCheck x=>.nilck (cx x)
 | .alloc t=>match arrZ P t with
  | some n=>.xt (.boxr n 1 (.int .i64 0))
  | none=>match P.info? t with
   | some i=>match i.zero with
    | some z=>.box (.k (ofV z))
    | none=>.no
   | none=>.no
 | .box _ x=>.box (cx x)
 | .build t ps=>match P.underlying t with
  | some (.struct fs)=>if fs.toList.all (fun f=>(tySz P f.type).isSome) then match (P.info? t).bind zcells,partsOf P t ps.toList with
   | some zs,some l=>.build (zs.map ofV1) l
   | _,_=>.no
   else .no
  | _=>.no
 | .buildSlice t n ps=>match tyEl P t with
  | some (_,i)=>match zcells i with
   | some zs=>if 0 < i.size ∧ n * i.size ≤ 1000 then (if tySl P t then .bslp n i.size (zs.map ofV1) (ps.toList.map fun p=>(p.1,cx p.2)) else .bsl n i.size (zs.map ofV1) (ps.toList.map fun p=>(p.1,cx p.2))) else .no
   | none=>.no
  | none=>.no
 | .load t a=>match tyAgg P t with
  | some true=>match tySz P t with
   | some m=>.ld (some m) (cx a)
   | none=>.no
  | some false=>.ld none (cx a)
  | none=>.no
 | .store t a v=>match tySz P t with
  | some m=>.st m (cx a) (cx v)
  | none=>.no
 | .fieldAddr s x f=>match tyFld P s f with
  | some fd=>match tySz P fd.type with
   | some (_ + 1)=>.fa (cx x) fd.offset
   | _=>.no
  | none=>.no
 | .field s x f=>match tyFld P s f with
  | some fd=>match tyAgg P fd.type with
   | some true=>match tySz P fd.type with
    | some m=>.fld (cx x) fd.offset (some m)
    | none=>.no
   | some false=>.fld (cx x) fd.offset none
   | none=>.no
  | none=>.no
 | .indexAddr t x i=>match tyEl P t with
  | some (_,n)=>.ia n.size (cx x) (cx i)
  | none=>match P.underlying t with
   | some (.array n e)=>match tySz P e with
    | some (sz + 1)=>.xt (.iaa n (sz + 1) (cx x) (cx i))
    | _=>.no
   | _=>.no
 | .index t x i=>match P.underlying t with
  | some (.array n e)=>match tyAgg P e,tySz P e with
   | some true,some (sz + 1)=>.xt (.idx n (sz + 1) (some (sz + 1)) (cx x) (cx i))
   | some false,some 1=>.xt (.idx n 1 none (cx x) (cx i))
   | _,_=>.no
  | _=>.no
 | .makeMap t none=>match mapT P t with
  | some (kt,_,_)=>.xt (.mkm kt)
  | none=>.no
 | .mapUpdate t m k v | .insert t m k v=>match mapT P t with
  | some (kt,_,_)=>.xt (.ins kt (cx m) (cx k) (cx v))
  | none=>.no
 | .lookup t m k ok=>match mapT P t with
  | some (kt,_,e)=>match (P.info? e).bind (·.zero) with
   | some z=>.xt (.lkp kt ok (ofV z) (cx m) (cx k))
   | none=>.no
  | none=>.no
 | .range t m=>match mapT P t with
  | some _=>.xt (.rng (cx m))
  | none=>.no
 | .next it false=>.nxt (cx it)
 | .entry it=>.xt (.ent (cx it))
 | .mapEntry t m k=>match mapT P t with
  | some (kt,_,e)=>match (P.info? e).bind (·.zero) with
   | some z=>.xt (.ment kt (ofV z) (cx m) (cx k))
   | none=>.no
  | none=>.no
 | .entryStore _ m s v=>.xt (.est (cx m) (cx s) (cx v))
 | .slice t x lo hi none=>match tyEl P t with
  | some (_,n)=>.slc n.size (cx x) (lo.map cx) (hi.map cx)
  | none=>.no
 | .binOp op t x y _=>match P.underlying t with
  | some (.int _)=>.bin op (cx x) (cx y)
  | some .bool=>match op with
   | .eql=>.binb false (cx x) (cx y)
   | .neq=>.binb true (cx x) (cx y)
   | _=>.no
  | some d=>match nilT d with
   | some tag=>match op with
    | .eql=>.eqz tag false (cx x) (cx y)
    | .neq=>.eqz tag true (cx x) (cx y)
    | _=>.no
   | none=>match d with
    | .struct fs=>if flatS P t fs then (match op with
     | .eql=>.eqa fs.size false (cx x) (cx y)
     | .neq=>.eqa fs.size true (cx x) (cx y)
     | _=>.no) else .no
    | _=>.no
  | none=>.no
 | .unOp op _ x=>.un op (cx x)
 | .convert s d x=>match P.underlying s,P.underlying d with
  | some _,some (.int k)=>.conv k (cx x)
  | _,_=>.no
 | .makeFunc (.func f) first cap=>if first.toList.isEmpty then .mkf f (cap.toList.map cx) else if cap.toList.isEmpty then .xt (.mmv f (first.toList.map cx)) else .no
 | .makeSlice t l c=>match tyEl P t with
  | some (_,i)=>match zcells i with
   | some zs=>if 0 < i.size then .msl i.size i.bytes (zs.map ofV1) (cx l) (cx c) else .no
   | none=>.no
  | none=>.no
 | .extract t i=>.ext (cx t) i
 | .call c=>compCall P c
 | _=>.no

/-- The operation gives this value, in this state. -/
def RunsTo (F:Nat → Prop) (P:Program) (s:Sem Next) (g:GM) (h:List AB) (w:World) (r:AV) (h':List AB):Prop :=
 ∃ u w' g',(s.run P w = .ok (.value u) w' ∨ (s.run P w = .ok .skip w' ∧ u = undef)) ∧ rep (MM F g' h') w' r g' u ∧ Tr F g h w g' h' w'
theorem RunsTo.same {P:Program} {s:Sem Next} {g:GM} {h:List AB} {w:World} {r:AV} {u:Value} (k:HOK F g w h) (hs:s.run P w = .ok (.value u) w) (hr:rep (MM F g h) w r g u):RunsTo F P s g h w r h :=
 ⟨u,w,g,.inl hs,hr,Tr.refl k⟩

theorem tyEl_some {P:Program} {t e:TypeId} {i:TypeInfo} (h:tyEl P t = some (e,i)):P.underlying t = some (.slice e) ∧ P.info? e = some i:=by
 unfold tyEl at h
 split at h
 ·rename_i e' he
  cases hi:P.info? e' with
  | none=>rw [hi] at h;cases h
  | some j =>
   rw [hi] at h
   injection h with h
   injection h with h1 h2
   subst h1;subst h2
   exact ⟨he,hi⟩
 ·cases h
theorem tyAgg_run {P:Program} {t:TypeId} {b:Bool} (h:tyAgg P t = some b) (w:World):(isAgg t).run P w = .ok b w:=by
 unfold tyAgg at h
 cases hd:P.underlying t with
 | none=>rw [hd] at h;cases h
 | some d =>
  rw [hd] at h
  simp only [isAgg,Sem.run_bind,run_underlying hd,Result.andThen_ok]
  cases d <;> simp only [Option.map_some,Option.some.injEq] at h <;> subst h <;> rfl
theorem tySz_run {P:Program} {t:TypeId} {m:Nat} (h:tySz P t = some m) (w:World):(sizeOf t).run P w = .ok m w:=by
 unfold tySz at h
 cases hd:P.info? t with
 | none=>rw [hd] at h;cases h
 | some d =>
  rw [hd] at h
  injection h with h
  simp [sizeOf,typeInfo,hd,h]
theorem run_load_cell {P:Program} {w:World} {a:Addr} {u:Value} (h:w.cell? a = some u):(load a).run P w = .ok u w:=by simp [h]
theorem run_loadVar_one {P:Program} {t:TypeId} {w:World} {a:Addr} {u:Value} (ht:tyAgg P t = some false) (h:w.cell? a = some u):(loadVar t a).run P w = .ok u w:=by
 simp only [loadVar,Sem.run_bind,tyAgg_run ht,Result.andThen_ok,Bool.false_eq_true,if_false]
 exact run_load_cell h
theorem run_loadVar_agg {P:Program} {t:TypeId} {m:Nat} {w:World} {b off:Nat} (f:Nat → Value) (ht:tyAgg P t = some true) (hs:tySz P t = some m) (h:∀ i,i < m → w.cell? ⟨b,off + i,none⟩ = some (f i)) :
  (loadVar t ⟨b,off,none⟩).run P w = .ok (.agg ((List.range m).map f).toArray) w:=by
 simp only [loadVar,Sem.run_bind,tyAgg_run ht,Result.andThen_ok,if_true,tySz_run hs]
 rw [run_loadCells w ⟨b,off,none⟩ m f (fun j hj=>by rw [Addr.add_lit];exact h j hj)]
 rfl

/-- Cells in a row, as an aggregate. -/
theorem rep_cells {M:Nat → Prop} {w:World} {g:GM} {m:Nat} {c:Nat → AV} (f:Nat → Value) (h:∀ i,i < m → (f i).oneCell' = true ∧ rep M w (c i) g (f i)):rep M w (.agg m c) g (.agg ((List.range m).map f).toArray) :=
 ⟨_,rfl,by simp,fun i hi=>⟨f i,by simp [hi],(h i hi).1,(h i hi).2⟩⟩
theorem choose_fun {m:Nat} {p:Nat → Value → Prop} (h:∀ i,i < m → ∃ u,p i u):∃ f:Nat → Value,∀ i,i < m → p i (f i) :=
 ⟨fun i=>if hi:i < m then (h i hi).choose else undef,fun i hi=>by simp only [hi,dif_pos];exact (h i hi).choose_spec⟩
end Go.Proofs.Ytbhjehpjjbbhbaa

namespace Go.Proofs.Ytbhjehpjjbbhbaa
open Go.RowKit
variable {F:Nat → Prop}

section
variable {P:Program} {g:GM} {h:List AB} {w:World} {r:AV} {h':List AB}

theorem val_ld {t:TypeId} {v:AV} {u:Value} {m':Option Nat} (hok:HOK F g w h) (ht:(m' = none ∧ tyAgg P t = some false) ∨ ∃ m,m' = some m ∧ tyAgg P t = some true ∧ tySz P t = some m) (hr:rep (MM F g h) w v g u)
  (H:aop (.ld m' (.k v)) (fun x=>x.ev (fun _=>.bot)) h (fun a b=>a = r ∧ b = h')):∃ u',(Instr.loadAt t u).run P w = .ok u' w ∧ rep (MM F g h) w r g u' ∧ h = h':=by
 rcases ht with ⟨rfl,ht⟩|⟨m,rfl,ht,hs⟩
 ·simp only [aop,AX.ev] at H
  cases v <;> simp only at H
  case ptr d o =>
   obtain ⟨b,cap,hg,rfl⟩:=hr
   split at H
   ·rename_i m c hd
    obtain ⟨ho,rfl,rfl⟩:=H
    obtain ⟨cs,t',hh,hm,hc⟩:=hok.box d m c b cap hd hg
    obtain ⟨x,hx,_,hxr⟩:=hc o ho
    exact ⟨x,by simp only [Instr.loadAt,Instr.sureAddr,Sem.run_bind,Sem.run_pure,Result.andThen_ok];exact run_loadVar_one ht (cell_of_heap hh hx),hxr,rfl⟩
   ·exact H.elim
  case rp d sz k o =>
   obtain ⟨b,cap,hg,rfl⟩:=hr
   split at H
   ·rename_i n sz' c hd
    obtain ⟨hk,ho,rfl,rfl,rfl⟩:=H
    obtain ⟨_,_,cs,t',hh,hm,hc⟩:=hok.row d n _ c b cap hd hg
    obtain ⟨x,hx,_,hxr⟩:=hc k hk o ho
    exact ⟨x,by simp only [Instr.loadAt,Instr.sureAddr,Sem.run_bind,Sem.run_pure,Result.andThen_ok];exact run_loadVar_one ht (cell_of_heap hh hx),rep_up (g0_le g) hxr,rfl⟩
   ·rename_i n sz' c hd
    obtain ⟨hk,ho,rfl,rfl,rfl⟩:=H
    obtain ⟨_,_,cs,t',hh,hm,hc⟩:=hok.rwg d n _ c b cap hd hg
    obtain ⟨x,hx,_,hxr⟩:=hc k hk o ho
    exact ⟨x,by simp only [Instr.loadAt,Instr.sureAddr,Sem.run_bind,Sem.run_pure,Result.andThen_ok];exact run_loadVar_one ht (cell_of_heap hh hx),hxr,rfl⟩
   ·exact H.elim
  case ip m c o =>
   obtain ⟨b,off,rfl,hb,hn,hc⟩:=hr
   obtain ⟨ho,rfl,rfl⟩:=H
   obtain ⟨x,hx,_,hxr⟩:=hc o ho
   exact ⟨x,by simp only [Instr.loadAt,Instr.sureAddr,Sem.run_bind,Sem.run_pure,Result.andThen_ok];exact run_loadVar_one ht hx,rep_up (g0_le g) hxr,rfl⟩
 ·simp only [aop,AX.ev] at H
  cases v <;> simp only at H
  case ptr d o =>
   obtain ⟨b,cap,hg,rfl⟩:=hr
   split at H
   ·rename_i m1 c hd
    obtain ⟨ho,rfl,rfl⟩:=H
    obtain ⟨cs,t',hh,hm,hc⟩:=hok.box d m1 c b cap hd hg
    obtain ⟨f,hf⟩:=choose_fun (fun i (hi:i < m)=>hc (o + i) (by omega))
    refine ⟨_,?_,rep_cells f (fun i hi=>by rw [tab_get hi];exact (hf i hi).2),rfl⟩
    simp only [Instr.loadAt,Instr.sureAddr,Sem.run_bind,Sem.run_pure,Result.andThen_ok]
    exact run_loadVar_agg f ht hs (fun i hi=>cell_of_heap hh (hf i hi).1)
   ·exact H.elim
  case rp d sz k o =>
   obtain ⟨b,cap,hg,rfl⟩:=hr
   split at H
   ·rename_i n sz' c hd
    cases hb:(sz == 1 && o == 0) <;> simp only [hb] at H
    ·obtain ⟨hk,ho,rfl,rfl,rfl⟩:=H
     obtain ⟨_,_,cs,t',hh,hm,hc⟩:=hok.row d n _ c b cap hd hg
     obtain ⟨f,hf⟩:=choose_fun (fun i (hi:i < m)=>hc k hk (o + i) (by omega))
     refine ⟨_,?_,rep_cells f (fun i hi=>by rw [tab_get hi];exact ⟨(hf i hi).2.1,rep_up (g0_le g) (hf i hi).2.2⟩),rfl⟩
     simp only [Instr.loadAt,Instr.sureAddr,Sem.run_bind,Sem.run_pure,Result.andThen_ok]
     exact run_loadVar_agg f ht hs (fun i hi=>by rw [Nat.add_assoc];exact cell_of_heap hh (hf i hi).1)
    ·obtain ⟨hk,rfl,rfl,rfl⟩:=H
     simp only [Bool.and_eq_true,beq_iff_eq] at hb
     obtain ⟨rfl,rfl⟩:=hb
     obtain ⟨_,_,cs,t',hh,hm,hc⟩:=hok.row d n _ c b cap hd hg
     obtain ⟨f,hf⟩:=choose_fun (fun i (hi:i < m)=>hc (k + i) (by omega) 0 (by omega))
     refine ⟨_,?_,rep_cells f (fun i hi=>by rw [tab_get hi];exact ⟨(hf i hi).2.1,rep_up (g0_le g) (hf i hi).2.2⟩),rfl⟩
     simp only [Instr.loadAt,Instr.sureAddr,Sem.run_bind,Sem.run_pure,Result.andThen_ok]
     exact run_loadVar_agg f ht hs (fun i hi=>by have:=cell_of_heap hh (hf i hi).1;simpa using this)
   ·rename_i n sz' c hd
    obtain ⟨hk,ho,rfl,rfl,rfl⟩:=H
    obtain ⟨_,_,cs,t',hh,hm,hc⟩:=hok.rwg d n _ c b cap hd hg
    obtain ⟨f,hf⟩:=choose_fun (fun i (hi:i < m)=>hc k hk (o + i) (by omega))
    refine ⟨_,?_,rep_cells f (fun i hi=>by rw [tab_get hi];exact (hf i hi).2),rfl⟩
    simp only [Instr.loadAt,Instr.sureAddr,Sem.run_bind,Sem.run_pure,Result.andThen_ok]
    exact run_loadVar_agg f ht hs (fun i hi=>by rw [Nat.add_assoc];exact cell_of_heap hh (hf i hi).1)
   ·exact H.elim
  case ip m1 c o =>
   obtain ⟨b,off,rfl,hb,hn,hc⟩:=hr
   obtain ⟨ho,rfl,rfl⟩:=H
   obtain ⟨f,hf⟩:=choose_fun (fun i (hi:i < m)=>hc (o + i) (by omega))
   refine ⟨_,?_,rep_cells f (fun i hi=>by rw [tab_get hi];exact ⟨(hf i hi).2.1,rep_up (g0_le g) (hf i hi).2.2⟩),rfl⟩
   simp only [Instr.loadAt,Instr.sureAddr,Sem.run_bind,Sem.run_pure,Result.andThen_ok]
   exact run_loadVar_agg f ht hs (fun i hi=>by rw [Nat.add_assoc];exact (hf i hi).1)

theorem val_fa {s:TypeId} {f:Nat} {fd:Field} {n:Nat} {v:AV} {u:Value} (hf:tyFld P s f = some fd) (hs:tySz P fd.type = some (n + 1)) (hr:rep (MM F g h) w v g u)
  (H:aop (.fa (.k v) fd.offset) (fun x=>x.ev (fun _=>.bot)) h (fun a b=>a = r ∧ b = h')):∃ u',(Instr.fieldAt s u f).run P w = .ok u' w ∧ rep (MM F g h) w r g u' ∧ h = h':=by
 have hd:∃ fs,P.underlying s = some (.struct fs) ∧ fs[f]? = some fd:=by
  unfold tyFld at hf
  split at hf
  ·rename_i fs hfs;exact ⟨fs,hfs,hf⟩
  ·cases hf
 obtain ⟨fs,hu,hfs⟩:=hd
 have key:∀ b o,(Instr.fieldAt s (.pointer (some ⟨b,o,none⟩)) f).run P w = .ok (.pointer (some ⟨b,o + fd.offset,none⟩)) w:=fun b o=>by
  simp only [Instr.fieldAt,Sem.run_bind,run_underlying hu,Result.andThen_ok,hfs,Instr.sureAddr,Sem.run_pure,fieldPlace,tySz_run hs,Nat.add_one_ne_zero,if_false,Addr.add_lit]
 simp only [aop,AX.ev] at H
 cases v <;> simp only at H
 case ptr d o =>
  obtain ⟨b,cap,hg,rfl⟩:=hr
  obtain ⟨rfl,rfl⟩:=H
  exact ⟨_,key b o,⟨b,cap,hg,rfl⟩,rfl⟩
 case rp d sz k o =>
  obtain ⟨b,cap,hg,rfl⟩:=hr
  obtain ⟨rfl,rfl⟩:=H
  exact ⟨_,key b _,⟨b,cap,hg,by rw [Nat.add_assoc]⟩,rfl⟩
 case ip m c o =>
  obtain ⟨b,off,rfl,hb,hn,hc⟩:=hr
  obtain ⟨rfl,rfl⟩:=H
  exact ⟨_,key b _,⟨b,off,by rw [Nat.add_assoc],hb,hn,hc⟩,rfl⟩

theorem val_ia {t e:TypeId} {i:TypeInfo} {v j:AV} {u x:Value} (ht:tyEl P t = some (e,i)) (hr:rep (MM F g h) w v g u) (hj:rep (MM F g h) w j g x)
  (H:aop (.ia i.size (.k v) (.k j)) (fun x=>x.ev (fun _=>.bot)) h (fun a b=>a = r ∧ b = h')):∃ u',(Instr.indexAt t u x).run P w = .ok u' w ∧ rep (MM F g h) w r g u' ∧ h = h':=by
 obtain ⟨hu,hi⟩:=tyEl_some ht
 have hsz:∀ w:World,(sizeOf e).run P w = .ok i.size w:=fun w=>tySz_run (by simp [tySz,hi]) w
 simp only [aop,AX.ev] at H
 cases j <;> cases v <;> simp only at H
 case int.sl k n z ee m sz' c =>
  obtain rfl:=hj
  obtain ⟨rfl,hs0,h0,hlt,rfl,rfl⟩:=H
  obtain ⟨A,cap,rfl,_,_,_,_,hc⟩:=hr
  obtain ⟨b,off,u0,rfl,hb,hn,_⟩:=hc n.toNat (by omega) 0 hs0
  refine ⟨.pointer (some ⟨b,off + n.toNat * i.size,none⟩),?_,⟨b,off + n.toNat * i.size,rfl,hb,hn,fun o ho=>?_⟩,rfl⟩
  ·simp [Instr.indexAt,asIntOf,run_underlying hu,h0,hlt,hsz,Addr.add_lit]
  ·obtain ⟨b',off',u1,hA,_,_,hcell,h1,hr1⟩:=hc n.toNat (by omega) o ho
   injection hA with hA
   injection hA with e1 e2
   subst e1;subst e2
   exact ⟨u1,hcell,h1,hr1⟩
 case int.own k n d m =>
  obtain rfl:=hj
  obtain ⟨h0,hlt,rfl,rfl⟩:=H
  obtain ⟨b,cap,hg,rfl,_⟩:=hr
  refine ⟨.pointer (some ⟨b,n.toNat * i.size,none⟩),?_,⟨b,cap,hg,rfl⟩,rfl⟩
  simp [Instr.indexAt,asIntOf,run_underlying hu,h0,hlt,hsz,Addr.add_lit]
 case int.osl k n d sz' lo m =>
  obtain rfl:=hj
  obtain ⟨rfl,h0,hlt,rfl,rfl⟩:=H
  obtain ⟨b,cap,p,hg,rfl,hcap,hp⟩:=hr
  have hp':=hp (by omega)
  subst hp'
  refine ⟨.pointer (some ⟨b,(lo + n.toNat) * i.size + 0,none⟩),?_,⟨b,cap,hg,rfl⟩,rfl⟩
  simp [Instr.indexAt,asIntOf,run_underlying hu,h0,hlt,hsz,Addr.add_lit,Nat.add_mul]

theorem val_fld {s:TypeId} {f:Nat} {fd:Field} {v:AV} {u:Value} {m':Option Nat} (hf:tyFld P s f = some fd) (ht:(m' = none ∧ tyAgg P fd.type = some false) ∨ ∃ m,m' = some m ∧ tyAgg P fd.type = some true ∧ tySz P fd.type = some m) (hr:rep (MM F g h) w v g u)
  (H:aop (.fld (.k v) fd.offset m') (fun x=>x.ev (fun _=>.bot)) h (fun a b=>a = r ∧ b = h')):∃ u',(Instr.field s u f).run P w = .ok u' w ∧ rep (MM F g h) w r g u' ∧ h = h':=by
 have hd:∃ fs,P.underlying s = some (.struct fs) ∧ fs[f]? = some fd:=by
  unfold tyFld at hf
  split at hf
  ·rename_i fs hfs;exact ⟨fs,hfs,hf⟩
  ·cases hf
 obtain ⟨fs,hu,hfs⟩:=hd
 simp only [aop,AX.ev] at H
 cases v <;> simp only at H
 case agg n c =>
  obtain ⟨cs,rfl,hm,hc⟩:=hr
  rcases ht with ⟨rfl,ht⟩|⟨m,rfl,ht,hs⟩
  ·simp only at H
   obtain ⟨ho,rfl,rfl⟩:=H
   obtain ⟨x,hx,_,hxr⟩:=hc _ ho
   refine ⟨x,?_,hxr,rfl⟩
   simp only [Instr.field,Sem.run_bind,run_underlying hu,Result.andThen_ok,hfs,asAgg,Sem.run_pure,part,tyAgg_run ht,Bool.false_eq_true,if_false,hx]
  ·simp only at H
   obtain ⟨ho,rfl,rfl⟩:=H
   refine ⟨.agg (cs.extract fd.offset (fd.offset + m)),?_,⟨_,rfl,by simp;omega,fun i hi=>?_⟩,rfl⟩
   ·simp only [Instr.field,Sem.run_bind,run_underlying hu,Result.andThen_ok,hfs,asAgg,Sem.run_pure,part,tyAgg_run ht,if_true,tySz_run hs]
   ·obtain ⟨x,hx,h1,hxr⟩:=hc (fd.offset + i) (by omega)
    refine ⟨x,?_,h1,by rw [tab_get hi];exact hxr⟩
    rw [Array.getElem?_extract]
    rw [if_pos (by omega)]
    exact hx

theorem val_slc {t e:TypeId} {i:TypeInfo} {v:AV} {u:Value} {lo hi:Option AV} {ulo uhi:Option Value} (ht:tyEl P t = some (e,i)) (hr:rep (MM F g h) w v g u)
  (hlo:match lo,ulo with|none,none=>True|some a,some x=>rep (MM F g h) w a g x|_,_=>False) (hhi:match hi,uhi with|none,none=>True|some a,some x=>rep (MM F g h) w a g x|_,_=>False)
  (H:aop (.slc i.size (.k v) (lo.map .k) (hi.map .k)) (fun x=>x.ev (fun _=>.bot)) h (fun a b=>a = r ∧ b = h')):∃ u',(Instr.sliceAt t u ulo uhi none).run P w = .ok u' w ∧ rep (MM F g h) w r g u' ∧ h = h':=by
 obtain ⟨hu,hi'⟩:=tyEl_some ht
 have hsz:∀ w:World,(sizeOf e).run P w = .ok i.size w:=fun w=>tySz_run (by simp [tySz,hi']) w
 simp only [aop,AX.ev] at H
 cases v <;> simp only at H
 case own d n =>
  obtain ⟨b,cap,hg,rfl,hncap⟩:=hr
  have run:∀ (xh:Option Value) (hb:Nat),(Instr.sliceBounds true n cap none xh none).run P w = .ok (0,hb,cap) w → (Instr.sliceAt t (.slice (some ⟨b,0,none⟩) n cap) none xh none).run P w = .ok (.slice (some ⟨b,0,none⟩) hb cap) w:=by
   intro xh hb hs
   simp [Instr.sliceAt,Instr.slice,run_underlying hu,hs,hsz,Addr.add]
  cases lo <;> cases hi <;> cases ulo <;> cases uhi <;> simp only at hlo hhi <;> simp only [Option.map_none,Option.map_some] at H
  ·obtain ⟨rfl,rfl⟩:=H
   exact ⟨_,run none n (by simp [Instr.sliceBounds]),⟨b,cap,hg,rfl,hncap⟩,rfl⟩
  ·rename_i j x
   cases j <;> simp only at H
   rename_i k j
   obtain ⟨h0,h1,rfl,rfl⟩:=H
   obtain rfl:=hhi
   have h1':j ≤ (cap:Int):=by omega
   exact ⟨_,run (some (.int k j)) j.toNat (by simp [Instr.sliceBounds,Instr.sliceBound,asIntOf,h0,h1']),⟨b,cap,hg,rfl,by omega⟩,rfl⟩
  ·rename_i j x
   cases j <;> simp only at H
   rename_i k j
   obtain ⟨h0,h1,rfl,rfl⟩:=H
   obtain rfl:=hlo
   have hs:(Instr.sliceBounds true n cap (some (.int k j)) none none).run P w = .ok (j.toNat,n,cap) w:=by simp [Instr.sliceBounds,Instr.sliceBound,asIntOf,h0,h1]
   have hrun:(Instr.sliceAt t (.slice (some ⟨b,0,none⟩) n cap) (some (.int k j)) none none).run P w = .ok (.slice (some ⟨b,if cap = j.toNat then 0 else j.toNat * i.size,none⟩) (n - j.toNat) (cap - j.toNat)) w:=by
    simp only [Instr.sliceAt,Instr.slice,Sem.run_bind,Sem.run_pure,Result.andThen_ok,run_underlying hu,hs,hsz]
    by_cases e1:cap = j.toNat <;> simp [e1,Addr.add_lit]
   exact ⟨_,hrun,⟨b,cap,_,hg,rfl,by omega,fun h=>by rw [if_neg (by omega)]⟩,rfl⟩
 case osl d sz' l0 n =>
  obtain ⟨rfl,H⟩:=H
  obtain ⟨b,cap,p,hg,rfl,hncap,hp⟩:=hr
  cases lo <;> cases hi <;> cases ulo <;> cases uhi <;> simp only at hlo hhi <;> simp only [Option.map_none,Option.map_some] at H
  ·rename_i j x
   cases j <;> simp only at H
   rename_i k j
   obtain ⟨h0,h1,rfl,rfl⟩:=H
   obtain rfl:=hlo
   have hs:(Instr.sliceBounds true n (cap - l0) (some (.int k j)) none none).run P w = .ok (j.toNat,n,cap - l0) w:=by simp [Instr.sliceBounds,Instr.sliceBound,asIntOf,h0,h1]
   have hrun:(Instr.sliceAt t (.slice (some ⟨b,p,none⟩) n (cap - l0)) (some (.int k j)) none none).run P w = .ok (.slice (some ⟨b,if cap - l0 = j.toNat then p else p + j.toNat * i.size,none⟩) (n - j.toNat) (cap - l0 - j.toNat)) w:=by
    simp only [Instr.sliceAt,Instr.slice,Sem.run_bind,Sem.run_pure,Result.andThen_ok,run_underlying hu,hs,hsz]
    by_cases e1:cap - l0 = j.toNat <;> simp [e1,Addr.add_lit]
   refine ⟨_,hrun,⟨b,cap,_,hg,by rw [Nat.sub_sub],by omega,fun h=>?_⟩,rfl⟩
   rw [if_neg (by omega),hp (by omega),Nat.add_mul]
 case sl z ee n sz' c =>
  obtain ⟨rfl,H⟩:=H
  obtain ⟨A,cap,rfl,hz,hnil,hee,hcap,hc⟩:=hr
  have main:∀ (l hb:Nat) (e':Bool),(e' = true → ee = true ∧ hb = n) → l ≤ hb → hb ≤ n → rep (MM F g h) w (.sl z e' (hb - l) i.size (fun k=>c (k + l))) g (.slice (if cap = l then A else A.map (·.add (l * i.size))) (hb - l) (cap - l)):=by
   intro l hb e' he' h1 h2
   refine ⟨_,_,rfl,?_,?_,fun h=>(by have h3:=he' h;have:=hee h3.1;omega),by omega,fun k hk o ho=>?_⟩
   ·rw [hz];split <;> cases A <;> simp
   ·intro hA
    have hA':A = none:=by
     split at hA
     ·exact hA
     ·cases A <;> simp at hA ⊢
    have:=hnil hA'
    omega
   ·obtain ⟨b,off,x,hA,hb',hn,hcell,h1c,hr1⟩:=hc (k + l) (by omega) o ho
    subst hA
    by_cases hcl:cap = l
    ·omega
    ·refine ⟨b,off + l * i.size,x,?_,hb',hn,?_,h1c,hr1⟩
     ·simp [hcl,Addr.add_lit]
     ·rw [← hcell,Nat.add_mul];congr 2;omega
  have zero:rep (MM F g h) w (.sl z false n i.size c) g (.slice A n cap):=⟨A,cap,rfl,hz,hnil,fun h=>(by cases h),hcap,hc⟩
  have run:∀ (xl xh:Option Value) (l hb:Nat),(Instr.sliceBounds true n cap xl xh none).run P w = .ok (l,hb,cap) w → (Instr.sliceAt t (.slice A n cap) xl xh none).run P w = .ok (.slice (if cap = l then A else A.map (·.add (l * i.size))) (hb - l) (cap - l)) w:=by
   intro xl xh l hb hs
   simp [Instr.sliceAt,Instr.slice,run_underlying hu,hs,hsz]
  cases lo <;> cases hi <;> cases ulo <;> cases uhi <;> simp only at hlo hhi <;> simp only [Option.map_none,Option.map_some] at H
  ·obtain ⟨rfl,rfl⟩:=H
   have hm:=main 0 n false (fun h=>by cases h) (by omega) (by omega)
   refine ⟨_,run none none 0 n (by simp [Instr.sliceBounds]),?_,rfl⟩
   simpa using hm
  ·rename_i b x
   cases b <;> simp only at H
   rename_i k b
   obtain ⟨h0,h1,rfl,rfl⟩:=H
   obtain rfl:=hhi
   have hm:=main 0 b.toNat false (fun h=>by cases h) (by omega) (by omega)
   have h1':b ≤ (cap:Int):=by omega
   refine ⟨_,run none (some (.int k b)) 0 b.toNat (by simp [Instr.sliceBounds,Instr.sliceBound,asIntOf,h0,h1']),?_,rfl⟩
   simpa using hm
  ·rename_i a x
   cases a <;> simp only at H
   rename_i k a
   obtain ⟨h0,h1,rfl,rfl⟩:=H
   obtain rfl:=hlo
   exact ⟨_,run (some (.int k a)) none a.toNat n (by simp [Instr.sliceBounds,Instr.sliceBound,asIntOf,h0,h1]),main a.toNat n ee (fun h=>⟨h,rfl⟩) (by omega) (by omega),rfl⟩
  ·rename_i a b x y
   obtain ⟨k,a,rfl⟩:∃ k a',a = .int k a':=by
    cases a with
    | int k' b'=>exact ⟨_,_,rfl⟩
    | _=>exact H.elim
   obtain ⟨k',b,rfl⟩:∃ k' b',b = .int k' b':=by
    cases b with
    | int k' b'=>exact ⟨_,_,rfl⟩
    | _=>exact H.elim
   obtain ⟨h0,h1,h2,rfl,rfl⟩:=H
   obtain rfl:=hlo
   obtain rfl:=hhi
   have h1':b ≤ (cap:Int):=by omega
   have h2':(0:Int) ≤ b:=by omega
   have h3':a ≤ max b 0:=by omega
   exact ⟨_,run (some (.int k a)) (some (.int k' b)) a.toNat b.toNat (by simp [Instr.sliceBounds,Instr.sliceBound,asIntOf,h0,h1',h2',h3']),main a.toNat b.toNat false (fun h=>by cases h) (by omega) (by omega),rfl⟩
end
end Go.Proofs.Ytbhjehpjjbbhbaa
