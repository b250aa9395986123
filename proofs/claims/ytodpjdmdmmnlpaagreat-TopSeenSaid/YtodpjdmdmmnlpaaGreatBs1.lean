/- An abstract reading of code: abstract values, a heap of the call's own blocks, and what they say of a world -/
import Derived.WalkKit
import Derived.Laws.AppendOwn
import Derived.Lib.Hide
import Derived.Orders

namespace Go.Proofs.YtodpjdmdmmnlpaaGreat
open Go.RowKit

/-- Abstract values. -/
inductive AV where
 | bot
 | int (k:IntKind) (n:Int)
 | bool (b:Bool)
 | nilp
 | nilf
 | sl (z e:Bool) (n sz:Nat) (c:Nat → Nat → AV)
 | ip (m:Nat) (c:Nat → AV) (o:Nat)
 | own (d n:Nat)
 | ptr (d o:Nat)
 | rp (d sz k o:Nat)
 | osl (d sz lo n:Nat)
 | mpv (d:Nat)
 | mv (f:FuncId) (m:Nat) (c:Nat → AV)
 | fn (f:FuncId) (m:Nat) (c:Nat → AV)
 | agg (m:Nat) (c:Nat → AV)
 | tup (m:Nat) (c:Nat → AV)
 deriving Inhabited

abbrev GM := Nat → Option (Nat × Nat)
def g0 : GM:=fun _=>none
def GM.le (g g':GM):Prop:=∀ d p,g d = some p → g' d = some p
theorem GM.le_refl (g:GM):g.le g:=fun _ _ h=>h
theorem GM.le_trans {a b c:GM} (h:a.le b) (k:b.le c):a.le c:=fun d p x=>k d p (h d p x)
theorem g0_le (g:GM):g0.le g:=fun d p h=>by cases h

/-- What an abstract value says of a value. M: the blocks that the call may write. -/
def rep (M:Nat → Prop) (w:World):AV → GM → Value → Prop
 | .bot,_,_=>True
 | .int k n,_,v=>v = .int k n
 | .bool b,_,v=>v = .bool b
 | .nilp,_,v=>v = .pointer none
 | .nilf,_,v=>v = .nilFunc
 | .sl z e n sz c,_,v=>∃ A cap,v = .slice A n cap ∧ (z = true ↔ A = none) ∧ (A = none → n = 0 ∧ cap = 0) ∧ (e = true → cap = n) ∧ n ≤ cap ∧
   ∀ k,k < n → ∀ o,o < sz → ∃ b off u,A = some ⟨b,off,none⟩ ∧ b < w.heap.size ∧ ¬ M b ∧ w.cell? ⟨b,off + k * sz + o,none⟩ = some u ∧ u.oneCell' = true ∧ rep M w (c k o) g0 u
 | .ip m c o,_,v=>∃ b off,v = .pointer (some ⟨b,off + o,none⟩) ∧ b < w.heap.size ∧ ¬ M b ∧ ∀ i,i < m → ∃ u,w.cell? ⟨b,off + i,none⟩ = some u ∧ u.oneCell' = true ∧ rep M w (c i) g0 u
 | .own d n,g,v=>∃ b cap,g d = some (b,cap) ∧ v = .slice (some ⟨b,0,none⟩) n cap ∧ n ≤ cap
 | .ptr d o,g,v=>∃ b cap,g d = some (b,cap) ∧ v = .pointer (some ⟨b,o,none⟩)
 | .rp d sz k o,g,v=>∃ b cap,g d = some (b,cap) ∧ v = .pointer (some ⟨b,k * sz + o,none⟩)
 | .osl d sz lo n,g,v=>∃ b cap p,g d = some (b,cap) ∧ v = .slice (some ⟨b,p,none⟩) n (cap - lo) ∧ lo + n ≤ cap ∧ (lo < cap → p = lo * sz)
 | .mpv d,g,v=>∃ b cap,g d = some (b,cap) ∧ v = .map (some b)
 | .mv f m c,_,v=>∃ cs,v = .func (.func f) cs #[] ∧ cs.size = m ∧ ∀ i,i < m → ∃ u,cs[i]? = some u ∧ rep M w (c i) g0 u
 | .fn f m c,g,v=>∃ cs,v = .func (.func f) #[] cs ∧ cs.size = m ∧ ∀ i,i < m → ∃ u,cs[i]? = some u ∧ rep M w (c i) g u
 | .agg m c,g,v=>∃ cs,v = .agg cs ∧ cs.size = m ∧ ∀ i,i < m → ∃ u,cs[i]? = some u ∧ u.oneCell' = true ∧ rep M w (c i) g u
 | .tup m c,g,v=>∃ cs,v = .tuple cs ∧ cs.size = m ∧ ∀ i,i < m → ∃ u,cs[i]? = some u ∧ rep M w (c i) g u

/-- A world that has changed only in the blocks of M. -/
structure Chg (M:Nat → Prop) (w w':World):Prop where
 os:w'.os = w.os
 tape:w'.tape = w.tape
 output:w'.output = w.output
 size:w.heap.size ≤ w'.heap.size
 block:∀ b,b < w.heap.size → ¬ M b → w'.heap[b]? = w.heap[b]?
theorem Chg.refl (M:Nat → Prop) (w:World):Chg M w w:=⟨rfl,rfl,rfl,Nat.le_refl _,fun _ _ _=>rfl⟩
theorem Chg.trans {M M':Nat → Prop} {a b c:World} (h:Chg M a b) (k:Chg M' b c) (hm:∀ x,x < a.heap.size → M' x → M x):Chg M a c :=
 ⟨k.os.trans h.os,k.tape.trans h.tape,k.output.trans h.output,Nat.le_trans h.size k.size,fun x hx hn=>(k.block x (Nat.lt_of_lt_of_le hx h.size) (fun hM=>hn (hm x hx hM))).trans (h.block x hx hn)⟩
theorem Chg.weak {M M':Nat → Prop} {a b:World} (h:Chg M a b) (hm:∀ x,x < a.heap.size → M x → M' x):Chg M' a b :=
 ⟨h.os,h.tape,h.output,h.size,fun x hx hn=>h.block x hx (fun hM=>hn (hm x hx hM))⟩
theorem Chg.cell {M:Nat → Prop} {w w':World} (h:Chg M w w') {b off:Nat} {sp:Option Nat} (hb:b < w.heap.size) (hn:¬ M b):w'.cell? ⟨b,off,sp⟩ = w.cell? ⟨b,off,sp⟩:=by
 simp only [World.cell?,h.block b hb hn]
theorem Chg.drew (M:Nat → Prop) (w:World):Chg M w w.drew:=⟨rfl,rfl,rfl,Nat.le_refl _,fun _ _ _=>rfl⟩
theorem Chg.alloc (M:Nat → Prop) (w:World) (o:Obj):Chg M w (w.alloc o) :=
 have h:=(Below.refl w.heap.size w).alloc (Nat.le_refl _) o
 ⟨h.os,h.tape,h.output,h.size,fun b hb _=>h.block b hb⟩

theorem rep_mono {M M':Nat → Prop} {w w':World} (hc:Chg M w w') (hM:∀ b,b < w.heap.size → M' b → M b):∀ (v:AV) {g g':GM} {u:Value},g.le g' → rep M w v g u → rep M' w' v g' u:=by
 intro v
 induction v with
 | bot=>intros;trivial
 | int k n=>intro g g' u _ h;exact h
 | bool b=>intro g g' u _ h;exact h
 | nilp=>intro g g' u _ h;exact h
 | nilf=>intro g g' u _ h;exact h
 | sl z e n sz c ih =>
  intro g g' u _ h
  obtain ⟨A,cap,h1,h2,h3,h4,h4',h5⟩:=h
  refine ⟨A,cap,h1,h2,h3,h4,h4',fun k hk o ho=>?_⟩
  obtain ⟨b,off,x,hA,hb,hn,hcell,h1c,hr⟩:=h5 k hk o ho
  exact ⟨b,off,x,hA,Nat.lt_of_lt_of_le hb hc.size,fun h'=>hn (hM b hb h'),(hc.cell hb hn).trans hcell,h1c,ih k o (GM.le_refl _) hr⟩
 | ip m c o ih =>
  intro g g' u _ h
  obtain ⟨b,off,h1,hb,hn,h5⟩:=h
  refine ⟨b,off,h1,Nat.lt_of_lt_of_le hb hc.size,fun h'=>hn (hM b hb h'),fun i hi=>?_⟩
  obtain ⟨x,hcell,h1c,hr⟩:=h5 i hi
  exact ⟨x,(hc.cell hb hn).trans hcell,h1c,ih i (GM.le_refl _) hr⟩
 | own d n =>
  intro g g' u hg h
  obtain ⟨b,cap,h1,h2⟩:=h
  exact ⟨b,cap,hg _ _ h1,h2⟩
 | ptr d o =>
  intro g g' u hg h
  obtain ⟨b,cap,h1,h2⟩:=h
  exact ⟨b,cap,hg _ _ h1,h2⟩
 | rp d sz k o =>
  intro g g' u hg h
  obtain ⟨b,cap,h1,h2⟩:=h
  exact ⟨b,cap,hg _ _ h1,h2⟩
 | osl d sz lo n =>
  intro g g' u hg h
  obtain ⟨b,cap,p,h1,h2⟩:=h
  exact ⟨b,cap,p,hg _ _ h1,h2⟩
 | mpv d =>
  intro g g' u hg h
  obtain ⟨b,cap,h1,h2⟩:=h
  exact ⟨b,cap,hg _ _ h1,h2⟩
 | mv f m c ih =>
  intro g g' u _ h
  obtain ⟨cs,h1,h2,h3⟩:=h
  refine ⟨cs,h1,h2,fun i hi=>?_⟩
  obtain ⟨x,hx,hr⟩:=h3 i hi
  exact ⟨x,hx,ih i (GM.le_refl _) hr⟩
 | fn f m c ih =>
  intro g g' u hg h
  obtain ⟨cs,h1,h2,h3⟩:=h
  refine ⟨cs,h1,h2,fun i hi=>?_⟩
  obtain ⟨x,hx,hr⟩:=h3 i hi
  exact ⟨x,hx,ih i hg hr⟩
 | agg m c ih =>
  intro g g' u hg h
  obtain ⟨cs,h1,h2,h3⟩:=h
  refine ⟨cs,h1,h2,fun i hi=>?_⟩
  obtain ⟨x,hx,h1c,hr⟩:=h3 i hi
  exact ⟨x,hx,h1c,ih i hg hr⟩
 | tup m c ih =>
  intro g g' u hg h
  obtain ⟨cs,h1,h2,h3⟩:=h
  refine ⟨cs,h1,h2,fun i hi=>?_⟩
  obtain ⟨x,hx,hr⟩:=h3 i hi
  exact ⟨x,hx,ih i hg hr⟩

theorem rep_up {M:Nat → Prop} {w:World} {v:AV} {g g':GM} {u:Value} (hg:g.le g') (h:rep M w v g u):rep M w v g' u:=rep_mono (Chg.refl M w) (fun _ _ h=>h) v hg h

/-- Values that name no block of the call's own. -/
def AV.pure : AV → Prop
 | .own .. | .ptr .. | .rp .. | .osl .. | .mpv ..=>False
 | .fn _ m c | .agg m c | .tup m c=>∀ i,i < m → (c i).pure
 | _=>True
theorem rep_pure {M:Nat → Prop} {w:World}:∀ (v:AV) {g:GM} {u:Value},v.pure → rep M w v g u → rep M w v g0 u:=by
 intro v
 induction v with
 | bot=>intros;trivial
 | int k n=>intro g u _ h;exact h
 | bool b=>intro g u _ h;exact h
 | nilp=>intro g u _ h;exact h
 | nilf=>intro g u _ h;exact h
 | sl z e n sz c ih=>intro g u _ h;exact h
 | ip m c o ih=>intro g u _ h;exact h
 | own d n=>intro g u hp;exact hp.elim
 | ptr d o=>intro g u hp;exact hp.elim
 | rp d sz k o=>intro g u hp;exact hp.elim
 | osl d sz lo n=>intro g u hp;exact hp.elim
 | mpv d=>intro g u hp;exact hp.elim
 | mv f m c ih=>intro g u _ h;exact h
 | fn f m c ih =>
  intro g u hp h
  obtain ⟨cs,h1,h2,h3⟩:=h
  refine ⟨cs,h1,h2,fun i hi=>?_⟩
  obtain ⟨x,hx,hr⟩:=h3 i hi
  exact ⟨x,hx,ih i (hp i hi) hr⟩
 | agg m c ih =>
  intro g u hp h
  obtain ⟨cs,h1,h2,h3⟩:=h
  refine ⟨cs,h1,h2,fun i hi=>?_⟩
  obtain ⟨x,hx,h1c,hr⟩:=h3 i hi
  exact ⟨x,hx,h1c,ih i (hp i hi) hr⟩
 | tup m c ih =>
  intro g u hp h
  obtain ⟨cs,h1,h2,h3⟩:=h
  refine ⟨cs,h1,h2,fun i hi=>?_⟩
  obtain ⟨x,hx,hr⟩:=h3 i hi
  exact ⟨x,hx,ih i (hp i hi) hr⟩

/-- Values of one cell. -/
def AV.one : AV → Bool
 | .bot | .agg .. | .tup ..=>false
 | _=>true
theorem one_of_rep {M:Nat → Prop} {w:World} {v:AV} {g:GM} {u:Value} (h1:v.one = true) (h:rep M w v g u):u.oneCell' = true ∧ u.cells = #[u]:=by
 cases v <;> simp only [AV.one,Bool.false_eq_true] at h1 <;> simp only [rep] at h
 case int=>subst h;exact ⟨rfl,rfl⟩
 case bool=>subst h;exact ⟨rfl,rfl⟩
 case nilp=>subst h;exact ⟨rfl,rfl⟩
 case nilf=>subst h;exact ⟨rfl,rfl⟩
 case sl=>obtain ⟨A,cap,rfl,_⟩:=h;exact ⟨rfl,rfl⟩
 case ip=>obtain ⟨b,off,rfl,_⟩:=h;exact ⟨rfl,rfl⟩
 case own=>obtain ⟨b,cap,_,rfl,_⟩:=h;exact ⟨rfl,rfl⟩
 case ptr=>obtain ⟨b,cap,_,rfl⟩:=h;exact ⟨rfl,rfl⟩
 case rp=>obtain ⟨b,cap,_,rfl⟩:=h;exact ⟨rfl,rfl⟩
 case osl=>obtain ⟨b,cap,p,_,rfl,_⟩:=h;exact ⟨rfl,rfl⟩
 case mpv=>obtain ⟨b,cap,_,rfl⟩:=h;exact ⟨rfl,rfl⟩
 case mv=>obtain ⟨cs,rfl,_⟩:=h;exact ⟨rfl,rfl⟩
 case fn=>obtain ⟨cs,rfl,_⟩:=h;exact ⟨rfl,rfl⟩

/-- The call's own blocks: a variable of m cells, or a row of n elements of sz cells each. -/
inductive AB where
 | dead
 | box (m:Nat) (c:Nat → AV)
 | row (n sz:Nat) (c:Nat → Nat → AV)
 | mp (kt:Nat) (L:List (List Int × AV))
 | mit (m:AV) (n:Nat) (seen:List Nat)
 | rwg (n sz:Nat) (c:Nat → Nat → AV)
 deriving Inhabited
/-- A key of a map: one number (0), or so many cells that are numbers. -/
def keyV (kt:Nat) (l:List Int):Value:=match kt with
 | 0=>.int .i64 (l.getD 0 0)
 | _ + 1=>.agg (l.map (Value.int .i64)).toArray
def in64 (a:Int):Prop:=-9223372036854775808 ≤ a ∧ a ≤ 9223372036854775807
def KeyOK (kt:Nat) (l:List Int):Prop:=l.length = max 1 kt ∧ ∀ a ∈ l,in64 a
/-- What a map holds: its entries in the order of their coming. -/
structure MapOK (M:Nat → Prop) (w:World) (kt:Nat) (L:List (List Int × AV)) (es:Array MapEntry):Prop where
 len:es.size = L.length
 ent:∀ i,i < L.length → ∃ e,es[i]? = some e ∧ e.born = i ∧ e.key = keyV kt (L.getD i default).1 ∧ rep M w (L.getD i default).2 g0 e.val
 nod:(L.map (·.1)).Nodup
 one:∀ p ∈ L,KeyOK kt p.1
theorem MapOK.mono {M M':Nat → Prop} {w w':World} {kt:Nat} {L:List (List Int × AV)} {es:Array MapEntry} (h:MapOK M w kt L es) (hc:Chg M w w') (hM:∀ b,b < w.heap.size → M' b → M b):MapOK M' w' kt L es :=
 ⟨h.len,fun i hi=>by obtain ⟨e,a,b,c,d⟩:=h.ent i hi;exact ⟨e,a,b,c,rep_mono hc hM _ (GM.le_refl _) d⟩,h.nod,h.one⟩
def AB.live : AB → Prop
 | .dead=>False
 | _=>True
def live (h:List AB) (d:Nat):Prop:=∃ b,h[d]? = some b ∧ b.live
/-- The blocks that the call may write. -/
def MO (g:GM) (h:List AB) (b:Nat):Prop:=∃ d cap,live h d ∧ g d = some (b,cap)
/-- With them, those of all who called. -/
def MM (F:Nat → Prop) (g:GM) (h:List AB) (b:Nat):Prop:=F b ∨ MO g h b

structure HOK (F:Nat → Prop) (g:GM) (w:World) (h:List AB):Prop where
 dom:∀ d,h.length ≤ d → g d = none
 lv:∀ d,live h d → ∃ p,g d = some p
 inj:∀ d d' b c c',live h d → live h d' → g d = some (b,c) → g d' = some (b,c') → d = d'
 box:∀ d m c b cap,h[d]? = some (.box m c) → g d = some (b,cap) → ∃ cs t,w.heap[b]? = some (.cells cs t (0,0)) ∧ cs.size = m ∧ ∀ i,i < m → ∃ u,cs[i]? = some u ∧ u.oneCell' = true ∧ rep (MM F g h) w (c i) g u
 row:∀ d n sz c b cap,h[d]? = some (.row n sz c) → g d = some (b,cap) → n ≤ cap ∧ cap ≤ maxLen ∧ ∃ cs t,w.heap[b]? = some (.cells cs t (0,0)) ∧ cs.size = cap * sz ∧ ∀ k,k < n → ∀ o,o < sz → ∃ u,cs[k * sz + o]? = some u ∧ u.oneCell' = true ∧ rep (MM F g h) w (c k o) g0 u
 mp:∀ d kt L b cap,h[d]? = some (.mp kt L) → g d = some (b,cap) → ∃ es,w.heap[b]? = some (.map es es.size) ∧ MapOK (MM F g h) w kt L es
 mit:∀ d m n seen b cap,h[d]? = some (.mit m n seen) → g d = some (b,cap) → seen.Nodup ∧ (∀ i ∈ seen,i < n) ∧ ∃ mb,rep (MM F g h) w m g (.map (some mb)) ∧ w.heap[b]? = some (.mapIter (some mb) n seen.toArray n)
 rwg:∀ d n sz c b cap,h[d]? = some (.rwg n sz c) → g d = some (b,cap) → n ≤ cap ∧ cap ≤ maxLen ∧ ∃ cs t,w.heap[b]? = some (.cells cs t (0,0)) ∧ cs.size = cap * sz ∧ ∀ k,k < n → ∀ o,o < sz → ∃ u,cs[k * sz + o]? = some u ∧ u.oneCell' = true ∧ rep (MM F g h) w (c k o) g u
 fr:∀ b,F b → b < w.heap.size ∧ ¬ MO g h b
theorem lt_of_heap {w:World} {b:Nat} {o:Obj} (h:w.heap[b]? = some o):b < w.heap.size:=by
 rcases Nat.lt_or_ge b w.heap.size with hlt|hge
 ·exact hlt
 ·rw [Array.getElem?_eq_none hge] at h;cases h

section
variable {F:Nat → Prop}
theorem HOK.nil (w:World) (hF:∀ b,F b → b < w.heap.size):HOK F g0 w []:=⟨fun _ _=>rfl,fun d ⟨b,h,_⟩=>by simp at h,fun d d' b c c' ⟨x,h,_⟩=>by simp at h,fun d m c b cap h=>by simp at h,fun d n sz c b cap h=>by simp at h,fun d kt L b cap h=>by simp at h,fun d m n seen b cap h=>by simp at h,fun d n sz c b cap h=>by simp at h,fun b hb=>⟨hF b hb,fun ⟨d,cap,⟨x,h,_⟩,_⟩=>by simp at h⟩⟩
theorem HOK.olt {g:GM} {w:World} {h:List AB} (k:HOK F g w h) {b:Nat} (hb:MO g h b):b < w.heap.size:=by
 obtain ⟨d,cap,⟨x,hx,hl⟩,hg⟩:=hb
 cases x with
 | dead=>exact hl.elim
 | box m c=>obtain ⟨cs,t,h1,_⟩:=k.box d m c b cap hx hg;exact lt_of_heap h1
 | row n sz c=>obtain ⟨_,_,cs,t,h1,_⟩:=k.row d n sz c b cap hx hg;exact lt_of_heap h1
 | mp kt L=>obtain ⟨es,h1,_⟩:=k.mp d kt L b cap hx hg;exact lt_of_heap h1
 | mit m n seen=>obtain ⟨_,_,mb,_,h1⟩:=k.mit d m n seen b cap hx hg;exact lt_of_heap h1
 | rwg n sz c=>obtain ⟨_,_,cs,t,h1,_⟩:=k.rwg d n sz c b cap hx hg;exact lt_of_heap h1
theorem HOK.mlt {g:GM} {w:World} {h:List AB} (k:HOK F g w h) {b:Nat} (hb:MM F g h b):b < w.heap.size:=hb.elim (fun h=>(k.fr b h).1) k.olt
theorem HOK.lt {g:GM} {w:World} {h:List AB} (k:HOK F g w h) {d:Nat} {p:Nat × Nat} (hg:g d = some p):d < h.length:=by
 rcases Nat.lt_or_ge d h.length with h'|h'
 ·exact h'
 ·rw [k.dom d h'] at hg;cases hg

/-- From one state of the call's own blocks to the next. -/
structure Tr (F:Nat → Prop) (g:GM) (h:List AB) (w:World) (g':GM) (h':List AB) (w':World):Prop where
 ok:HOK F g' w' h'
 gle:g.le g'
 chg:Chg (MO g h) w w'
 new:∀ b,MO g' h' b → MO g h b ∨ w.heap.size ≤ b
theorem Tr.refl {g:GM} {h:List AB} {w:World} (k:HOK F g w h):Tr F g h w g h w:=⟨k,GM.le_refl _,Chg.refl _ _,fun _ h=>.inl h⟩
theorem Tr.oldo {g g':GM} {h h':List AB} {w w':World} (t:Tr F g h w g' h' w'):∀ b,b < w.heap.size → MO g' h' b → MO g h b:=fun b hb hm=>(t.new b hm).resolve_right (by omega)
theorem Tr.old {g g':GM} {h h':List AB} {w w':World} (t:Tr F g h w g' h' w'):∀ b,b < w.heap.size → MM F g' h' b → MM F g h b:=fun b hb hm=>hm.imp id (t.oldo b hb)
theorem Tr.mchg {g g':GM} {h h':List AB} {w w':World} (t:Tr F g h w g' h' w'):Chg (MM F g h) w w':=t.chg.weak fun _ _ h=>.inr h
theorem Tr.trans {g g' g'':GM} {h h' h'':List AB} {w w' w'':World} (a:Tr F g h w g' h' w') (b:Tr F g' h' w' g'' h'' w''):Tr F g h w g'' h'' w'' :=
 ⟨b.ok,GM.le_trans a.gle b.gle,a.chg.trans b.chg a.oldo,fun x hx=>by
  rcases b.new x hx with h|h
  ·exact a.new x h
  ·exact .inr (Nat.le_trans a.chg.size h)⟩
theorem Tr.hold {g g':GM} {h h':List AB} {w w':World} (t:Tr F g h w g' h' w') {v:AV} {u:Value} (hr:rep (MM F g h) w v g u):rep (MM F g' h') w' v g' u:=rep_mono t.mchg t.old v t.gle hr

theorem cell_of_heap {w:World} {b i:Nat} {cs:Array Value} {t:TypeId} {u:Value} (h:w.heap[b]? = some (.cells cs t (0,0))) (hu:cs[i]? = some u):w.cell? ⟨b,i,none⟩ = some u:=by
 simp [World.cell?,h,hu]
theorem free_of_heap {w:World} {b i:Nat} {cs:Array Value} {t:TypeId} (h:w.heap[b]? = some (.cells cs t (0,0))):w.frozen? ⟨b,i,none⟩ = false:=by
 simp [World.frozen?,h]

/-- What a block of the call's own holds. -/
def ABOK (M:Nat → Prop) (g:GM) (w:World) (b cap:Nat):AB → Prop
 | .dead=>True
 | .box m c=>∃ cs t,w.heap[b]? = some (.cells cs t (0,0)) ∧ cs.size = m ∧ ∀ i,i < m → ∃ u,cs[i]? = some u ∧ u.oneCell' = true ∧ rep M w (c i) g u
 | .row n sz c=>n ≤ cap ∧ cap ≤ maxLen ∧ ∃ cs t,w.heap[b]? = some (.cells cs t (0,0)) ∧ cs.size = cap * sz ∧ ∀ k,k < n → ∀ o,o < sz → ∃ u,cs[k * sz + o]? = some u ∧ u.oneCell' = true ∧ rep M w (c k o) g0 u
 | .mp kt L=>∃ es,w.heap[b]? = some (.map es es.size) ∧ MapOK M w kt L es
 | .mit m n seen=>seen.Nodup ∧ (∀ i ∈ seen,i < n) ∧ ∃ mb,rep M w m g (.map (some mb)) ∧ w.heap[b]? = some (.mapIter (some mb) n seen.toArray n)
 | .rwg n sz c=>n ≤ cap ∧ cap ≤ maxLen ∧ ∃ cs t,w.heap[b]? = some (.cells cs t (0,0)) ∧ cs.size = cap * sz ∧ ∀ k,k < n → ∀ o,o < sz → ∃ u,cs[k * sz + o]? = some u ∧ u.oneCell' = true ∧ rep M w (c k o) g u
theorem ABOK.lt {M:Nat → Prop} {g:GM} {w:World} {b cap:Nat} {x:AB} (h:ABOK M g w b cap x) (hl:x.live):b < w.heap.size:=by
 cases x with
 | dead=>exact hl.elim
 | box m c=>obtain ⟨cs,t,h1,_⟩:=h;exact lt_of_heap h1
 | row n sz c=>obtain ⟨_,_,cs,t,h1,_⟩:=h;exact lt_of_heap h1
 | mp kt L=>obtain ⟨es,h1,_⟩:=h;exact lt_of_heap h1
 | mit m n seen=>obtain ⟨_,_,mb,_,h1⟩:=h;exact lt_of_heap h1
 | rwg n sz c=>obtain ⟨_,_,cs,t,h1,_⟩:=h;exact lt_of_heap h1
theorem HOK.all {g:GM} {w:World} {h:List AB} (k:HOK F g w h) {d b cap:Nat} {x:AB} (hx:h[d]? = some x) (hg:g d = some (b,cap)):ABOK (MM F g h) g w b cap x:=by
 cases x with
 | dead=>trivial
 | box m c=>exact k.box d m c b cap hx hg
 | row n sz c=>exact k.row d n sz c b cap hx hg
 | mp kt L=>exact k.mp d kt L b cap hx hg
 | mit m n seen=>exact k.mit d m n seen b cap hx hg
 | rwg n sz c=>exact k.rwg d n sz c b cap hx hg
theorem HOK.of_all {g:GM} {w:World} {h:List AB} (dom:∀ d,h.length ≤ d → g d = none) (lv:∀ d,live h d → ∃ p,g d = some p)
  (inj:∀ d d' b c c',live h d → live h d' → g d = some (b,c) → g d' = some (b,c') → d = d')
  (all:∀ d b cap x,h[d]? = some x → g d = some (b,cap) → ABOK (MM F g h) g w b cap x) (fr:∀ b,F b → b < w.heap.size ∧ ¬ MO g h b):HOK F g w h :=
 ⟨dom,lv,inj,fun d _ _ b cap hd hg=>all d b cap _ hd hg,fun d _ _ _ b cap hd hg=>all d b cap _ hd hg,fun d _ _ b cap hd hg=>all d b cap _ hd hg,fun d _ _ _ b cap hd hg=>all d b cap _ hd hg,fun d _ _ _ b cap hd hg=>all d b cap _ hd hg,fr⟩
theorem ABOK.mono {M M':Nat → Prop} {g g':GM} {w w':World} {b cap:Nat} {x:AB} (h:ABOK M g w b cap x) (hc:Chg M w w') (hM:∀ b,b < w.heap.size → M' b → M b) (hg:g.le g') (hb:w'.heap[b]? = w.heap[b]?):ABOK M' g' w' b cap x:=by
 cases x with
 | dead=>trivial
 | box m c =>
  obtain ⟨cs,t,h1,h2,h3⟩:=h
  refine ⟨cs,t,hb.trans h1,h2,fun i hi=>?_⟩
  obtain ⟨u,hu,h1c,hr⟩:=h3 i hi
  exact ⟨u,hu,h1c,rep_mono hc hM _ hg hr⟩
 | row n sz c =>
  obtain ⟨hn,hm,cs,t,h1,h2,h3⟩:=h
  refine ⟨hn,hm,cs,t,hb.trans h1,h2,fun kk hk o ho=>?_⟩
  obtain ⟨u,hu,h1c,hr⟩:=h3 kk hk o ho
  exact ⟨u,hu,h1c,rep_mono hc hM _ (GM.le_refl _) hr⟩
 | mp kt L =>
  obtain ⟨es,h1,h2⟩:=h
  exact ⟨es,hb.trans h1,h2.mono hc hM⟩
 | mit m n seen =>
  obtain ⟨h1,h2,mb,h3,h4⟩:=h
  exact ⟨h1,h2,mb,rep_mono hc hM _ hg h3,hb.trans h4⟩
 | rwg n sz c =>
  obtain ⟨hn,hm,cs,t,h1,h2,h3⟩:=h
  refine ⟨hn,hm,cs,t,hb.trans h1,h2,fun kk hk o ho=>?_⟩
  obtain ⟨u,hu,h1c,hr⟩:=h3 kk hk o ho
  exact ⟨u,hu,h1c,rep_mono hc hM _ hg hr⟩

/-- A world in which nothing of the call's own has changed, and no block is new to it. -/
theorem HOK.keep {g:GM} {w w':World} {h:List AB} (k:HOK F g w h) (hc:Chg (fun _=>False) w w'):HOK F g w' h:=by
 have hc':Chg (MM F g h) w w':=hc.weak (fun _ _ h=>h.elim)
 refine HOK.of_all k.dom k.lv k.inj (fun d b cap x hx hg=>?_) (fun b hb=>⟨Nat.lt_of_lt_of_le (k.fr b hb).1 hc.size,(k.fr b hb).2⟩)
 by_cases hl:x.live
 ·exact (k.all hx hg).mono hc' (fun _ _ h=>h) (GM.le_refl _) (hc.block b ((k.all hx hg).lt hl) (fun h=>h))
 ·cases x with
  | dead=>trivial
  | box=>exact (hl trivial).elim
  | row=>exact (hl trivial).elim
  | mp=>exact (hl trivial).elim
  | mit=>exact (hl trivial).elim
  | rwg=>exact (hl trivial).elim
theorem Tr.keep {g:GM} {h:List AB} {w w':World} (k:HOK F g w h) (hc:Chg (fun _=>False) w w'):Tr F g h w g h w':=⟨k.keep hc,GM.le_refl _,hc.weak (fun _ _ h=>h.elim),fun _ h=>.inl h⟩

theorem live_set {h:List AB} {d d':Nat} {x:AB} (hl:live (h.set d x) d'):(d' = d ∧ x.live) ∨ (d' ≠ d ∧ live h d'):=by
 obtain ⟨y,hy,hyl⟩:=hl
 by_cases e:d' = d
 ·subst e
  rw [List.getElem?_set] at hy
  simp only [if_true] at hy
  split at hy
  ·injection hy with hy;subst hy;exact .inl ⟨rfl,hyl⟩
  ·cases hy
 ·rw [List.getElem?_set_ne (fun h=>e h.symm)] at hy
  exact .inr ⟨e,y,hy,hyl⟩
theorem live_set_ne {h:List AB} {d d':Nat} {x:AB} (e:d' ≠ d) (hl:live h d'):live (h.set d x) d':=by
 obtain ⟨y,hy,hyl⟩:=hl
 exact ⟨y,by rw [List.getElem?_set_ne (fun h=>e h.symm)];exact hy,hyl⟩
theorem live_set_eq {h:List AB} {d:Nat} {x:AB} (hd:d < h.length) (hl:x.live):live (h.set d x) d :=
 ⟨x,by rw [List.getElem?_set];simp [hd],hl⟩
theorem live_push {h:List AB} {d:Nat} {x:AB} (hl:live (h ++ [x]) d):live h d ∨ (d = h.length ∧ x.live):=by
 obtain ⟨y,hy,hyl⟩:=hl
 rcases Nat.lt_trichotomy d h.length with hd|hd|hd
 ·rw [List.getElem?_append_left hd] at hy;exact .inl ⟨y,hy,hyl⟩
 ·subst hd
  simp at hy
  subst hy
  exact .inr ⟨rfl,hyl⟩
 ·rw [List.getElem?_append_right (by omega)] at hy
  rw [List.getElem?_eq_none (by simp;omega)] at hy
  cases hy
theorem live_push_old {h:List AB} {d:Nat} {x:AB} (hl:live h d):live (h ++ [x]) d:=by
 obtain ⟨y,hy,hyl⟩:=hl
 have hd:d < h.length:=by
  rcases Nat.lt_or_ge d h.length with h'|h'
  ·exact h'
  ·rw [List.getElem?_eq_none h'] at hy;cases hy
 exact ⟨y,by rw [List.getElem?_append_left hd];exact hy,hyl⟩

/-- A block of the call's own is let go. -/
theorem Tr.kill {g:GM} {w:World} {h:List AB} (k:HOK F g w h) (d:Nat):Tr F g h w g (h.set d .dead) w:=by
 have hO:∀ b,MO g (h.set d .dead) b → MO g h b:=by
  rintro b ⟨d',cap,hl,hg⟩
  rcases live_set hl with ⟨_,h'⟩|⟨_,h'⟩
  ·exact h'.elim
  ·exact ⟨d',cap,h',hg⟩
 have hM:∀ b,MM F g (h.set d .dead) b → MM F g h b:=fun b=>Or.imp id (hO b)
 refine ⟨HOK.of_all (fun d' hd=>k.dom d' (by simpa using hd)) (fun d' hl=>?_) (fun d1 d2 b c c' h1 h2=>?_) (fun d' b cap x hx hg=>?_) (fun b hb=>⟨(k.fr b hb).1,fun h=>(k.fr b hb).2 (hO b h)⟩),GM.le_refl _,Chg.refl _ _,fun b hb=>.inl (hO b hb)⟩
 ·rcases live_set hl with ⟨_,h'⟩|⟨_,h'⟩
  ·exact h'.elim
  ·exact k.lv d' h'
 ·rcases live_set h1 with ⟨_,h'⟩|⟨_,h1'⟩
  ·exact h'.elim
  rcases live_set h2 with ⟨_,h'⟩|⟨_,h2'⟩
  ·exact h'.elim
  exact k.inj d1 d2 b c c' h1' h2'
 ·by_cases e:d' = d
  ·subst e
   rw [List.getElem?_set] at hx
   simp only [if_true] at hx
   split at hx
   ·injection hx with hx;subst hx;trivial
   ·cases hx
  ·rw [List.getElem?_set_ne (fun h=>e h.symm)] at hx
   exact (k.all hx hg).mono (Chg.refl _ _) (fun b _=>hM b) (GM.le_refl _) rfl
theorem MM_kill {g:GM} {w:World} {h:List AB} (k:HOK F g w h) {d b cap:Nat} (hl:live h d) (hg:g d = some (b,cap)):¬ MO g (h.set d .dead) b:=by
 rintro ⟨d',cap',hl',hg'⟩
 rcases live_set hl' with ⟨_,h'⟩|⟨hne,h'⟩
 ·exact h'.elim
 ·exact hne (k.inj d' d b cap' cap h' hl hg' hg)

def GM.push (g:GM) (n:Nat) (p:Nat × Nat):GM:=fun d=>if d = n then some p else g d
theorem GM.le_push {g:GM} {w:World} {h:List AB} (k:HOK F g w h) (p:Nat × Nat):g.le (g.push h.length p):=fun d q hd=>by
 have:=k.lt hd
 simp [GM.push,Nat.ne_of_lt this,hd]
theorem MO_push {g:GM} {w:World} {h:List AB} (k:HOK F g w h) {b cap:Nat} {x:AB} {b':Nat} (hm:MO (g.push h.length (b,cap)) (h ++ [x]) b'):MO g h b' ∨ (b' = b ∧ x.live):=by
 obtain ⟨d,c',hl,hg⟩:=hm
 rcases live_push hl with hl'|⟨e,hxl⟩
 ·obtain ⟨p,hp⟩:=k.lv d hl'
  have:=k.lt hp
  simp only [GM.push,Nat.ne_of_lt this,if_false] at hg
  exact .inl ⟨d,c',hl',hg⟩
 ·subst e
  simp only [GM.push,if_true] at hg
  injection hg with hg
  injection hg with hg1 hg2
  exact .inr ⟨hg1.symm,hxl⟩
theorem MM_push {g:GM} {w:World} {h:List AB} (k:HOK F g w h) {b cap:Nat} {x:AB} {b':Nat} (hm:MM F (g.push h.length (b,cap)) (h ++ [x]) b'):MM F g h b' ∨ (b' = b ∧ x.live):=by
 rcases hm with hF|hm
 ·exact .inl (.inl hF)
 ·exact (MO_push k hm).imp .inr id
/-- A new block, whose contents are in place. -/
theorem Tr.push {g:GM} {w w':World} {h:List AB} (k:HOK F g w h) {b cap:Nat} {x:AB} (hc:Chg (fun _=>False) w w') (hbn':w.heap.size ≤ b)
  (hx:ABOK (MM F (g.push h.length (b,cap)) (h ++ [x])) (g.push h.length (b,cap)) w' b cap x):Tr F g h w (g.push h.length (b,cap)) (h ++ [x]) w':=by
 have hb:¬ MO g h b:=fun hm=>by have:=k.olt hm;omega
 have hle:=GM.le_push k (b,cap)
 have hc':Chg (MM F g h) w w':=hc.weak (fun _ _ h=>h.elim)
 have hM:∀ x',x' < w.heap.size → MM F (g.push h.length (b,cap)) (h ++ [x]) x' → MM F g h x':=fun x' hx' hm=>(MM_push k hm).resolve_right (fun ⟨e,_⟩=>by omega)
 refine ⟨HOK.of_all (fun d hd=>?_) (fun d hl=>?_) (fun d1 d2 b1 c c' h1 h2 g1 g2=>?_) (fun d b1 cap1 y hy hg=>?_) (fun y hy=>⟨Nat.lt_of_lt_of_le (k.fr y hy).1 hc.size,fun hm=>?_⟩),hle,hc.weak (fun _ _ h=>h.elim),fun x' hm=>?_⟩
 ·rw [List.length_append,List.length_singleton] at hd
  have e:d ≠ h.length:=by omega
  simp only [GM.push,e,if_false]
  exact k.dom d (by omega)
 ·rcases live_push hl with hl|⟨rfl,_⟩
  ·obtain ⟨p,hp⟩:=k.lv d hl
   exact ⟨p,hle _ _ hp⟩
  ·exact ⟨(b,cap),by simp [GM.push]⟩
 ·have old:∀ d,live h d → ∃ q,g d = some q ∧ d ≠ h.length:=fun d hl=>by
   obtain ⟨p,hp⟩:=k.lv d hl
   exact ⟨p,hp,Nat.ne_of_lt (k.lt hp)⟩
  rcases live_push h1 with h1|⟨rfl,_⟩ <;> rcases live_push h2 with h2|⟨rfl,_⟩
  ·obtain ⟨q1,e1,n1⟩:=old d1 h1
   obtain ⟨q2,e2,n2⟩:=old d2 h2
   simp only [GM.push,n1,n2,if_false] at g1 g2
   exact k.inj d1 d2 b1 c c' h1 h2 g1 g2
  ·obtain ⟨q1,e1,n1⟩:=old d1 h1
   simp only [GM.push,n1,if_false,if_true] at g1 g2
   injection g2 with g2
   injection g2 with g2 _
   subst g2
   exact (hb ⟨d1,c,h1,g1⟩).elim
  ·obtain ⟨q2,e2,n2⟩:=old d2 h2
   simp only [GM.push,n2,if_false,if_true] at g1 g2
   injection g1 with g1
   injection g1 with g1 _
   subst g1
   exact (hb ⟨d2,c',h2,g2⟩).elim
  ·rfl
 ·rcases Nat.lt_trichotomy d h.length with hd|hd|hd
  ·rw [List.getElem?_append_left hd] at hy
   simp only [GM.push,Nat.ne_of_lt hd,if_false] at hg
   by_cases hl:y.live
   ·have hlt:b1 < w.heap.size:=(k.all hy hg).lt hl
    exact (k.all hy hg).mono hc' hM hle (hc.block b1 hlt (fun h=>h))
   ·cases y with
    | dead=>trivial
    | box=>exact (hl trivial).elim
    | row=>exact (hl trivial).elim
    | mp=>exact (hl trivial).elim
    | mit=>exact (hl trivial).elim
    | rwg=>exact (hl trivial).elim
  ·subst hd
   simp only [GM.push,if_true] at hg
   injection hg with hg
   injection hg with hg1 hg2
   subst hg1;subst hg2
   simp at hy
   subst hy
   exact hx
  ·rw [List.getElem?_append_right (by omega),List.getElem?_eq_none (by simp;omega)] at hy
   cases hy
 ·rcases MO_push k hm with h'|⟨rfl,_⟩
  ·exact (k.fr y hy).2 h'
  ·have:=(k.fr y hy).1;omega
 ·rcases MO_push k hm with h'|⟨rfl,_⟩
  ·exact .inl h'
  ·exact .inr hbn'
/-- A row of the call's own under a new name. -/
theorem Tr.move {g:GM} {w:World} {h:List AB} (k:HOK F g w h) {d b cap:Nat} {x:AB} (hl:live h d) (hg:g d = some (b,cap)) (hx:ABOK (MM F g h) g w b cap x):Tr F g h w (g.push h.length (b,cap)) (h.set d .dead ++ [x]) w:=by
 have hd:d < h.length:=k.lt hg
 have kk:=(Tr.kill k d).ok
 have hlen:(h.set d .dead).length = h.length:=by simp
 have hle:=GM.le_push k (b,cap)
 have hMk:∀ y,MO g (h.set d .dead) y → MO g h y:=fun y hy=>((Tr.kill k d).new y hy).resolve_right (fun h'=>by have:=kk.olt hy;omega)
 have hO:∀ y,MO (g.push h.length (b,cap)) (h.set d .dead ++ [x]) y → MO g h y:=fun y hy=>by
  have:=MO_push kk (b:=b) (cap:=cap) (x:=x) (b':=y) (by rw [hlen];exact hy)
  rcases this with h'|⟨rfl,_⟩
  ·exact hMk y h'
  ·exact ⟨d,cap,hl,hg⟩
 have hM:∀ y,MM F (g.push h.length (b,cap)) (h.set d .dead ++ [x]) y → MM F g h y:=fun y=>Or.imp id (hO y)
 have old:∀ d',live (h.set d .dead) d' → live h d' ∧ d' ≠ d ∧ d' ≠ h.length ∧ ∃ q,g d' = some q:=fun d' hl'=>by
  rcases live_set hl' with ⟨_,h'⟩|⟨hne,h'⟩
  ·exact h'.elim
  ·obtain ⟨p,hp⟩:=k.lv d' h'
   exact ⟨h',hne,Nat.ne_of_lt (k.lt hp),p,hp⟩
 have lp:∀ d',live (h.set d .dead ++ [x]) d' → live (h.set d .dead) d' ∨ d' = h.length:=fun d' hl'=>by
  rcases live_push hl' with h'|⟨e,_⟩
  ·exact .inl h'
  ·exact .inr (by rw [e,hlen])
 refine ⟨HOK.of_all (fun d' hd'=>?_) (fun d' hl'=>?_) (fun d1 d2 b1 c c' h1 h2 g1 g2=>?_) (fun d' b1 cap1 y hy hg1=>?_) (fun y hy=>⟨(k.fr y hy).1,fun h=>(k.fr y hy).2 (hO y h)⟩),hle,Chg.refl _ _,fun y hy=>.inl (hO y hy)⟩
 ·rw [List.length_append,List.length_singleton,hlen] at hd'
  have e:d' ≠ h.length:=by omega
  simp only [GM.push,e,if_false]
  exact k.dom d' (by omega)
 ·rcases lp d' hl' with h'|rfl
  ·obtain ⟨_,_,_,q,hq⟩:=old d' h'
   exact ⟨q,hle _ _ hq⟩
  ·exact ⟨(b,cap),by simp [GM.push]⟩
 ·rcases lp d1 h1 with h1|rfl <;> rcases lp d2 h2 with h2|rfl
  ·obtain ⟨l1,_,n1,_⟩:=old d1 h1
   obtain ⟨l2,_,n2,_⟩:=old d2 h2
   simp only [GM.push,n1,n2,if_false] at g1 g2
   exact k.inj d1 d2 b1 c c' l1 l2 g1 g2
  ·obtain ⟨l1,m1,n1,_⟩:=old d1 h1
   simp only [GM.push,n1,if_false,if_true] at g1 g2
   injection g2 with g2
   injection g2 with g2 _
   subst g2
   exact (m1 (k.inj d1 d b c cap l1 hl g1 hg)).elim
  ·obtain ⟨l2,m2,n2,_⟩:=old d2 h2
   simp only [GM.push,n2,if_false,if_true] at g1 g2
   injection g1 with g1
   injection g1 with g1 _
   subst g1
   exact (m2 (k.inj d2 d b c' cap l2 hl g2 hg)).elim
  ·rfl
 ·rcases Nat.lt_trichotomy d' h.length with hd'|hd'|hd'
  ·rw [List.getElem?_append_left (by rw [hlen];exact hd')] at hy
   simp only [GM.push,Nat.ne_of_lt hd',if_false] at hg1
   by_cases e:d' = d
   ·subst e
    rw [List.getElem?_set] at hy
    simp only [if_true,hd] at hy
    injection hy with hy
    subst hy
    trivial
   ·rw [List.getElem?_set_ne (fun h=>e h.symm)] at hy
    exact (k.all hy hg1).mono (Chg.refl _ _) (fun y _=>hM y) hle rfl
  ·subst hd'
   simp only [GM.push,if_true] at hg1
   injection hg1 with hg1
   injection hg1 with e1 e2
   subst e1;subst e2
   rw [List.getElem?_append_right (by rw [hlen];exact Nat.le_refl _),hlen] at hy
   simp at hy
   subst hy
   exact hx.mono (Chg.refl _ _) (fun y _=>hM y) hle rfl
  ·rw [List.getElem?_append_right (by rw [hlen];omega),List.getElem?_eq_none (by rw [hlen];simp;omega)] at hy
   cases hy
/-- A block of the call's own gets other contents. -/
theorem Tr.upd {g:GM} {w w':World} {h:List AB} (k:HOK F g w h) {d b cap:Nat} {x:AB} (hl:live h d) (hg:g d = some (b,cap)) (hxl:x.live) (hc:Chg (fun y=>y = b) w w')
  (hx:ABOK (MM F g h) g w' b cap x):Tr F g h w g (h.set d x) w':=by
 have hd:d < h.length:=k.lt hg
 have hM:∀ y,MO g (h.set d x) y ↔ MO g h y:=fun y=>by
  constructor
  ·rintro ⟨d',c',hl',hg'⟩
   rcases live_set hl' with ⟨rfl,_⟩|⟨_,h'⟩
   ·exact ⟨d',c',hl,hg'⟩
   ·exact ⟨d',c',h',hg'⟩
  ·rintro ⟨d',c',hl',hg'⟩
   by_cases e:d' = d
   ·subst e;exact ⟨d',c',live_set_eq hd hxl,hg'⟩
   ·exact ⟨d',c',live_set_ne e hl',hg'⟩
 have hMe:MM F g (h.set d x) = MM F g h:=funext fun y=>propext ⟨Or.imp id (hM y).1,Or.imp id (hM y).2⟩
 have hco:Chg (MO g h) w w':=hc.weak (fun y _ e=>by subst e;exact ⟨d,cap,hl,hg⟩)
 have hc':Chg (MM F g h) w w':=hco.weak (fun y _ e=>.inr e)
 have back:∀ d',live (h.set d x) d' → live h d':=fun d' hl'=>by
  rcases live_set hl' with ⟨rfl,_⟩|⟨_,h'⟩
  ·exact hl
  ·exact h'
 refine ⟨HOK.of_all (fun d' hd'=>k.dom d' (by simpa using hd')) (fun d' hl'=>k.lv d' (back d' hl')) (fun d1 d2 b1 c c' h1 h2=>k.inj d1 d2 b1 c c' (back _ h1) (back _ h2)) (fun d' b1 cap1 y hy hg1=>?_) (fun y hy=>⟨Nat.lt_of_lt_of_le (k.fr y hy).1 hc.size,fun h=>(k.fr y hy).2 ((hM y).1 h)⟩),GM.le_refl _,hco,fun y hy=>.inl ((hM y).1 hy)⟩
 rw [hMe]
 by_cases e:d' = d
 ·subst e
  rw [List.getElem?_set] at hy
  simp only [if_true,hd] at hy
  injection hy with hy
  subst hy
  rw [hg] at hg1
  injection hg1 with hg1
  injection hg1 with e1 e2
  subst e1;subst e2
  exact hx
 ·rw [List.getElem?_set_ne (fun h=>e h.symm)] at hy
  by_cases hyl:y.live
  ·have hlt:b1 < w.heap.size:=(k.all hy hg1).lt hyl
   have hne:b1 ≠ b:=fun e'=>by
    subst e'
    exact e (k.inj d' d b1 cap1 cap ⟨y,hy,hyl⟩ hl hg1 hg)
   exact (k.all hy hg1).mono hc' (fun _ _ h=>h) (GM.le_refl _) (hc.block b1 hlt hne)
  ·cases y with
   | dead=>trivial
   | box=>exact (hyl trivial).elim
   | row=>exact (hyl trivial).elim
   | mp=>exact (hyl trivial).elim
   | mit=>exact (hyl trivial).elim
   | rwg=>exact (hyl trivial).elim
end
end Go.Proofs.YtodpjdmdmmnlpaaGreat
