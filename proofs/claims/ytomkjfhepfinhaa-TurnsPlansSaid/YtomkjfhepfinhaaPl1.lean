/- An abstract reading of code: abstract values, a heap of the call's own blocks, and what they say of a world / The operations of code over abstract values: what each asks and gives / From the operations of code to the abstract ones; those that change nothing are sound / The operations that change nothing: abstract and real agree / The arithmetic, comparing and other plain operations: abstract and real agree / The operations that make or write memory: abstract and real agree -/
import Derived.WalkKit
import Derived.Laws.AppendOwn
import Derived.Lib.Hide
import Derived.Orders
import Derived.WalkSpells
import Derived.WalkLawsBesides
import Derived.Laws.StructEq
import Derived.Laws.MakeOwn
import Derived.Laws.CopyRow

namespace Go.Proofs.Ytomkjfhepfinhaa
open Go.RowKit

/-- Abstract values. -/
inductive AV where
  | bot
  | int (k : IntKind) (n : Int)
  | bool (b : Bool)
  | nilp
  | nilf
  | sl (z e : Bool) (n sz : Nat) (c : Nat → Nat → AV)
  | ip (m : Nat) (c : Nat → AV) (o : Nat)
  | own (d n : Nat)
  | ptr (d o : Nat)
  | rp (d sz k o : Nat)
  | osl (d sz lo n : Nat)
  | fn (f : FuncId) (m : Nat) (c : Nat → AV)
  | agg (m : Nat) (c : Nat → AV)
  | tup (m : Nat) (c : Nat → AV)
  deriving Inhabited

abbrev GM := Nat → Option (Nat × Nat)
def g0 : GM := fun _ => none
def GM.le (g g' : GM) : Prop := ∀ d p, g d = some p → g' d = some p
theorem GM.le_refl (g : GM) : g.le g := fun _ _ h => h
theorem GM.le_trans {a b c : GM} (h : a.le b) (k : b.le c) : a.le c := fun d p x => k d p (h d p x)
theorem g0_le (g : GM) : g0.le g := fun d p h => by cases h

/-- What an abstract value says of a value. M: the blocks that the call may write. -/
def rep (M : Nat → Prop) (w : World) : AV → GM → Value → Prop
  | .bot, _, _ => True
  | .int k n, _, v => v = .int k n
  | .bool b, _, v => v = .bool b
  | .nilp, _, v => v = .pointer none
  | .nilf, _, v => v = .nilFunc
  | .sl z e n sz c, _, v => ∃ A cap, v = .slice A n cap ∧ (z = true ↔ A = none) ∧ (A = none → n = 0 ∧ cap = 0) ∧ (e = true → cap = n) ∧ n ≤ cap ∧
      ∀ k, k < n → ∀ o, o < sz → ∃ b off u, A = some ⟨b, off, none⟩ ∧ b < w.heap.size ∧ ¬ M b ∧ w.cell? ⟨b, off + k * sz + o, none⟩ = some u ∧ u.oneCell' = true ∧ rep M w (c k o) g0 u
  | .ip m c o, _, v => ∃ b off, v = .pointer (some ⟨b, off + o, none⟩) ∧ b < w.heap.size ∧ ¬ M b ∧ ∀ i, i < m → ∃ u, w.cell? ⟨b, off + i, none⟩ = some u ∧ u.oneCell' = true ∧ rep M w (c i) g0 u
  | .own d n, g, v => ∃ b cap, g d = some (b, cap) ∧ v = .slice (some ⟨b, 0, none⟩) n cap ∧ n ≤ cap
  | .ptr d o, g, v => ∃ b cap, g d = some (b, cap) ∧ v = .pointer (some ⟨b, o, none⟩)
  | .rp d sz k o, g, v => ∃ b cap, g d = some (b, cap) ∧ v = .pointer (some ⟨b, k * sz + o, none⟩)
  | .osl d sz lo n, g, v => ∃ b cap p, g d = some (b, cap) ∧ v = .slice (some ⟨b, p, none⟩) n (cap - lo) ∧ lo + n ≤ cap ∧ (lo < cap → p = lo * sz)
  | .fn f m c, g, v => ∃ cs, v = .func (.func f) #[] cs ∧ cs.size = m ∧ ∀ i, i < m → ∃ u, cs[i]? = some u ∧ rep M w (c i) g u
  | .agg m c, g, v => ∃ cs, v = .agg cs ∧ cs.size = m ∧ ∀ i, i < m → ∃ u, cs[i]? = some u ∧ u.oneCell' = true ∧ rep M w (c i) g u
  | .tup m c, g, v => ∃ cs, v = .tuple cs ∧ cs.size = m ∧ ∀ i, i < m → ∃ u, cs[i]? = some u ∧ rep M w (c i) g u

/-- A world that has changed only in the blocks of M. -/
structure Chg (M : Nat → Prop) (w w' : World) : Prop where
  os : w'.os = w.os
  tape : w'.tape = w.tape
  output : w'.output = w.output
  size : w.heap.size ≤ w'.heap.size
  block : ∀ b, b < w.heap.size → ¬ M b → w'.heap[b]? = w.heap[b]?
theorem Chg.refl (M : Nat → Prop) (w : World) : Chg M w w := ⟨rfl, rfl, rfl, Nat.le_refl _, fun _ _ _ => rfl⟩
theorem Chg.trans {M M' : Nat → Prop} {a b c : World} (h : Chg M a b) (k : Chg M' b c) (hm : ∀ x, x < a.heap.size → M' x → M x) : Chg M a c :=
  ⟨k.os.trans h.os, k.tape.trans h.tape, k.output.trans h.output, Nat.le_trans h.size k.size, fun x hx hn => (k.block x (Nat.lt_of_lt_of_le hx h.size) (fun hM => hn (hm x hx hM))).trans (h.block x hx hn)⟩
theorem Chg.weak {M M' : Nat → Prop} {a b : World} (h : Chg M a b) (hm : ∀ x, x < a.heap.size → M x → M' x) : Chg M' a b :=
  ⟨h.os, h.tape, h.output, h.size, fun x hx hn => h.block x hx (fun hM => hn (hm x hx hM))⟩
theorem Chg.cell {M : Nat → Prop} {w w' : World} (h : Chg M w w') {b off : Nat} {sp : Option Nat} (hb : b < w.heap.size) (hn : ¬ M b) : w'.cell? ⟨b, off, sp⟩ = w.cell? ⟨b, off, sp⟩ := by
  simp only [World.cell?, h.block b hb hn]
theorem Chg.drew (M : Nat → Prop) (w : World) : Chg M w w.drew := ⟨rfl, rfl, rfl, Nat.le_refl _, fun _ _ _ => rfl⟩
theorem Chg.alloc (M : Nat → Prop) (w : World) (o : Obj) : Chg M w (w.alloc o) :=
  have h := (Below.refl w.heap.size w).alloc (Nat.le_refl _) o
  ⟨h.os, h.tape, h.output, h.size, fun b hb _ => h.block b hb⟩

theorem rep_mono {M M' : Nat → Prop} {w w' : World} (hc : Chg M w w') (hM : ∀ b, b < w.heap.size → M' b → M b) : ∀ (v : AV) {g g' : GM} {u : Value}, g.le g' → rep M w v g u → rep M' w' v g' u := by
  intro v
  induction v with
  | bot => intros; trivial
  | int k n => intro g g' u _ h; exact h
  | bool b => intro g g' u _ h; exact h
  | nilp => intro g g' u _ h; exact h
  | nilf => intro g g' u _ h; exact h
  | sl z e n sz c ih =>
    intro g g' u _ h
    obtain ⟨A, cap, h1, h2, h3, h4, h4', h5⟩ := h
    refine ⟨A, cap, h1, h2, h3, h4, h4', fun k hk o ho => ?_⟩
    obtain ⟨b, off, x, hA, hb, hn, hcell, h1c, hr⟩ := h5 k hk o ho
    exact ⟨b, off, x, hA, Nat.lt_of_lt_of_le hb hc.size, fun h' => hn (hM b hb h'), (hc.cell hb hn).trans hcell, h1c, ih k o (GM.le_refl _) hr⟩
  | ip m c o ih =>
    intro g g' u _ h
    obtain ⟨b, off, h1, hb, hn, h5⟩ := h
    refine ⟨b, off, h1, Nat.lt_of_lt_of_le hb hc.size, fun h' => hn (hM b hb h'), fun i hi => ?_⟩
    obtain ⟨x, hcell, h1c, hr⟩ := h5 i hi
    exact ⟨x, (hc.cell hb hn).trans hcell, h1c, ih i (GM.le_refl _) hr⟩
  | own d n =>
    intro g g' u hg h
    obtain ⟨b, cap, h1, h2⟩ := h
    exact ⟨b, cap, hg _ _ h1, h2⟩
  | ptr d o =>
    intro g g' u hg h
    obtain ⟨b, cap, h1, h2⟩ := h
    exact ⟨b, cap, hg _ _ h1, h2⟩
  | rp d sz k o =>
    intro g g' u hg h
    obtain ⟨b, cap, h1, h2⟩ := h
    exact ⟨b, cap, hg _ _ h1, h2⟩
  | osl d sz lo n =>
    intro g g' u hg h
    obtain ⟨b, cap, p, h1, h2⟩ := h
    exact ⟨b, cap, p, hg _ _ h1, h2⟩
  | fn f m c ih =>
    intro g g' u hg h
    obtain ⟨cs, h1, h2, h3⟩ := h
    refine ⟨cs, h1, h2, fun i hi => ?_⟩
    obtain ⟨x, hx, hr⟩ := h3 i hi
    exact ⟨x, hx, ih i hg hr⟩
  | agg m c ih =>
    intro g g' u hg h
    obtain ⟨cs, h1, h2, h3⟩ := h
    refine ⟨cs, h1, h2, fun i hi => ?_⟩
    obtain ⟨x, hx, h1c, hr⟩ := h3 i hi
    exact ⟨x, hx, h1c, ih i hg hr⟩
  | tup m c ih =>
    intro g g' u hg h
    obtain ⟨cs, h1, h2, h3⟩ := h
    refine ⟨cs, h1, h2, fun i hi => ?_⟩
    obtain ⟨x, hx, hr⟩ := h3 i hi
    exact ⟨x, hx, ih i hg hr⟩

theorem rep_up {M : Nat → Prop} {w : World} {v : AV} {g g' : GM} {u : Value} (hg : g.le g') (h : rep M w v g u) : rep M w v g' u := rep_mono (Chg.refl M w) (fun _ _ h => h) v hg h

/-- Values that name no block of the call's own. -/
def AV.pure : AV → Prop
  | .own .. | .ptr .. | .rp .. | .osl .. => False
  | .fn _ m c | .agg m c | .tup m c => ∀ i, i < m → (c i).pure
  | _ => True
theorem rep_pure {M : Nat → Prop} {w : World} : ∀ (v : AV) {g : GM} {u : Value}, v.pure → rep M w v g u → rep M w v g0 u := by
  intro v
  induction v with
  | bot => intros; trivial
  | int k n => intro g u _ h; exact h
  | bool b => intro g u _ h; exact h
  | nilp => intro g u _ h; exact h
  | nilf => intro g u _ h; exact h
  | sl z e n sz c ih => intro g u _ h; exact h
  | ip m c o ih => intro g u _ h; exact h
  | own d n => intro g u hp; exact hp.elim
  | ptr d o => intro g u hp; exact hp.elim
  | rp d sz k o => intro g u hp; exact hp.elim
  | osl d sz lo n => intro g u hp; exact hp.elim
  | fn f m c ih =>
    intro g u hp h
    obtain ⟨cs, h1, h2, h3⟩ := h
    refine ⟨cs, h1, h2, fun i hi => ?_⟩
    obtain ⟨x, hx, hr⟩ := h3 i hi
    exact ⟨x, hx, ih i (hp i hi) hr⟩
  | agg m c ih =>
    intro g u hp h
    obtain ⟨cs, h1, h2, h3⟩ := h
    refine ⟨cs, h1, h2, fun i hi => ?_⟩
    obtain ⟨x, hx, h1c, hr⟩ := h3 i hi
    exact ⟨x, hx, h1c, ih i (hp i hi) hr⟩
  | tup m c ih =>
    intro g u hp h
    obtain ⟨cs, h1, h2, h3⟩ := h
    refine ⟨cs, h1, h2, fun i hi => ?_⟩
    obtain ⟨x, hx, hr⟩ := h3 i hi
    exact ⟨x, hx, ih i (hp i hi) hr⟩

/-- Values of one cell. -/
def AV.one : AV → Bool
  | .bot | .agg .. | .tup .. => false
  | _ => true
theorem one_of_rep {M : Nat → Prop} {w : World} {v : AV} {g : GM} {u : Value} (h1 : v.one = true) (h : rep M w v g u) : u.oneCell' = true ∧ u.cells = #[u] := by
  cases v <;> simp only [AV.one, Bool.false_eq_true] at h1 <;> simp only [rep] at h
  case int => subst h; exact ⟨rfl, rfl⟩
  case bool => subst h; exact ⟨rfl, rfl⟩
  case nilp => subst h; exact ⟨rfl, rfl⟩
  case nilf => subst h; exact ⟨rfl, rfl⟩
  case sl => obtain ⟨A, cap, rfl, _⟩ := h; exact ⟨rfl, rfl⟩
  case ip => obtain ⟨b, off, rfl, _⟩ := h; exact ⟨rfl, rfl⟩
  case own => obtain ⟨b, cap, _, rfl, _⟩ := h; exact ⟨rfl, rfl⟩
  case ptr => obtain ⟨b, cap, _, rfl⟩ := h; exact ⟨rfl, rfl⟩
  case rp => obtain ⟨b, cap, _, rfl⟩ := h; exact ⟨rfl, rfl⟩
  case osl => obtain ⟨b, cap, p, _, rfl, _⟩ := h; exact ⟨rfl, rfl⟩
  case fn => obtain ⟨cs, rfl, _⟩ := h; exact ⟨rfl, rfl⟩

/-- The call's own blocks: a variable of m cells, or a row of n elements of sz cells each. -/
inductive AB where
  | dead
  | box (m : Nat) (c : Nat → AV)
  | row (n sz : Nat) (c : Nat → Nat → AV)
  deriving Inhabited
def AB.live : AB → Prop
  | .dead => False
  | _ => True
def live (h : List AB) (d : Nat) : Prop := ∃ b, h[d]? = some b ∧ b.live
/-- The blocks that the call may write. -/
def MO (g : GM) (h : List AB) (b : Nat) : Prop := ∃ d cap, live h d ∧ g d = some (b, cap)
/-- With them, those of all who called. -/
def MM (F : Nat → Prop) (g : GM) (h : List AB) (b : Nat) : Prop := F b ∨ MO g h b

structure HOK (F : Nat → Prop) (g : GM) (w : World) (h : List AB) : Prop where
  dom : ∀ d, h.length ≤ d → g d = none
  lv : ∀ d, live h d → ∃ p, g d = some p
  inj : ∀ d d' b c c', live h d → live h d' → g d = some (b, c) → g d' = some (b, c') → d = d'
  box : ∀ d m c b cap, h[d]? = some (.box m c) → g d = some (b, cap) → ∃ cs t, w.heap[b]? = some (.cells cs t (0, 0)) ∧ cs.size = m ∧ ∀ i, i < m → ∃ u, cs[i]? = some u ∧ u.oneCell' = true ∧ rep (MM F g h) w (c i) g u
  row : ∀ d n sz c b cap, h[d]? = some (.row n sz c) → g d = some (b, cap) → n ≤ cap ∧ cap ≤ maxLen ∧ ∃ cs t, w.heap[b]? = some (.cells cs t (0, 0)) ∧ cs.size = cap * sz ∧ ∀ k, k < n → ∀ o, o < sz → ∃ u, cs[k * sz + o]? = some u ∧ u.oneCell' = true ∧ rep (MM F g h) w (c k o) g0 u
  fr : ∀ b, F b → b < w.heap.size ∧ ¬ MO g h b
theorem lt_of_heap {w : World} {b : Nat} {o : Obj} (h : w.heap[b]? = some o) : b < w.heap.size := by
  rcases Nat.lt_or_ge b w.heap.size with hlt | hge
  · exact hlt
  · rw [Array.getElem?_eq_none hge] at h; cases h

section
variable {F : Nat → Prop}
theorem HOK.nil (w : World) (hF : ∀ b, F b → b < w.heap.size) : HOK F g0 w [] := ⟨fun _ _ => rfl, fun d ⟨b, h, _⟩ => by simp at h, fun d d' b c c' ⟨x, h, _⟩ => by simp at h, fun d m c b cap h => by simp at h, fun d n sz c b cap h => by simp at h, fun b hb => ⟨hF b hb, fun ⟨d, cap, ⟨x, h, _⟩, _⟩ => by simp at h⟩⟩
theorem HOK.olt {g : GM} {w : World} {h : List AB} (k : HOK F g w h) {b : Nat} (hb : MO g h b) : b < w.heap.size := by
  obtain ⟨d, cap, ⟨x, hx, hl⟩, hg⟩ := hb
  cases x with
  | dead => exact hl.elim
  | box m c => obtain ⟨cs, t, h1, _⟩ := k.box d m c b cap hx hg; exact lt_of_heap h1
  | row n sz c => obtain ⟨_, _, cs, t, h1, _⟩ := k.row d n sz c b cap hx hg; exact lt_of_heap h1
theorem HOK.mlt {g : GM} {w : World} {h : List AB} (k : HOK F g w h) {b : Nat} (hb : MM F g h b) : b < w.heap.size := hb.elim (fun h => (k.fr b h).1) k.olt
theorem HOK.lt {g : GM} {w : World} {h : List AB} (k : HOK F g w h) {d : Nat} {p : Nat × Nat} (hg : g d = some p) : d < h.length := by
  rcases Nat.lt_or_ge d h.length with h' | h'
  · exact h'
  · rw [k.dom d h'] at hg; cases hg

/-- From one state of the call's own blocks to the next. -/
structure Tr (F : Nat → Prop) (g : GM) (h : List AB) (w : World) (g' : GM) (h' : List AB) (w' : World) : Prop where
  ok : HOK F g' w' h'
  gle : g.le g'
  chg : Chg (MO g h) w w'
  new : ∀ b, MO g' h' b → MO g h b ∨ w.heap.size ≤ b
theorem Tr.refl {g : GM} {h : List AB} {w : World} (k : HOK F g w h) : Tr F g h w g h w := ⟨k, GM.le_refl _, Chg.refl _ _, fun _ h => .inl h⟩
theorem Tr.oldo {g g' : GM} {h h' : List AB} {w w' : World} (t : Tr F g h w g' h' w') : ∀ b, b < w.heap.size → MO g' h' b → MO g h b := fun b hb hm => (t.new b hm).resolve_right (by omega)
theorem Tr.old {g g' : GM} {h h' : List AB} {w w' : World} (t : Tr F g h w g' h' w') : ∀ b, b < w.heap.size → MM F g' h' b → MM F g h b := fun b hb hm => hm.imp id (t.oldo b hb)
theorem Tr.mchg {g g' : GM} {h h' : List AB} {w w' : World} (t : Tr F g h w g' h' w') : Chg (MM F g h) w w' := t.chg.weak fun _ _ h => .inr h
theorem Tr.trans {g g' g'' : GM} {h h' h'' : List AB} {w w' w'' : World} (a : Tr F g h w g' h' w') (b : Tr F g' h' w' g'' h'' w'') : Tr F g h w g'' h'' w'' :=
  ⟨b.ok, GM.le_trans a.gle b.gle, a.chg.trans b.chg a.oldo, fun x hx => by
    rcases b.new x hx with h | h
    · exact a.new x h
    · exact .inr (Nat.le_trans a.chg.size h)⟩
theorem Tr.hold {g g' : GM} {h h' : List AB} {w w' : World} (t : Tr F g h w g' h' w') {v : AV} {u : Value} (hr : rep (MM F g h) w v g u) : rep (MM F g' h') w' v g' u := rep_mono t.mchg t.old v t.gle hr

theorem cell_of_heap {w : World} {b i : Nat} {cs : Array Value} {t : TypeId} {u : Value} (h : w.heap[b]? = some (.cells cs t (0, 0))) (hu : cs[i]? = some u) : w.cell? ⟨b, i, none⟩ = some u := by
  simp [World.cell?, h, hu]
theorem free_of_heap {w : World} {b i : Nat} {cs : Array Value} {t : TypeId} (h : w.heap[b]? = some (.cells cs t (0, 0))) : w.frozen? ⟨b, i, none⟩ = false := by
  simp [World.frozen?, h]

/-- What a block of the call's own holds. -/
def ABOK (M : Nat → Prop) (g : GM) (w : World) (b cap : Nat) : AB → Prop
  | .dead => True
  | .box m c => ∃ cs t, w.heap[b]? = some (.cells cs t (0, 0)) ∧ cs.size = m ∧ ∀ i, i < m → ∃ u, cs[i]? = some u ∧ u.oneCell' = true ∧ rep M w (c i) g u
  | .row n sz c => n ≤ cap ∧ cap ≤ maxLen ∧ ∃ cs t, w.heap[b]? = some (.cells cs t (0, 0)) ∧ cs.size = cap * sz ∧ ∀ k, k < n → ∀ o, o < sz → ∃ u, cs[k * sz + o]? = some u ∧ u.oneCell' = true ∧ rep M w (c k o) g0 u
theorem ABOK.lt {M : Nat → Prop} {g : GM} {w : World} {b cap : Nat} {x : AB} (h : ABOK M g w b cap x) (hl : x.live) : b < w.heap.size := by
  cases x with
  | dead => exact hl.elim
  | box m c => obtain ⟨cs, t, h1, _⟩ := h; exact lt_of_heap h1
  | row n sz c => obtain ⟨_, _, cs, t, h1, _⟩ := h; exact lt_of_heap h1
theorem HOK.all {g : GM} {w : World} {h : List AB} (k : HOK F g w h) {d b cap : Nat} {x : AB} (hx : h[d]? = some x) (hg : g d = some (b, cap)) : ABOK (MM F g h) g w b cap x := by
  cases x with
  | dead => trivial
  | box m c => exact k.box d m c b cap hx hg
  | row n sz c => exact k.row d n sz c b cap hx hg
theorem HOK.of_all {g : GM} {w : World} {h : List AB} (dom : ∀ d, h.length ≤ d → g d = none) (lv : ∀ d, live h d → ∃ p, g d = some p)
    (inj : ∀ d d' b c c', live h d → live h d' → g d = some (b, c) → g d' = some (b, c') → d = d')
    (all : ∀ d b cap x, h[d]? = some x → g d = some (b, cap) → ABOK (MM F g h) g w b cap x) (fr : ∀ b, F b → b < w.heap.size ∧ ¬ MO g h b) : HOK F g w h :=
  ⟨dom, lv, inj, fun d _ _ b cap hd hg => all d b cap _ hd hg, fun d _ _ _ b cap hd hg => all d b cap _ hd hg, fr⟩
theorem ABOK.mono {M M' : Nat → Prop} {g g' : GM} {w w' : World} {b cap : Nat} {x : AB} (h : ABOK M g w b cap x) (hc : Chg M w w') (hM : ∀ b, b < w.heap.size → M' b → M b) (hg : g.le g') (hb : w'.heap[b]? = w.heap[b]?) : ABOK M' g' w' b cap x := by
  cases x with
  | dead => trivial
  | box m c =>
    obtain ⟨cs, t, h1, h2, h3⟩ := h
    refine ⟨cs, t, hb.trans h1, h2, fun i hi => ?_⟩
    obtain ⟨u, hu, h1c, hr⟩ := h3 i hi
    exact ⟨u, hu, h1c, rep_mono hc hM _ hg hr⟩
  | row n sz c =>
    obtain ⟨hn, hm, cs, t, h1, h2, h3⟩ := h
    refine ⟨hn, hm, cs, t, hb.trans h1, h2, fun kk hk o ho => ?_⟩
    obtain ⟨u, hu, h1c, hr⟩ := h3 kk hk o ho
    exact ⟨u, hu, h1c, rep_mono hc hM _ (GM.le_refl _) hr⟩

/-- A world in which nothing of the call's own has changed, and no block is new to it. -/
theorem HOK.keep {g : GM} {w w' : World} {h : List AB} (k : HOK F g w h) (hc : Chg (fun _ => False) w w') : HOK F g w' h := by
  have hc' : Chg (MM F g h) w w' := hc.weak (fun _ _ h => h.elim)
  refine HOK.of_all k.dom k.lv k.inj (fun d b cap x hx hg => ?_) (fun b hb => ⟨Nat.lt_of_lt_of_le (k.fr b hb).1 hc.size, (k.fr b hb).2⟩)
  by_cases hl : x.live
  · exact (k.all hx hg).mono hc' (fun _ _ h => h) (GM.le_refl _) (hc.block b ((k.all hx hg).lt hl) (fun h => h))
  · cases x with
    | dead => trivial
    | box => exact (hl trivial).elim
    | row => exact (hl trivial).elim
theorem Tr.keep {g : GM} {h : List AB} {w w' : World} (k : HOK F g w h) (hc : Chg (fun _ => False) w w') : Tr F g h w g h w' := ⟨k.keep hc, GM.le_refl _, hc.weak (fun _ _ h => h.elim), fun _ h => .inl h⟩

theorem live_set {h : List AB} {d d' : Nat} {x : AB} (hl : live (h.set d x) d') : (d' = d ∧ x.live) ∨ (d' ≠ d ∧ live h d') := by
  obtain ⟨y, hy, hyl⟩ := hl
  by_cases e : d' = d
  · subst e
    rw [List.getElem?_set] at hy
    simp only [if_true] at hy
    split at hy
    · injection hy with hy; subst hy; exact .inl ⟨rfl, hyl⟩
    · cases hy
  · rw [List.getElem?_set_ne (fun h => e h.symm)] at hy
    exact .inr ⟨e, y, hy, hyl⟩
theorem live_set_ne {h : List AB} {d d' : Nat} {x : AB} (e : d' ≠ d) (hl : live h d') : live (h.set d x) d' := by
  obtain ⟨y, hy, hyl⟩ := hl
  exact ⟨y, by rw [List.getElem?_set_ne (fun h => e h.symm)]; exact hy, hyl⟩
theorem live_set_eq {h : List AB} {d : Nat} {x : AB} (hd : d < h.length) (hl : x.live) : live (h.set d x) d :=
  ⟨x, by rw [List.getElem?_set]; simp [hd], hl⟩
theorem live_push {h : List AB} {d : Nat} {x : AB} (hl : live (h ++ [x]) d) : live h d ∨ (d = h.length ∧ x.live) := by
  obtain ⟨y, hy, hyl⟩ := hl
  rcases Nat.lt_trichotomy d h.length with hd | hd | hd
  · rw [List.getElem?_append_left hd] at hy; exact .inl ⟨y, hy, hyl⟩
  · subst hd
    simp at hy
    subst hy
    exact .inr ⟨rfl, hyl⟩
  · rw [List.getElem?_append_right (by omega)] at hy
    rw [List.getElem?_eq_none (by simp; omega)] at hy
    cases hy
theorem live_push_old {h : List AB} {d : Nat} {x : AB} (hl : live h d) : live (h ++ [x]) d := by
  obtain ⟨y, hy, hyl⟩ := hl
  have hd : d < h.length := by
    rcases Nat.lt_or_ge d h.length with h' | h'
    · exact h'
    · rw [List.getElem?_eq_none h'] at hy; cases hy
  exact ⟨y, by rw [List.getElem?_append_left hd]; exact hy, hyl⟩

/-- A block of the call's own is let go. -/
theorem Tr.kill {g : GM} {w : World} {h : List AB} (k : HOK F g w h) (d : Nat) : Tr F g h w g (h.set d .dead) w := by
  have hO : ∀ b, MO g (h.set d .dead) b → MO g h b := by
    rintro b ⟨d', cap, hl, hg⟩
    rcases live_set hl with ⟨_, h'⟩ | ⟨_, h'⟩
    · exact h'.elim
    · exact ⟨d', cap, h', hg⟩
  have hM : ∀ b, MM F g (h.set d .dead) b → MM F g h b := fun b => Or.imp id (hO b)
  refine ⟨HOK.of_all (fun d' hd => k.dom d' (by simpa using hd)) (fun d' hl => ?_) (fun d1 d2 b c c' h1 h2 => ?_) (fun d' b cap x hx hg => ?_) (fun b hb => ⟨(k.fr b hb).1, fun h => (k.fr b hb).2 (hO b h)⟩), GM.le_refl _, Chg.refl _ _, fun b hb => .inl (hO b hb)⟩
  · rcases live_set hl with ⟨_, h'⟩ | ⟨_, h'⟩
    · exact h'.elim
    · exact k.lv d' h'
  · rcases live_set h1 with ⟨_, h'⟩ | ⟨_, h1'⟩
    · exact h'.elim
    rcases live_set h2 with ⟨_, h'⟩ | ⟨_, h2'⟩
    · exact h'.elim
    exact k.inj d1 d2 b c c' h1' h2'
  · by_cases e : d' = d
    · subst e
      rw [List.getElem?_set] at hx
      simp only [if_true] at hx
      split at hx
      · injection hx with hx; subst hx; trivial
      · cases hx
    · rw [List.getElem?_set_ne (fun h => e h.symm)] at hx
      exact (k.all hx hg).mono (Chg.refl _ _) (fun b _ => hM b) (GM.le_refl _) rfl
theorem MM_kill {g : GM} {w : World} {h : List AB} (k : HOK F g w h) {d b cap : Nat} (hl : live h d) (hg : g d = some (b, cap)) : ¬ MO g (h.set d .dead) b := by
  rintro ⟨d', cap', hl', hg'⟩
  rcases live_set hl' with ⟨_, h'⟩ | ⟨hne, h'⟩
  · exact h'.elim
  · exact hne (k.inj d' d b cap' cap h' hl hg' hg)

def GM.push (g : GM) (n : Nat) (p : Nat × Nat) : GM := fun d => if d = n then some p else g d
theorem GM.le_push {g : GM} {w : World} {h : List AB} (k : HOK F g w h) (p : Nat × Nat) : g.le (g.push h.length p) := fun d q hd => by
  have := k.lt hd
  simp [GM.push, Nat.ne_of_lt this, hd]
theorem MO_push {g : GM} {w : World} {h : List AB} (k : HOK F g w h) {b cap : Nat} {x : AB} {b' : Nat} (hm : MO (g.push h.length (b, cap)) (h ++ [x]) b') : MO g h b' ∨ (b' = b ∧ x.live) := by
  obtain ⟨d, c', hl, hg⟩ := hm
  rcases live_push hl with hl' | ⟨e, hxl⟩
  · obtain ⟨p, hp⟩ := k.lv d hl'
    have := k.lt hp
    simp only [GM.push, Nat.ne_of_lt this, if_false] at hg
    exact .inl ⟨d, c', hl', hg⟩
  · subst e
    simp only [GM.push, if_true] at hg
    injection hg with hg
    injection hg with hg1 hg2
    exact .inr ⟨hg1.symm, hxl⟩
theorem MM_push {g : GM} {w : World} {h : List AB} (k : HOK F g w h) {b cap : Nat} {x : AB} {b' : Nat} (hm : MM F (g.push h.length (b, cap)) (h ++ [x]) b') : MM F g h b' ∨ (b' = b ∧ x.live) := by
  rcases hm with hF | hm
  · exact .inl (.inl hF)
  · exact (MO_push k hm).imp .inr id
/-- A new block, whose contents are in place. -/
theorem Tr.push {g : GM} {w w' : World} {h : List AB} (k : HOK F g w h) {b cap : Nat} {x : AB} (hc : Chg (fun _ => False) w w') (hbn' : w.heap.size ≤ b)
    (hx : ABOK (MM F (g.push h.length (b, cap)) (h ++ [x])) (g.push h.length (b, cap)) w' b cap x) : Tr F g h w (g.push h.length (b, cap)) (h ++ [x]) w' := by
  have hb : ¬ MO g h b := fun hm => by have := k.olt hm; omega
  have hle := GM.le_push k (b, cap)
  have hc' : Chg (MM F g h) w w' := hc.weak (fun _ _ h => h.elim)
  have hM : ∀ x', x' < w.heap.size → MM F (g.push h.length (b, cap)) (h ++ [x]) x' → MM F g h x' := fun x' hx' hm => (MM_push k hm).resolve_right (fun ⟨e, _⟩ => by omega)
  refine ⟨HOK.of_all (fun d hd => ?_) (fun d hl => ?_) (fun d1 d2 b1 c c' h1 h2 g1 g2 => ?_) (fun d b1 cap1 y hy hg => ?_) (fun y hy => ⟨Nat.lt_of_lt_of_le (k.fr y hy).1 hc.size, fun hm => ?_⟩), hle, hc.weak (fun _ _ h => h.elim), fun x' hm => ?_⟩
  · rw [List.length_append, List.length_singleton] at hd
    have e : d ≠ h.length := by omega
    simp only [GM.push, e, if_false]
    exact k.dom d (by omega)
  · rcases live_push hl with hl | ⟨rfl, _⟩
    · obtain ⟨p, hp⟩ := k.lv d hl
      exact ⟨p, hle _ _ hp⟩
    · exact ⟨(b, cap), by simp [GM.push]⟩
  · have old : ∀ d, live h d → ∃ q, g d = some q ∧ d ≠ h.length := fun d hl => by
      obtain ⟨p, hp⟩ := k.lv d hl
      exact ⟨p, hp, Nat.ne_of_lt (k.lt hp)⟩
    rcases live_push h1 with h1 | ⟨rfl, _⟩ <;> rcases live_push h2 with h2 | ⟨rfl, _⟩
    · obtain ⟨q1, e1, n1⟩ := old d1 h1
      obtain ⟨q2, e2, n2⟩ := old d2 h2
      simp only [GM.push, n1, n2, if_false] at g1 g2
      exact k.inj d1 d2 b1 c c' h1 h2 g1 g2
    · obtain ⟨q1, e1, n1⟩ := old d1 h1
      simp only [GM.push, n1, if_false, if_true] at g1 g2
      injection g2 with g2
      injection g2 with g2 _
      subst g2
      exact (hb ⟨d1, c, h1, g1⟩).elim
    · obtain ⟨q2, e2, n2⟩ := old d2 h2
      simp only [GM.push, n2, if_false, if_true] at g1 g2
      injection g1 with g1
      injection g1 with g1 _
      subst g1
      exact (hb ⟨d2, c', h2, g2⟩).elim
    · rfl
  · rcases Nat.lt_trichotomy d h.length with hd | hd | hd
    · rw [List.getElem?_append_left hd] at hy
      simp only [GM.push, Nat.ne_of_lt hd, if_false] at hg
      by_cases hl : y.live
      · have hlt : b1 < w.heap.size := (k.all hy hg).lt hl
        exact (k.all hy hg).mono hc' hM hle (hc.block b1 hlt (fun h => h))
      · cases y with
        | dead => trivial
        | box => exact (hl trivial).elim
        | row => exact (hl trivial).elim
    · subst hd
      simp only [GM.push, if_true] at hg
      injection hg with hg
      injection hg with hg1 hg2
      subst hg1; subst hg2
      simp at hy
      subst hy
      exact hx
    · rw [List.getElem?_append_right (by omega), List.getElem?_eq_none (by simp; omega)] at hy
      cases hy
  · rcases MO_push k hm with h' | ⟨rfl, _⟩
    · exact (k.fr y hy).2 h'
    · have := (k.fr y hy).1; omega
  · rcases MO_push k hm with h' | ⟨rfl, _⟩
    · exact .inl h'
    · exact .inr hbn'
/-- A row of the call's own under a new name. -/
theorem Tr.move {g : GM} {w : World} {h : List AB} (k : HOK F g w h) {d b cap : Nat} {x : AB} (hl : live h d) (hg : g d = some (b, cap)) (hx : ABOK (MM F g h) g w b cap x) : Tr F g h w (g.push h.length (b, cap)) (h.set d .dead ++ [x]) w := by
  have hd : d < h.length := k.lt hg
  have kk := (Tr.kill k d).ok
  have hlen : (h.set d .dead).length = h.length := by simp
  have hle := GM.le_push k (b, cap)
  have hMk : ∀ y, MO g (h.set d .dead) y → MO g h y := fun y hy => ((Tr.kill k d).new y hy).resolve_right (fun h' => by have := kk.olt hy; omega)
  have hO : ∀ y, MO (g.push h.length (b, cap)) (h.set d .dead ++ [x]) y → MO g h y := fun y hy => by
    have := MO_push kk (b := b) (cap := cap) (x := x) (b' := y) (by rw [hlen]; exact hy)
    rcases this with h' | ⟨rfl, _⟩
    · exact hMk y h'
    · exact ⟨d, cap, hl, hg⟩
  have hM : ∀ y, MM F (g.push h.length (b, cap)) (h.set d .dead ++ [x]) y → MM F g h y := fun y => Or.imp id (hO y)
  have old : ∀ d', live (h.set d .dead) d' → live h d' ∧ d' ≠ d ∧ d' ≠ h.length ∧ ∃ q, g d' = some q := fun d' hl' => by
    rcases live_set hl' with ⟨_, h'⟩ | ⟨hne, h'⟩
    · exact h'.elim
    · obtain ⟨p, hp⟩ := k.lv d' h'
      exact ⟨h', hne, Nat.ne_of_lt (k.lt hp), p, hp⟩
  have lp : ∀ d', live (h.set d .dead ++ [x]) d' → live (h.set d .dead) d' ∨ d' = h.length := fun d' hl' => by
    rcases live_push hl' with h' | ⟨e, _⟩
    · exact .inl h'
    · exact .inr (by rw [e, hlen])
  refine ⟨HOK.of_all (fun d' hd' => ?_) (fun d' hl' => ?_) (fun d1 d2 b1 c c' h1 h2 g1 g2 => ?_) (fun d' b1 cap1 y hy hg1 => ?_) (fun y hy => ⟨(k.fr y hy).1, fun h => (k.fr y hy).2 (hO y h)⟩), hle, Chg.refl _ _, fun y hy => .inl (hO y hy)⟩
  · rw [List.length_append, List.length_singleton, hlen] at hd'
    have e : d' ≠ h.length := by omega
    simp only [GM.push, e, if_false]
    exact k.dom d' (by omega)
  · rcases lp d' hl' with h' | rfl
    · obtain ⟨_, _, _, q, hq⟩ := old d' h'
      exact ⟨q, hle _ _ hq⟩
    · exact ⟨(b, cap), by simp [GM.push]⟩
  · rcases lp d1 h1 with h1 | rfl <;> rcases lp d2 h2 with h2 | rfl
    · obtain ⟨l1, _, n1, _⟩ := old d1 h1
      obtain ⟨l2, _, n2, _⟩ := old d2 h2
      simp only [GM.push, n1, n2, if_false] at g1 g2
      exact k.inj d1 d2 b1 c c' l1 l2 g1 g2
    · obtain ⟨l1, m1, n1, _⟩ := old d1 h1
      simp only [GM.push, n1, if_false, if_true] at g1 g2
      injection g2 with g2
      injection g2 with g2 _
      subst g2
      exact (m1 (k.inj d1 d b c cap l1 hl g1 hg)).elim
    · obtain ⟨l2, m2, n2, _⟩ := old d2 h2
      simp only [GM.push, n2, if_false, if_true] at g1 g2
      injection g1 with g1
      injection g1 with g1 _
      subst g1
      exact (m2 (k.inj d2 d b c' cap l2 hl g2 hg)).elim
    · rfl
  · rcases Nat.lt_trichotomy d' h.length with hd' | hd' | hd'
    · rw [List.getElem?_append_left (by rw [hlen]; exact hd')] at hy
      simp only [GM.push, Nat.ne_of_lt hd', if_false] at hg1
      by_cases e : d' = d
      · subst e
        rw [List.getElem?_set] at hy
        simp only [if_true, hd] at hy
        injection hy with hy
        subst hy
        trivial
      · rw [List.getElem?_set_ne (fun h => e h.symm)] at hy
        exact (k.all hy hg1).mono (Chg.refl _ _) (fun y _ => hM y) hle rfl
    · subst hd'
      simp only [GM.push, if_true] at hg1
      injection hg1 with hg1
      injection hg1 with e1 e2
      subst e1; subst e2
      rw [List.getElem?_append_right (by rw [hlen]; exact Nat.le_refl _), hlen] at hy
      simp at hy
      subst hy
      exact hx.mono (Chg.refl _ _) (fun y _ => hM y) hle rfl
    · rw [List.getElem?_append_right (by rw [hlen]; omega), List.getElem?_eq_none (by rw [hlen]; simp; omega)] at hy
      cases hy
/-- A block of the call's own gets other contents. -/
theorem Tr.upd {g : GM} {w w' : World} {h : List AB} (k : HOK F g w h) {d b cap : Nat} {x : AB} (hl : live h d) (hg : g d = some (b, cap)) (hxl : x.live) (hc : Chg (fun y => y = b) w w')
    (hx : ABOK (MM F g h) g w' b cap x) : Tr F g h w g (h.set d x) w' := by
  have hd : d < h.length := k.lt hg
  have hM : ∀ y, MO g (h.set d x) y ↔ MO g h y := fun y => by
    constructor
    · rintro ⟨d', c', hl', hg'⟩
      rcases live_set hl' with ⟨rfl, _⟩ | ⟨_, h'⟩
      · exact ⟨d', c', hl, hg'⟩
      · exact ⟨d', c', h', hg'⟩
    · rintro ⟨d', c', hl', hg'⟩
      by_cases e : d' = d
      · subst e; exact ⟨d', c', live_set_eq hd hxl, hg'⟩
      · exact ⟨d', c', live_set_ne e hl', hg'⟩
  have hMe : MM F g (h.set d x) = MM F g h := funext fun y => propext ⟨Or.imp id (hM y).1, Or.imp id (hM y).2⟩
  have hco : Chg (MO g h) w w' := hc.weak (fun y _ e => by subst e; exact ⟨d, cap, hl, hg⟩)
  have hc' : Chg (MM F g h) w w' := hco.weak (fun y _ e => .inr e)
  have back : ∀ d', live (h.set d x) d' → live h d' := fun d' hl' => by
    rcases live_set hl' with ⟨rfl, _⟩ | ⟨_, h'⟩
    · exact hl
    · exact h'
  refine ⟨HOK.of_all (fun d' hd' => k.dom d' (by simpa using hd')) (fun d' hl' => k.lv d' (back d' hl')) (fun d1 d2 b1 c c' h1 h2 => k.inj d1 d2 b1 c c' (back _ h1) (back _ h2)) (fun d' b1 cap1 y hy hg1 => ?_) (fun y hy => ⟨Nat.lt_of_lt_of_le (k.fr y hy).1 hc.size, fun h => (k.fr y hy).2 ((hM y).1 h)⟩), GM.le_refl _, hco, fun y hy => .inl ((hM y).1 hy)⟩
  rw [hMe]
  by_cases e : d' = d
  · subst e
    rw [List.getElem?_set] at hy
    simp only [if_true, hd] at hy
    injection hy with hy
    subst hy
    rw [hg] at hg1
    injection hg1 with hg1
    injection hg1 with e1 e2
    subst e1; subst e2
    exact hx
  · rw [List.getElem?_set_ne (fun h => e h.symm)] at hy
    by_cases hyl : y.live
    · have hlt : b1 < w.heap.size := (k.all hy hg1).lt hyl
      have hne : b1 ≠ b := fun e' => by
        subst e'
        exact e (k.inj d' d b1 cap1 cap ⟨y, hy, hyl⟩ hl hg1 hg)
      exact (k.all hy hg1).mono hc' (fun _ _ h => h) (GM.le_refl _) (hc.block b1 hlt hne)
    · cases y with
      | dead => trivial
      | box => exact (hyl trivial).elim
      | row => exact (hyl trivial).elim
end
end Go.Proofs.Ytomkjfhepfinhaa

namespace Go.Proofs.Ytomkjfhepfinhaa
open Go.RowKit

inductive AX where
  | t (i : Nat)
  | k (v : AV)
  deriving Inhabited
def AX.ev (s : Nat → AV) : AX → AV
  | .t i => s i
  | .k v => v

inductive AOp where
  | mv (x : AX)
  | pick (c a b : AX)
  | nilck (x : AX)
  | box (x : AX)
  | build (zs : List AV) (ps : List (Nat × Nat × AX))
  | bsl (n sz : Nat) (zs : List AV) (ps : List (Nat × AX))
  | bslp (n sz : Nat) (zs : List AV) (ps : List (Nat × AX))
  | ld (m : Option Nat) (x : AX)
  | st (m : Nat) (x y : AX)
  | fa (x : AX) (off : Nat)
  | fld (x : AX) (off : Nat) (m : Option Nat)
  | ia (sz : Nat) (x i : AX)
  | slc (sz : Nat) (x : AX) (lo hi : Option AX)
  | bin (op : BinOp) (x y : AX)
  | binb (neg : Bool) (x y : AX)
  | eqz (tag : Nat) (neg : Bool) (x y : AX)
  | eqa (m : Nat) (neg : Bool) (x y : AX)
  | clr (sz : Nat) (x : AX)
  | un (op : UnOp) (x : AX)
  | conv (k : IntKind) (x : AX)
  | mkf (f : FuncId) (xs : List AX)
  | msl (sz bytes : Nat) (zs : List AV) (x y : AX)
  | len (x : AX)
  | app (sz bytes : Nat) (x y : AX)
  | mx (x y : AX)
  | mn (x y : AX)
  | ext (x : AX) (i : Nat)
  | call (f : FuncId) (xs : List AX)
  | calv (x : AX) (xs : List AX)
  | no
  deriving Inhabited

def ofL (l : List AV) : Nat → AV := fun i => l.getD i .bot
def und : AV := .tup 0 (ofL [])
/-- Cells as a table. -/
def tab (m : Nat) (f : Nat → AV) : Nat → AV := ofL ((List.range m).map f)
theorem tab_get {m : Nat} {f : Nat → AV} {i : Nat} (h : i < m) : tab m f i = f i := by simp [tab, ofL, List.getD, List.getElem?_range h]
def acond (q : Bool) (A B : Prop) : Prop := match q with | true => A | false => B
theorem acond_i {q : Bool} {A B : Prop} (h1 : q = true → A) (h2 : q = false → B) : acond q A B := by
  cases q
  · exact h2 rfl
  · exact h1 rfl
theorem acond_e {q : Bool} {A B : Prop} (h : acond q A B) : (q = true ∧ A) ∨ (q = false ∧ B) := by
  cases q
  · exact .inr ⟨rfl, h⟩
  · exact .inl ⟨rfl, h⟩
def updN (c : Nat → AV) (o : Nat) (v : AV) : Nat → AV := fun i => if i = o then v else c i
def stM (c : Nat → AV) (o : Nat) (cy : Nat → AV) : Nat → Nat → AV
  | 0 => c
  | m + 1 => updN (stM c o cy m) (o + m) (cy m)
def updR (c : Nat → Nat → AV) (k o : Nat) (v : AV) : Nat → Nat → AV := fun k' o' => if k' = k ∧ o' = o then v else c k' o'
def updRm (c : Nat → Nat → AV) (k : Nat) (cy : Nat → AV) : Nat → Nat → AV := fun k' o' => if k' = k then cy o' else c k' o'
def appc (n : Nat) (c c' : Nat → Nat → AV) : Nat → Nat → AV := fun k o => if k < n then c k o else c' (k - n) o

/-- What a binary operation on integers of one kind gives. -/
def ibin (op : BinOp) (k : IntKind) (x y : Int) (K : AV → Prop) : Prop :=
  match op with
  | .add => K (.int k (k.wrap (x + y)))
  | .sub => K (.int k (k.wrap (x - y)))
  | .mul => K (.int k (k.wrap (x * y)))
  | .quo => y ≠ 0 ∧ K (.int k (k.wrap (x.tdiv y)))
  | .rem => y ≠ 0 ∧ K (.int k (x.tmod y))
  | .and => K (.int k (k.wrap (BitVec.ofInt k.bits x &&& BitVec.ofInt k.bits y).toNat))
  | .or => K (.int k (k.wrap (BitVec.ofInt k.bits x ||| BitVec.ofInt k.bits y).toNat))
  | .xor => K (.int k (k.wrap (BitVec.ofInt k.bits x ^^^ BitVec.ofInt k.bits y).toNat))
  | .andNot => K (.int k (k.wrap (BitVec.ofInt k.bits x &&& ~~~ BitVec.ofInt k.bits y).toNat))
  | .eql => K (.bool (decide (x = y)))
  | .neq => K (.bool (!decide (x = y)))
  | .lss => K (.bool (decide (x < y)))
  | .leq => K (.bool (decide (x ≤ y)))
  | .gtr => K (.bool (decide (y < x)))
  | .geq => K (.bool (decide (y ≤ x)))
  | .shl | .shr => False
def ishift (op : BinOp) (k : IntKind) (x y : Int) (K : AV → Prop) : Prop :=
  match op with
  | .shl => 0 ≤ y ∧ K (.int k (k.wrap (x * 2 ^ (min y.toNat k.bits))))
  | .shr => 0 ≤ y ∧ K (.int k (x.fdiv (2 ^ (min y.toNat k.bits))))
  | _ => False
def abin (op : BinOp) (x y : AV) (K : AV → Prop) : Prop :=
  match x, y with
  | .int k a, .int k' b =>
    match op with
    | .shl => ishift .shl k a b K
    | .shr => ishift .shr k a b K
    | op => k = k' ∧ ibin op k a b K
  | _, _ => False
/-- Comparison with nil. -/
def aeqz (tag : Nat) (x y : AV) (K : Bool → Prop) : Prop :=
  match tag, x, y with
  | 0, .sl true _ _ _ _, .sl z _ _ _ _ => K z
  | 0, .sl z _ _ _ _, .sl true _ _ _ _ => K z
  | 0, .own .., .sl true _ _ _ _ => K false
  | 1, .nilp, .nilp => K true
  | 1, .ptr .., .nilp => K false
  | 1, .ip .., .nilp => K false
  | 2, .nilf, .nilf => K true
  | 2, .fn .., .nilf => K false
  | _, _, _ => False

/-- Comparison of two cells. -/
def eqc (x y : AV) (K : Bool → Prop) : Prop :=
  match x, y with
  | .int k a, .int k' b => k = k' ∧ K (decide (a = b))
  | _, _ => False
theorem eqc_one {x y : AV} {K : Bool → Prop} (H : eqc x y K) : ∃ q, K q ∧ ∀ K2 : Bool → Prop, K2 q → eqc x y K2 := by
  unfold eqc at H ⊢
  split at H
  · exact ⟨_, H.2, fun K2 h => ⟨H.1, h⟩⟩
  · exact H.elim
/-- Comparison of two structs, cell by cell: i cells from the one in front of the last m on. -/
def eqcs (n : Nat) (c c' : Nat → AV) : Nat → (Bool → Prop) → Prop
  | 0, K => K true
  | m + 1, K => eqc (c (n - (m + 1))) (c' (n - (m + 1))) fun q => eqcs n c c' m fun q' => K (q && q')
theorem eqcs_one {n : Nat} {c c' : Nat → AV} : ∀ {m : Nat} {K : Bool → Prop}, eqcs n c c' m K → ∃ q, K q ∧ ∀ K2 : Bool → Prop, K2 q → eqcs n c c' m K2
  | 0, K, H => ⟨true, H, fun K2 h => h⟩
  | m + 1, K, H => by
    obtain ⟨q, h1, k1⟩ := eqc_one H
    obtain ⟨q', h2, k2⟩ := eqcs_one h1
    exact ⟨_, h2, fun K2 h => k1 _ (k2 _ h)⟩
/-- One element of a literal: its cells. -/
def elemC (v : AV) : Nat → AV :=
  match v with
  | .agg _ c => c
  | v => fun _ => v
def elemOK (sz : Nat) (v : AV) : Prop :=
  match v with
  | .agg m _ => m = sz
  | v => v.one = true ∧ sz = 1
def bslC : (Nat → Nat → AV) → List (Nat × AV) → Nat → Nat → AV
  | c, [] => c
  | c, (i, v) :: es => bslC (updRm c i (elemC v)) es
def buildC : (Nat → AV) → List (Nat × Nat × AV) → Nat → AV
  | c, [] => c
  | c, (off, sz, v) :: ps => buildC (stM c off (elemC v) sz) ps

/-- A slice of the call's own that is laid into a row: from then on it is only read. -/
def apub (h : List AB) (v : AV) (K : AV → List AB → Prop) : Prop :=
  match v with
  | .own d n => (match h[d]? with
    | some (.row N sz c) => n ≤ N ∧ K (.sl false false n sz c) (h.set d .dead)
    | _ => False)
  | v => v.pure ∧ K v h
def apubs (e : AX → AV) (ps : List (Nat × AX)) (h : List AB) (K : List (Nat × AV) → List AB → Prop) : Prop :=
  match ps with
  | [] => K [] h
  | (i, x) :: ps => apub h (e x) (fun v h' => apubs e ps h' (fun l h'' => K ((i, v) :: l) h''))
theorem apub_one {h : List AB} {v : AV} {K : AV → List AB → Prop} (H : apub h v K) : ∃ r h', K r h' ∧ ∀ K2 : AV → List AB → Prop, K2 r h' → apub h v K2 := by
  cases v
  case own d n =>
    simp only [apub] at H ⊢
    split at H
    · rename_i hd
      exact ⟨_, _, H.2, fun K2 hk => ⟨H.1, hk⟩⟩
    · exact H.elim
  all_goals exact ⟨_, _, H.2, fun K2 hk => ⟨H.1, hk⟩⟩
theorem apubs_one {e : AX → AV} : ∀ {ps : List (Nat × AX)} {h : List AB} {K : List (Nat × AV) → List AB → Prop}, apubs e ps h K → ∃ l h', K l h' ∧ ∀ K2 : List (Nat × AV) → List AB → Prop, K2 l h' → apubs e ps h K2
  | [], h, K, H => ⟨[], h, H, fun _ hk => hk⟩
  | (i, x) :: ps, h, K, H => by
    obtain ⟨v, h1, H1, k1⟩ := apub_one H
    obtain ⟨l, h2, H2, k2⟩ := apubs_one H1
    exact ⟨(i, v) :: l, h2, H2, fun K2 hk => k1 _ (k2 _ hk)⟩
/-- A row that is read: what append takes from. -/
def asrc (sz : Nat) (h : List AB) (y : AV) (K : Nat → (Nat → Nat → AV) → Prop) : Prop :=
  match y with
  | .sl _ _ m sz' c' => (sz' = sz ∨ m = 0) ∧ K m c'
  | .own d m => (match h[d]? with
    | some (.row N sz' c') => sz' = sz ∧ m ≤ N ∧ K m c'
    | _ => False)
  | _ => False
def Src (sz : Nat) (h : List AB) (y : AV) (m : Nat) (c' : Nat → Nat → AV) : Prop :=
  (∃ z e sz', y = .sl z e m sz' c' ∧ (sz' = sz ∨ m = 0)) ∨ (∃ d N, y = .own d m ∧ h[d]? = some (.row N sz c') ∧ m ≤ N)
theorem asrc_e {sz : Nat} {h : List AB} {y : AV} {K : Nat → (Nat → Nat → AV) → Prop} (H : asrc sz h y K) : ∃ m c', Src sz h y m c' ∧ K m c' := by
  unfold asrc at H
  split at H
  · exact ⟨_, _, .inl ⟨_, _, _, rfl, H.1⟩, H.2⟩
  · split at H
    · rename_i hd
      obtain ⟨rfl, h1, h2⟩ := H
      exact ⟨_, _, .inr ⟨_, _, rfl, hd, h1⟩, h2⟩
    · exact H.elim
  · exact H.elim
theorem asrc_i {sz : Nat} {h : List AB} {y : AV} {K : Nat → (Nat → Nat → AV) → Prop} {m : Nat} {c' : Nat → Nat → AV} (hs : Src sz h y m c') (H : K m c') : asrc sz h y K := by
  rcases hs with ⟨z, e, sz', rfl, h1⟩ | ⟨d, N, rfl, h1, h2⟩
  · exact ⟨h1, H⟩
  · unfold asrc
    simp only
    rw [h1]
    exact ⟨rfl, h2, H⟩
/-- One operation but a call: K is what must hold of its value and of the call's own blocks. -/
def aop (o : AOp) (e : AX → AV) (h : List AB) (K : AV → List AB → Prop) : Prop :=
  match o with
  | .mv x => K (e x) h
  | .pick c a b => match e c with
    | .bool q => acond q (K (e a) h) (K (e b) h)
    | _ => False
  | .nilck x => match e x with
    | .ptr d o => K (.ptr d o) h
    | .ip m c o => K (.ip m c o) h
    | .rp d sz k o => K (.rp d sz k o) h
    | .fn f m c => K (.fn f m c) h
    | _ => False
  | .box x => match e x with
    | .agg m c => K (.ptr h.length 0) (h ++ [.box m c])
    | .bot => False
    | .tup .. => False
    | v => K (.ptr h.length 0) (h ++ [.box 1 (ofL [v])])
  | .build zs ps => (∀ p ∈ ps, elemOK p.2.1 (e p.2.2)) ∧ (∀ p ∈ ps, p.1 + p.2.1 ≤ zs.length) ∧ K (.agg zs.length (tab zs.length (buildC (ofL zs) (ps.map fun p => (p.1, p.2.1, e p.2.2))))) h
  | .bsl n sz zs ps => (∀ p ∈ ps, elemOK sz (e p.2) ∧ (e p.2).pure) ∧ (∀ p ∈ ps, p.1 < n) ∧ K (.sl false true n sz (bslC (fun _ => ofL zs) (ps.map fun p => (p.1, e p.2)))) h
  | .bslp n sz zs ps => apubs e ps h (fun es h' => (∀ p ∈ es, elemOK sz p.2 ∧ p.1 < n) ∧ K (.sl false true n sz (bslC (fun _ => ofL zs) es)) h')
  | .ld none x => match e x with
    | .ptr d o => (match h[d]? with
      | some (.box m c) => o < m ∧ K (c o) h
      | _ => False)
    | .rp d sz k o => (match h[d]? with
      | some (.row n sz' c) => k < n ∧ o < sz ∧ sz' = sz ∧ K (c k o) h
      | _ => False)
    | .ip m c o => o < m ∧ K (c o) h
    | _ => False
  | .ld (some m') x => match e x with
    | .ptr d o => (match h[d]? with
      | some (.box m c) => o + m' ≤ m ∧ K (.agg m' (tab m' fun i => c (o + i))) h
      | _ => False)
    | .rp d sz k o => (match h[d]? with
      | some (.row n sz' c) => k < n ∧ o + m' ≤ sz ∧ sz' = sz ∧ K (.agg m' (tab m' fun i => c k (o + i))) h
      | _ => False)
    | .ip m c o => o + m' ≤ m ∧ K (.agg m' (tab m' fun i => c (o + i))) h
    | _ => False
  | .st m x y => match e x with
    | .ptr d o => (match h[d]? with
      | some (.box m' c) => o + m ≤ m' ∧ elemOK m (e y) ∧ K und (h.set d (.box m' (tab m' (stM c o (elemC (e y)) m))))
      | _ => False)
    | .rp d sz k o => (match h[d]? with
      | some (.row n sz' c) => k < n ∧ sz' = sz ∧ elemOK m (e y) ∧ (e y).pure ∧ ((m = 1 ∧ o < sz ∧ K und (h.set d (.row n sz (updR c k o (elemC (e y) 0))))) ∨ (m = sz ∧ o = 0 ∧ K und (h.set d (.row n sz (updRm c k (elemC (e y)))))))
      | _ => False)
    | _ => False
  | .fa x off => match e x with
    | .ptr d o => K (.ptr d (o + off)) h
    | .rp d sz k o => K (.rp d sz k (o + off)) h
    | .ip m c o => K (.ip m c (o + off)) h
    | _ => False
  | .fld x off m => match e x with
    | .agg n c => (match m with
      | none => off < n ∧ K (c off) h
      | some m' => off + m' ≤ n ∧ K (.agg m' (tab m' fun i => c (off + i))) h)
    | _ => False
  | .ia sz x i => match e i, e x with
    | .int _ j, .sl _ _ n sz' c => sz' = sz ∧ 0 < sz ∧ 0 ≤ j ∧ j < n ∧ K (.ip sz (c j.toNat) 0) h
    | .int _ j, .own d n => 0 ≤ j ∧ j < n ∧ K (.rp d sz j.toNat 0) h
    | .int _ j, .osl d sz' lo n => sz' = sz ∧ 0 ≤ j ∧ j < n ∧ K (.rp d sz (lo + j.toNat) 0) h
    | _, _ => False
  | .slc sz x lo hi => match e x with
    | .sl z _ n sz' c => sz' = sz ∧ (match lo.map e, hi.map e with
      | none, none => K (.sl z false n sz c) h
      | none, some (.int _ b) => 0 ≤ b ∧ b ≤ n ∧ K (.sl z false b.toNat sz c) h
      | some (.int _ a), none => 0 ≤ a ∧ a ≤ n ∧ K (.sl z false (n - a.toNat) sz (fun k => c (k + a.toNat))) h
      | some (.int _ a), some (.int _ b) => 0 ≤ a ∧ a ≤ b ∧ b ≤ n ∧ K (.sl z false (b.toNat - a.toNat) sz (fun k => c (k + a.toNat))) h
      | _, _ => False)
    | .own d n => (match lo.map e, hi.map e with
      | none, none => K (.own d n) h
      | none, some (.int _ b) => 0 ≤ b ∧ b ≤ n ∧ K (.own d b.toNat) h
      | some (.int _ a), none => 0 ≤ a ∧ a ≤ n ∧ K (.osl d sz a.toNat (n - a.toNat)) h
      | _, _ => False)
    | .osl d sz' l0 n => sz' = sz ∧ (match lo.map e, hi.map e with
      | some (.int _ a), none => 0 ≤ a ∧ a ≤ n ∧ K (.osl d sz (l0 + a.toNat) (n - a.toNat)) h
      | _, _ => False)
    | _ => False
  | .bin op x y => abin op (e x) (e y) (fun v => K v h)
  | .binb neg x y => match e x, e y with
    | .bool a, .bool b => K (.bool (if neg then !(a == b) else (a == b))) h
    | _, _ => False
  | .eqz tag neg x y => aeqz tag (e x) (e y) (fun b => K (.bool (if neg then !b else b)) h)
  | .eqa m neg x y => match e x, e y with
    | .agg m1 c, .agg m2 c' => m1 = m ∧ m2 = m ∧ eqcs m c c' m (fun b => K (.bool (if neg then !b else b)) h)
    | _, _ => False
  | .un op x => match op, e x with
    | .not, .bool b => K (.bool !b) h
    | .neg, .int k n => K (.int k (k.wrap (0 - n))) h
    | _, _ => False
  | .conv k x => match e x with
    | .int _ n => K (.int k (k.wrap n)) h
    | _ => False
  | .mkf f xs => K (.fn f xs.length (ofL (xs.map e))) h
  | .msl sz bytes zs x y => match e x, e y with
    | .int .i64 n, .int .i64 n' => zs.length = sz ∧ 0 ≤ n ∧ n ≤ n' ∧ n' ≤ 9223372036854775807 ∧ n' * bytes ≤ 140737488355328 ∧ K (.own h.length n.toNat) (h ++ [.row n.toNat sz fun _ => ofL zs])
    | _, _ => False
  | .len x => match e x with
    | .sl _ _ n _ _ => K (.int .i64 n) h
    | .own _ n => K (.int .i64 n) h
    | .osl _ _ _ n => K (.int .i64 n) h
    | _ => False
  | .clr sz x => match e x with
    | .osl d sz' lo _ => (match h[d]? with
      | some (.row N sz2 c) => sz' = sz ∧ sz2 = sz ∧ lo ≤ N ∧ K und (h.set d (.row lo sz c))
      | _ => False)
    | _ => False
  | .app sz bytes x y => 0 < sz ∧ asrc sz h (e y) (fun m c' => match e x with
      | .sl z ee n sz2 c => ee = true ∧ (sz2 = sz ∨ n = 0) ∧ (m = 0 → K (.sl z ee n sz2 c) h) ∧ (0 < m → n + m ≤ maxLen ∧ (n + m) * bytes ≤ 140737488355328 ∧ K (.own h.length (n + m)) (h ++ [.row (n + m) sz (appc n c c')]))
      | .own d n => (match h[d]? with
        | some (.row n' sz2 c) => n' = n ∧ sz2 = sz ∧ n + m ≤ maxLen ∧ (n + m) * bytes ≤ 140737488355328 ∧ K (.own h.length (n + m)) (h.set d .dead ++ [.row (n + m) sz (appc n c c')])
        | _ => False)
      | _ => False)
  | .mx x y => match e x, e y with
    | .int k a, .int _ b => K (.int k (max a b)) h
    | _, _ => False
  | .mn x y => match e x, e y with
    | .int k a, .int _ b => K (.int k (min a b)) h
    | _, _ => False
  | .ext x i => match e x with
    | .tup m c => i < m ∧ K (c i) h
    | _ => False
  | .call .. => False
  | .calv .. => False
  | .no => False

/-- What an operation gives is one value and one state of the call's own blocks. -/
theorem ibin_one {op : BinOp} {k : IntKind} {x y : Int} {K : AV → Prop} (H : ibin op k x y K) : ∃ r, ibin op k x y (fun a => a = r) ∧ K r := by
  cases op <;> simp only [ibin] at H ⊢
  case quo => exact ⟨_, ⟨H.1, rfl⟩, H.2⟩
  case rem => exact ⟨_, ⟨H.1, rfl⟩, H.2⟩
  all_goals first | exact ⟨_, rfl, H⟩ | exact H.elim
theorem ishift_one {op : BinOp} {k : IntKind} {x y : Int} {K : AV → Prop} (H : ishift op k x y K) : ∃ r, ishift op k x y (fun a => a = r) ∧ K r := by
  cases op <;> simp only [ishift] at H ⊢
  all_goals first | exact ⟨_, ⟨H.1, rfl⟩, H.2⟩ | exact H.elim
theorem abin_one {op : BinOp} {x y : AV} {K : AV → Prop} (H : abin op x y K) : ∃ r, abin op x y (fun a => a = r) ∧ K r := by
  cases x <;> cases y <;> simp only [abin] at H ⊢
  case int.int k a k' b =>
    cases op <;> simp only at H ⊢
    case shl => exact ishift_one H
    case shr => exact ishift_one H
    all_goals
      obtain ⟨h1, H⟩ := H
      obtain ⟨r, h2, h3⟩ := ibin_one H
      exact ⟨r, ⟨h1, h2⟩, h3⟩
theorem aeqz_one {tag : Nat} {x y : AV} {K : Bool → Prop} (H : aeqz tag x y K) : ∃ r, aeqz tag x y (fun a => a = r) ∧ K r := by
  unfold aeqz at H ⊢
  split at H <;> first | exact ⟨_, rfl, H⟩ | exact H.elim
theorem aop_one (o : AOp) (e : AX → AV) (h : List AB) (K : AV → List AB → Prop) (H : aop o e h K) : ∃ r h', aop o e h (fun a b => a = r ∧ b = h') ∧ K r h' := by
  cases o <;> simp only [aop] at H ⊢
  case mv => exact ⟨_, _, ⟨rfl, rfl⟩, H⟩
  case pick c a b =>
    generalize e c = v at H ⊢
    cases v <;> simp only at H ⊢
    case bool q =>
      cases q
      · exact ⟨_, _, ⟨rfl, rfl⟩, H⟩
      · exact ⟨_, _, ⟨rfl, rfl⟩, H⟩
  case nilck x =>
    generalize e x = v at H ⊢
    cases v <;> simp only at H ⊢ <;> first | exact ⟨_, _, ⟨rfl, rfl⟩, H⟩ | exact H.elim
  case box x =>
    generalize e x = v at H ⊢
    cases v <;> simp only at H ⊢ <;> first | exact ⟨_, _, ⟨rfl, rfl⟩, H⟩ | exact H.elim
  case build zs ps => exact ⟨_, _, ⟨H.1, H.2.1, rfl, rfl⟩, H.2.2⟩
  case bsl n sz zs ps => exact ⟨_, _, ⟨H.1, H.2.1, rfl, rfl⟩, H.2.2⟩
  case bslp n sz zs ps =>
    obtain ⟨l, h', H1, k1⟩ := apubs_one H
    exact ⟨_, _, k1 _ ⟨H1.1, rfl, rfl⟩, H1.2⟩
  case ld m x =>
    cases m <;> simp only at H ⊢ <;> generalize e x = v at H ⊢ <;> cases v <;> simp only at H ⊢
    case none.ip m c o => exact ⟨_, _, ⟨H.1, rfl, rfl⟩, H.2⟩
    case some.ip m c o => exact ⟨_, _, ⟨H.1, rfl, rfl⟩, H.2⟩
    case none.ptr d o => split at H <;> first | exact ⟨_, _, ⟨H.1, rfl, rfl⟩, H.2⟩ | exact H.elim
    case some.ptr d o => split at H <;> first | exact ⟨_, _, ⟨H.1, rfl, rfl⟩, H.2⟩ | exact H.elim
    case none.rp d o => split at H <;> first | exact ⟨_, _, ⟨H.1, H.2.1, H.2.2.1, rfl, rfl⟩, H.2.2.2⟩ | exact H.elim
    case some.rp d o => split at H <;> first | exact ⟨_, _, ⟨H.1, H.2.1, H.2.2.1, rfl, rfl⟩, H.2.2.2⟩ | exact H.elim
  case st m x y =>
    generalize e x = v at H ⊢
    cases v <;> simp only at H ⊢
    case ptr d o => split at H <;> first | exact ⟨_, _, ⟨H.1, H.2.1, rfl, rfl⟩, H.2.2⟩ | exact H.elim
    case rp d sz k o =>
      split at H
      · obtain ⟨h1, h2, h3, h4, h5⟩ := H
        rcases h5 with ⟨a, b, h5⟩ | ⟨a, b, h5⟩
        · exact ⟨_, _, ⟨h1, h2, h3, h4, .inl ⟨a, b, rfl, rfl⟩⟩, h5⟩
        · exact ⟨_, _, ⟨h1, h2, h3, h4, .inr ⟨a, b, rfl, rfl⟩⟩, h5⟩
      · exact H.elim
  case fa x off =>
    generalize e x = v at H ⊢
    cases v <;> simp only at H ⊢ <;> first | exact ⟨_, _, ⟨rfl, rfl⟩, H⟩ | exact H.elim
  case fld x off m =>
    generalize e x = v at H ⊢
    cases v <;> simp only at H ⊢
    case agg n c => cases m <;> simp only at H ⊢ <;> exact ⟨_, _, ⟨H.1, rfl, rfl⟩, H.2⟩
  case ia sz x i =>
    generalize e x = v at H ⊢
    generalize e i = j at H ⊢
    cases j <;> cases v <;> simp only at H ⊢
    · exact ⟨_, _, ⟨H.1, H.2.1, H.2.2.1, H.2.2.2.1, rfl, rfl⟩, H.2.2.2.2⟩
    · exact ⟨_, _, ⟨H.1, H.2.1, rfl, rfl⟩, H.2.2⟩
    · exact ⟨_, _, ⟨H.1, H.2.1, H.2.2.1, rfl, rfl⟩, H.2.2.2⟩
  case slc sz x lo hi =>
    generalize e x = v at H ⊢
    cases v <;> simp only at H ⊢
    case sl z ee n sz' c =>
      obtain ⟨h1, H⟩ := H
      generalize lo.map e = a at H ⊢
      generalize hi.map e = b at H ⊢
      split at H
      · exact ⟨_, _, ⟨h1, rfl, rfl⟩, H⟩
      · exact ⟨_, _, ⟨h1, H.1, H.2.1, rfl, rfl⟩, H.2.2⟩
      · exact ⟨_, _, ⟨h1, H.1, H.2.1, rfl, rfl⟩, H.2.2⟩
      · exact ⟨_, _, ⟨h1, H.1, H.2.1, H.2.2.1, rfl, rfl⟩, H.2.2.2⟩
      · exact H.elim
    case own d n =>
      generalize lo.map e = a at H ⊢
      generalize hi.map e = b at H ⊢
      split at H
      · exact ⟨_, _, ⟨rfl, rfl⟩, H⟩
      · exact ⟨_, _, ⟨H.1, H.2.1, rfl, rfl⟩, H.2.2⟩
      · exact ⟨_, _, ⟨H.1, H.2.1, rfl, rfl⟩, H.2.2⟩
      · exact H.elim
    case osl d sz' l0 n =>
      obtain ⟨h1, H⟩ := H
      generalize lo.map e = a at H ⊢
      generalize hi.map e = b at H ⊢
      split at H
      · exact ⟨_, _, ⟨h1, H.1, H.2.1, rfl, rfl⟩, H.2.2⟩
      · exact H.elim
  case bin op x y =>
    obtain ⟨r, h1, h2⟩ := abin_one H
    exact ⟨r, h, by simpa using h1, h2⟩
  case binb neg x y =>
    generalize e x = v at H ⊢
    generalize e y = u at H ⊢
    cases v <;> cases u <;> simp only at H ⊢ <;> exact ⟨_, _, ⟨rfl, rfl⟩, H⟩
  case eqz tag neg x y =>
    obtain ⟨r, h1, h2⟩ := aeqz_one H
    refine ⟨_, h, ?_, h2⟩
    have : ∀ {K K' : Bool → Prop} (x y : AV), (∀ b, K b → K' b) → aeqz tag x y K → aeqz tag x y K' := fun x y hk hh => by
      unfold aeqz at hh ⊢
      split at hh <;> first | exact hk _ hh | exact hh.elim
    exact this _ _ (fun b hb => by rw [hb]; exact ⟨rfl, rfl⟩) h1
  case eqa m neg x y =>
    generalize e x = v at H ⊢
    generalize e y = u at H ⊢
    cases v <;> cases u <;> simp only at H ⊢
    obtain ⟨q, h1, k1⟩ := eqcs_one H.2.2
    exact ⟨_, _, ⟨H.1, H.2.1, k1 _ ⟨rfl, rfl⟩⟩, h1⟩
  case clr sz x =>
    generalize e x = v at H ⊢
    cases v <;> simp only at H ⊢
    split at H
    · exact ⟨_, _, ⟨H.1, H.2.1, H.2.2.1, rfl, rfl⟩, H.2.2.2⟩
    · exact H.elim
  case un op x =>
    generalize e x = v at H ⊢
    cases op <;> cases v <;> simp only at H ⊢ <;> first | exact ⟨_, _, ⟨rfl, rfl⟩, H⟩ | exact H.elim
  case conv k x =>
    generalize e x = v at H ⊢
    cases v <;> simp only at H ⊢ <;> first | exact ⟨_, _, ⟨rfl, rfl⟩, H⟩ | exact H.elim
  case mkf => exact ⟨_, _, ⟨rfl, rfl⟩, H⟩
  case msl sz bytes zs x y =>
    generalize e x = v at H ⊢
    generalize e y = u at H ⊢
    split at H
    · exact ⟨_, _, ⟨H.1, H.2.1, H.2.2.1, H.2.2.2.1, H.2.2.2.2.1, rfl, rfl⟩, H.2.2.2.2.2⟩
    · exact H.elim
  case len x =>
    generalize e x = v at H ⊢
    cases v <;> simp only at H ⊢ <;> first | exact ⟨_, _, ⟨rfl, rfl⟩, H⟩ | exact H.elim
  case app sz bytes x y =>
    obtain ⟨h0, H⟩ := H
    obtain ⟨m, c', hs, H⟩ := asrc_e H
    generalize e x = v at H ⊢
    cases v <;> simp only at H ⊢ <;> try exact H.elim
    case sl z ee n sz2 c =>
      obtain ⟨h2, h3, h4, h5⟩ := H
      by_cases hm : m = 0
      · exact ⟨_, _, ⟨h0, asrc_i hs ⟨h2, h3, fun _ => ⟨rfl, rfl⟩, fun h => by omega⟩⟩, h4 hm⟩
      · exact ⟨_, _, ⟨h0, asrc_i hs ⟨h2, h3, fun h => by omega, fun _ => ⟨(h5 (by omega)).1, (h5 (by omega)).2.1, rfl, rfl⟩⟩⟩, (h5 (by omega)).2.2⟩
    case own d n =>
      split at H
      · rename_i n' sz2 c hd
        exact ⟨_, _, ⟨h0, asrc_i hs (by simp only; exact ⟨H.1, H.2.1, H.2.2.1, H.2.2.2.1, trivial, trivial⟩)⟩, H.2.2.2.2⟩
      · exact H.elim
  case mx x y =>
    generalize e x = v at H ⊢
    generalize e y = u at H ⊢
    cases v <;> cases u <;> simp only at H ⊢ <;> exact ⟨_, _, ⟨rfl, rfl⟩, H⟩
  case mn x y =>
    generalize e x = v at H ⊢
    generalize e y = u at H ⊢
    cases v <;> cases u <;> simp only at H ⊢ <;> exact ⟨_, _, ⟨rfl, rfl⟩, H⟩
  case ext x i =>
    generalize e x = v at H ⊢
    cases v <;> simp only at H ⊢
    exact ⟨_, _, ⟨H.1, rfl, rfl⟩, H.2⟩
end Go.Proofs.Ytomkjfhepfinhaa

namespace Go.Proofs.Ytomkjfhepfinhaa
open Go.RowKit
variable {F : Nat → Prop}

/-- A constant. -/
def ofV1 : Value → AV
  | .bool b => .bool b
  | .int k n => .int k n
  | .pointer none => .nilp
  | .nilFunc => .nilf
  | .slice none 0 0 => .sl true true 0 0 (fun _ _ => .bot)
  | _ => .bot
def ofV : Value → AV
  | .agg cs => if cs.toList.all (fun u => u.oneCell') then .agg cs.size (ofL (cs.toList.map ofV1)) else .bot
  | .tuple cs => if cs.size = 0 then und else .bot
  | v => ofV1 v
theorem rep_ofV1 (M : Nat → Prop) (w : World) (g : GM) (v : Value) : rep M w (ofV1 v) g v := by
  unfold ofV1
  split
  · rfl
  · rfl
  · rfl
  · rfl
  · exact ⟨none, 0, rfl, by simp, fun _ => ⟨rfl, rfl⟩, fun _ => rfl, Nat.le_refl _, fun k hk => by omega⟩
  · trivial
theorem ofL_get {l : List AV} {i : Nat} {v : AV} (h : l[i]? = some v) : ofL l i = v := by simp [ofL, List.getD, h]
theorem rep_ofV (M : Nat → Prop) (w : World) (g : GM) (v : Value) : rep M w (ofV v) g v := by
  unfold ofV
  split
  · rename_i cs
    split
    · rename_i h
      refine ⟨cs, rfl, rfl, fun i hi => ⟨cs[i], Array.getElem?_eq_getElem hi, ?_, ?_⟩⟩
      · exact List.all_eq_true.1 h _ (by simp)
      · rw [ofL_get (v := ofV1 cs[i]) (by simp [hi])]
        exact rep_ofV1 M w g _
    · trivial
  · rename_i cs
    split
    · rename_i h
      exact ⟨cs, rfl, h, fun i hi => by omega⟩
    · trivial
  · exact rep_ofV1 M w g v

def cx : Operand → AX
  | .tmp t => .t t
  | .const v => .k (ofV v)
  | .global _ => .k .bot
  | .func f => .k (.fn f 0 (ofL []))

def tyAgg (P : Program) (t : TypeId) : Option Bool := (P.underlying t).map fun | .struct _ | .array _ _ => true | _ => false
def tySz (P : Program) (t : TypeId) : Option Nat := (P.info? t).map (·.size)
def tyFld (P : Program) (t : TypeId) (f : Nat) : Option Field := match P.underlying t with | some (.struct fs) => fs[f]? | _ => none
/-- The element of a slice type: its number, its cells, its bytes, its zero's cells. -/
def tyEl (P : Program) (t : TypeId) : Option (TypeId × TypeInfo) := match P.underlying t with | some (.slice e) => (P.info? e).map fun i => (e, i) | _ => none
/-- A slice of slices. -/
def tySl (P : Program) (t : TypeId) : Bool := match P.underlying t with
  | some (.slice e) => (match P.underlying e with
    | some (.slice _) => true
    | _ => false)
  | _ => false
def zcells (i : TypeInfo) : Option (List Value) := match i.zero with | some z => if z.cells.size = i.size && z.cells.toList.all (fun u => u.oneCell') then some z.cells.toList else none | none => none
def nilT : TypeDesc → Option Nat
  | .slice _ => some 0
  | .pointer _ => some 1
  | .func _ _ _ => some 2
  | _ => none

/-- A struct all of whose fields are numbers. -/
def flatS (P : Program) (t : TypeId) (fs : Array Field) : Bool := !P.stoodInHeld t && !P.eqGuardType P.depth t && (List.range fs.size).all fun i => match fs[i]? with
  | some f => f.offset == i && f.name != "_" && tyAgg P f.type == some false && (match P.underlying f.type with
    | some (.int _) => true
    | _ => false)
  | none => false
def compCall (P : Program) (c : Call) : AOp :=
  match c.callee with
  | .builtin .len => match c.args.toList, (c.argTypes[0]?).bind (tyEl P) with
    | [x], some _ => .len (cx x)
    | _, _ => .no
  | .builtin .clear => match c.args.toList, (c.argTypes[0]?).bind (tyEl P) with
    | [x], some (_, i) => match zcells i with
      | some _ => .clr i.size (cx x)
      | none => .no
    | _, _ => .no
  | .builtin .max => match c.args.toList with
    | [x, y] => .mx (cx x) (cx y)
    | _ => .no
  | .builtin .min => match c.args.toList with
    | [x, y] => .mn (cx x) (cx y)
    | _ => .no
  | .builtin .append => match c.args.toList, c.argTypes.toList with
    | [x, y], [t, t'] => if t = t' then match tyEl P t with
      | some (_, i) => match zcells i with
        | some _ => .app i.size i.bytes (cx x) (cx y)
        | none => .no
      | none => .no
      else .no
    | _, _ => .no
  | .value (.func f) => .call f (c.args.toList.map cx)
  | .value (.tmp t) => .calv (.t t) (c.args.toList.map cx)
  | _ => .no
def partsOf (P : Program) (t : TypeId) : List (Nat × Operand) → Option (List (Nat × Nat × AX))
  | [] => some []
  | (i, x) :: ps => match tyFld P t i, partsOf P t ps with
    | some f, some l => match tySz P f.type with
      | some s => some ((f.offset, s, cx x) :: l)
      | none => none
    | _, _ => none
def compOp (P : Program) : Op → AOp
  | .move x | .assign x => .mv (cx x)
  | .pick c a b => .pick (cx c) (cx a) (cx b)
  | .nilCheck x => .nilck (cx x)
  | .alloc t => match P.info? t with
    | some i => match i.zero with
      | some z => .box (.k (ofV z))
      | none => .no
    | none => .no
  | .box _ x => .box (cx x)
  | .build t ps => match P.underlying t with
    | some (.struct fs) => if fs.toList.all (fun f => (tySz P f.type).isSome) then match (P.info? t).bind zcells, partsOf P t ps.toList with
      | some zs, some l => .build (zs.map ofV1) l
      | _, _ => .no
      else .no
    | _ => .no
  | .buildSlice t n ps => match tyEl P t with
    | some (_, i) => match zcells i with
      | some zs => if 0 < i.size ∧ n * i.size ≤ 1000 then (if tySl P t then .bslp n i.size (zs.map ofV1) (ps.toList.map fun p => (p.1, cx p.2)) else .bsl n i.size (zs.map ofV1) (ps.toList.map fun p => (p.1, cx p.2))) else .no
      | none => .no
    | none => .no
  | .load t a => match tyAgg P t with
    | some true => match tySz P t with
      | some m => .ld (some m) (cx a)
      | none => .no
    | some false => .ld none (cx a)
    | none => .no
  | .store t a v => match tySz P t with
    | some m => .st m (cx a) (cx v)
    | none => .no
  | .fieldAddr s x f => match tyFld P s f with
    | some fd => match tySz P fd.type with
      | some (_ + 1) => .fa (cx x) fd.offset
      | _ => .no
    | none => .no
  | .field s x f => match tyFld P s f with
    | some fd => match tyAgg P fd.type with
      | some true => match tySz P fd.type with
        | some m => .fld (cx x) fd.offset (some m)
        | none => .no
      | some false => .fld (cx x) fd.offset none
      | none => .no
    | none => .no
  | .indexAddr t x i => match tyEl P t with
    | some (_, n) => .ia n.size (cx x) (cx i)
    | none => .no
  | .slice t x lo hi none => match tyEl P t with
    | some (_, n) => .slc n.size (cx x) (lo.map cx) (hi.map cx)
    | none => .no
  | .binOp op t x y _ => match P.underlying t with
    | some (.int _) => .bin op (cx x) (cx y)
    | some .bool => match op with
      | .eql => .binb false (cx x) (cx y)
      | .neq => .binb true (cx x) (cx y)
      | _ => .no
    | some d => match nilT d with
      | some tag => match op with
        | .eql => .eqz tag false (cx x) (cx y)
        | .neq => .eqz tag true (cx x) (cx y)
        | _ => .no
      | none => match d with
        | .struct fs => if flatS P t fs then (match op with
          | .eql => .eqa fs.size false (cx x) (cx y)
          | .neq => .eqa fs.size true (cx x) (cx y)
          | _ => .no) else .no
        | _ => .no
    | none => .no
  | .unOp op _ x => .un op (cx x)
  | .convert s d x => match P.underlying s, P.underlying d with
    | some _, some (.int k) => .conv k (cx x)
    | _, _ => .no
  | .makeFunc (.func f) first cap => if first.toList.isEmpty then .mkf f (cap.toList.map cx) else .no
  | .makeSlice t l c => match tyEl P t with
    | some (_, i) => match zcells i with
      | some zs => if 0 < i.size then .msl i.size i.bytes (zs.map ofV1) (cx l) (cx c) else .no
      | none => .no
    | none => .no
  | .extract t i => .ext (cx t) i
  | .call c => compCall P c
  | _ => .no

/-- The operation gives this value, in this state. -/
def RunsTo (F : Nat → Prop) (P : Program) (s : Sem Next) (g : GM) (h : List AB) (w : World) (r : AV) (h' : List AB) : Prop :=
  ∃ u w' g', (s.run P w = .ok (.value u) w' ∨ (s.run P w = .ok .skip w' ∧ u = undef)) ∧ rep (MM F g' h') w' r g' u ∧ Tr F g h w g' h' w'
theorem RunsTo.same {P : Program} {s : Sem Next} {g : GM} {h : List AB} {w : World} {r : AV} {u : Value} (k : HOK F g w h) (hs : s.run P w = .ok (.value u) w) (hr : rep (MM F g h) w r g u) : RunsTo F P s g h w r h :=
  ⟨u, w, g, .inl hs, hr, Tr.refl k⟩

theorem tyEl_some {P : Program} {t e : TypeId} {i : TypeInfo} (h : tyEl P t = some (e, i)) : P.underlying t = some (.slice e) ∧ P.info? e = some i := by
  unfold tyEl at h
  split at h
  · rename_i e' he
    cases hi : P.info? e' with
    | none => rw [hi] at h; cases h
    | some j =>
      rw [hi] at h
      injection h with h
      injection h with h1 h2
      subst h1; subst h2
      exact ⟨he, hi⟩
  · cases h
theorem tyAgg_run {P : Program} {t : TypeId} {b : Bool} (h : tyAgg P t = some b) (w : World) : (isAgg t).run P w = .ok b w := by
  unfold tyAgg at h
  cases hd : P.underlying t with
  | none => rw [hd] at h; cases h
  | some d =>
    rw [hd] at h
    simp only [isAgg, Sem.run_bind, run_underlying hd, Result.andThen_ok]
    cases d <;> simp only [Option.map_some, Option.some.injEq] at h <;> subst h <;> rfl
theorem tySz_run {P : Program} {t : TypeId} {m : Nat} (h : tySz P t = some m) (w : World) : (sizeOf t).run P w = .ok m w := by
  unfold tySz at h
  cases hd : P.info? t with
  | none => rw [hd] at h; cases h
  | some d =>
    rw [hd] at h
    injection h with h
    simp [sizeOf, typeInfo, hd, h]
theorem run_load_cell {P : Program} {w : World} {a : Addr} {u : Value} (h : w.cell? a = some u) : (load a).run P w = .ok u w := by simp [h]
theorem run_loadVar_one {P : Program} {t : TypeId} {w : World} {a : Addr} {u : Value} (ht : tyAgg P t = some false) (h : w.cell? a = some u) : (loadVar t a).run P w = .ok u w := by
  simp only [loadVar, Sem.run_bind, tyAgg_run ht, Result.andThen_ok, Bool.false_eq_true, if_false]
  exact run_load_cell h
theorem run_loadVar_agg {P : Program} {t : TypeId} {m : Nat} {w : World} {b off : Nat} (f : Nat → Value) (ht : tyAgg P t = some true) (hs : tySz P t = some m) (h : ∀ i, i < m → w.cell? ⟨b, off + i, none⟩ = some (f i)) :
    (loadVar t ⟨b, off, none⟩).run P w = .ok (.agg ((List.range m).map f).toArray) w := by
  simp only [loadVar, Sem.run_bind, tyAgg_run ht, Result.andThen_ok, if_true, tySz_run hs]
  rw [run_loadCells w ⟨b, off, none⟩ m f (fun j hj => by rw [Addr.add_lit]; exact h j hj)]
  rfl

/-- Cells in a row, as an aggregate. -/
theorem rep_cells {M : Nat → Prop} {w : World} {g : GM} {m : Nat} {c : Nat → AV} (f : Nat → Value) (h : ∀ i, i < m → (f i).oneCell' = true ∧ rep M w (c i) g (f i)) : rep M w (.agg m c) g (.agg ((List.range m).map f).toArray) :=
  ⟨_, rfl, by simp, fun i hi => ⟨f i, by simp [hi], (h i hi).1, (h i hi).2⟩⟩
theorem choose_fun {m : Nat} {p : Nat → Value → Prop} (h : ∀ i, i < m → ∃ u, p i u) : ∃ f : Nat → Value, ∀ i, i < m → p i (f i) :=
  ⟨fun i => if hi : i < m then (h i hi).choose else undef, fun i hi => by simp only [hi, dif_pos]; exact (h i hi).choose_spec⟩
end Go.Proofs.Ytomkjfhepfinhaa

namespace Go.Proofs.Ytomkjfhepfinhaa
open Go.RowKit
variable {F : Nat → Prop}

section
variable {P : Program} {g : GM} {h : List AB} {w : World} {r : AV} {h' : List AB}

theorem val_ld {t : TypeId} {v : AV} {u : Value} {m' : Option Nat} (hok : HOK F g w h) (ht : (m' = none ∧ tyAgg P t = some false) ∨ ∃ m, m' = some m ∧ tyAgg P t = some true ∧ tySz P t = some m) (hr : rep (MM F g h) w v g u)
    (H : aop (.ld m' (.k v)) (fun x => x.ev (fun _ => .bot)) h (fun a b => a = r ∧ b = h')) : ∃ u', (Instr.loadAt t u).run P w = .ok u' w ∧ rep (MM F g h) w r g u' ∧ h = h' := by
  rcases ht with ⟨rfl, ht⟩ | ⟨m, rfl, ht, hs⟩
  · simp only [aop, AX.ev] at H
    cases v <;> simp only at H
    case ptr d o =>
      obtain ⟨b, cap, hg, rfl⟩ := hr
      split at H
      · rename_i m c hd
        obtain ⟨ho, rfl, rfl⟩ := H
        obtain ⟨cs, t', hh, hm, hc⟩ := hok.box d m c b cap hd hg
        obtain ⟨x, hx, _, hxr⟩ := hc o ho
        exact ⟨x, by simp only [Instr.loadAt, Instr.sureAddr, Sem.run_bind, Sem.run_pure, Result.andThen_ok]; exact run_loadVar_one ht (cell_of_heap hh hx), hxr, rfl⟩
      · exact H.elim
    case rp d sz k o =>
      obtain ⟨b, cap, hg, rfl⟩ := hr
      split at H
      · rename_i n sz' c hd
        obtain ⟨hk, ho, rfl, rfl, rfl⟩ := H
        obtain ⟨_, _, cs, t', hh, hm, hc⟩ := hok.row d n _ c b cap hd hg
        obtain ⟨x, hx, _, hxr⟩ := hc k hk o ho
        exact ⟨x, by simp only [Instr.loadAt, Instr.sureAddr, Sem.run_bind, Sem.run_pure, Result.andThen_ok]; exact run_loadVar_one ht (cell_of_heap hh hx), rep_up (g0_le g) hxr, rfl⟩
      · exact H.elim
    case ip m c o =>
      obtain ⟨b, off, rfl, hb, hn, hc⟩ := hr
      obtain ⟨ho, rfl, rfl⟩ := H
      obtain ⟨x, hx, _, hxr⟩ := hc o ho
      exact ⟨x, by simp only [Instr.loadAt, Instr.sureAddr, Sem.run_bind, Sem.run_pure, Result.andThen_ok]; exact run_loadVar_one ht hx, rep_up (g0_le g) hxr, rfl⟩
  · simp only [aop, AX.ev] at H
    cases v <;> simp only at H
    case ptr d o =>
      obtain ⟨b, cap, hg, rfl⟩ := hr
      split at H
      · rename_i m1 c hd
        obtain ⟨ho, rfl, rfl⟩ := H
        obtain ⟨cs, t', hh, hm, hc⟩ := hok.box d m1 c b cap hd hg
        obtain ⟨f, hf⟩ := choose_fun (fun i (hi : i < m) => hc (o + i) (by omega))
        refine ⟨_, ?_, rep_cells f (fun i hi => by rw [tab_get hi]; exact (hf i hi).2), rfl⟩
        simp only [Instr.loadAt, Instr.sureAddr, Sem.run_bind, Sem.run_pure, Result.andThen_ok]
        exact run_loadVar_agg f ht hs (fun i hi => cell_of_heap hh (hf i hi).1)
      · exact H.elim
    case rp d sz k o =>
      obtain ⟨b, cap, hg, rfl⟩ := hr
      split at H
      · rename_i n sz' c hd
        obtain ⟨hk, ho, rfl, rfl, rfl⟩ := H
        obtain ⟨_, _, cs, t', hh, hm, hc⟩ := hok.row d n _ c b cap hd hg
        obtain ⟨f, hf⟩ := choose_fun (fun i (hi : i < m) => hc k hk (o + i) (by omega))
        refine ⟨_, ?_, rep_cells f (fun i hi => by rw [tab_get hi]; exact ⟨(hf i hi).2.1, rep_up (g0_le g) (hf i hi).2.2⟩), rfl⟩
        simp only [Instr.loadAt, Instr.sureAddr, Sem.run_bind, Sem.run_pure, Result.andThen_ok]
        exact run_loadVar_agg f ht hs (fun i hi => by rw [Nat.add_assoc]; exact cell_of_heap hh (hf i hi).1)
      · exact H.elim
    case ip m1 c o =>
      obtain ⟨b, off, rfl, hb, hn, hc⟩ := hr
      obtain ⟨ho, rfl, rfl⟩ := H
      obtain ⟨f, hf⟩ := choose_fun (fun i (hi : i < m) => hc (o + i) (by omega))
      refine ⟨_, ?_, rep_cells f (fun i hi => by rw [tab_get hi]; exact ⟨(hf i hi).2.1, rep_up (g0_le g) (hf i hi).2.2⟩), rfl⟩
      simp only [Instr.loadAt, Instr.sureAddr, Sem.run_bind, Sem.run_pure, Result.andThen_ok]
      exact run_loadVar_agg f ht hs (fun i hi => by rw [Nat.add_assoc]; exact (hf i hi).1)

theorem val_fa {s : TypeId} {f : Nat} {fd : Field} {n : Nat} {v : AV} {u : Value} (hf : tyFld P s f = some fd) (hs : tySz P fd.type = some (n + 1)) (hr : rep (MM F g h) w v g u)
    (H : aop (.fa (.k v) fd.offset) (fun x => x.ev (fun _ => .bot)) h (fun a b => a = r ∧ b = h')) : ∃ u', (Instr.fieldAt s u f).run P w = .ok u' w ∧ rep (MM F g h) w r g u' ∧ h = h' := by
  have hd : ∃ fs, P.underlying s = some (.struct fs) ∧ fs[f]? = some fd := by
    unfold tyFld at hf
    split at hf
    · rename_i fs hfs; exact ⟨fs, hfs, hf⟩
    · cases hf
  obtain ⟨fs, hu, hfs⟩ := hd
  have key : ∀ b o, (Instr.fieldAt s (.pointer (some ⟨b, o, none⟩)) f).run P w = .ok (.pointer (some ⟨b, o + fd.offset, none⟩)) w := fun b o => by
    simp only [Instr.fieldAt, Sem.run_bind, run_underlying hu, Result.andThen_ok, hfs, Instr.sureAddr, Sem.run_pure, fieldPlace, tySz_run hs, Nat.add_one_ne_zero, if_false, Addr.add_lit]
  simp only [aop, AX.ev] at H
  cases v <;> simp only at H
  case ptr d o =>
    obtain ⟨b, cap, hg, rfl⟩ := hr
    obtain ⟨rfl, rfl⟩ := H
    exact ⟨_, key b o, ⟨b, cap, hg, rfl⟩, rfl⟩
  case rp d sz k o =>
    obtain ⟨b, cap, hg, rfl⟩ := hr
    obtain ⟨rfl, rfl⟩ := H
    exact ⟨_, key b _, ⟨b, cap, hg, by rw [Nat.add_assoc]⟩, rfl⟩
  case ip m c o =>
    obtain ⟨b, off, rfl, hb, hn, hc⟩ := hr
    obtain ⟨rfl, rfl⟩ := H
    exact ⟨_, key b _, ⟨b, off, by rw [Nat.add_assoc], hb, hn, hc⟩, rfl⟩

theorem val_ia {t e : TypeId} {i : TypeInfo} {v j : AV} {u x : Value} (ht : tyEl P t = some (e, i)) (hr : rep (MM F g h) w v g u) (hj : rep (MM F g h) w j g x)
    (H : aop (.ia i.size (.k v) (.k j)) (fun x => x.ev (fun _ => .bot)) h (fun a b => a = r ∧ b = h')) : ∃ u', (Instr.indexAt t u x).run P w = .ok u' w ∧ rep (MM F g h) w r g u' ∧ h = h' := by
  obtain ⟨hu, hi⟩ := tyEl_some ht
  have hsz : ∀ w : World, (sizeOf e).run P w = .ok i.size w := fun w => tySz_run (by simp [tySz, hi]) w
  simp only [aop, AX.ev] at H
  cases j <;> cases v <;> simp only at H
  case int.sl k n z ee m sz' c =>
    obtain rfl := hj
    obtain ⟨rfl, hs0, h0, hlt, rfl, rfl⟩ := H
    obtain ⟨A, cap, rfl, _, _, _, _, hc⟩ := hr
    obtain ⟨b, off, u0, rfl, hb, hn, _⟩ := hc n.toNat (by omega) 0 hs0
    refine ⟨.pointer (some ⟨b, off + n.toNat * i.size, none⟩), ?_, ⟨b, off + n.toNat * i.size, rfl, hb, hn, fun o ho => ?_⟩, rfl⟩
    · simp [Instr.indexAt, asIntOf, run_underlying hu, h0, hlt, hsz, Addr.add_lit]
    · obtain ⟨b', off', u1, hA, _, _, hcell, h1, hr1⟩ := hc n.toNat (by omega) o ho
      injection hA with hA
      injection hA with e1 e2
      subst e1; subst e2
      exact ⟨u1, hcell, h1, hr1⟩
  case int.own k n d m =>
    obtain rfl := hj
    obtain ⟨h0, hlt, rfl, rfl⟩ := H
    obtain ⟨b, cap, hg, rfl, _⟩ := hr
    refine ⟨.pointer (some ⟨b, n.toNat * i.size, none⟩), ?_, ⟨b, cap, hg, rfl⟩, rfl⟩
    simp [Instr.indexAt, asIntOf, run_underlying hu, h0, hlt, hsz, Addr.add_lit]
  case int.osl k n d sz' lo m =>
    obtain rfl := hj
    obtain ⟨rfl, h0, hlt, rfl, rfl⟩ := H
    obtain ⟨b, cap, p, hg, rfl, hcap, hp⟩ := hr
    have hp' := hp (by omega)
    subst hp'
    refine ⟨.pointer (some ⟨b, (lo + n.toNat) * i.size + 0, none⟩), ?_, ⟨b, cap, hg, rfl⟩, rfl⟩
    simp [Instr.indexAt, asIntOf, run_underlying hu, h0, hlt, hsz, Addr.add_lit, Nat.add_mul]

theorem val_fld {s : TypeId} {f : Nat} {fd : Field} {v : AV} {u : Value} {m' : Option Nat} (hf : tyFld P s f = some fd) (ht : (m' = none ∧ tyAgg P fd.type = some false) ∨ ∃ m, m' = some m ∧ tyAgg P fd.type = some true ∧ tySz P fd.type = some m) (hr : rep (MM F g h) w v g u)
    (H : aop (.fld (.k v) fd.offset m') (fun x => x.ev (fun _ => .bot)) h (fun a b => a = r ∧ b = h')) : ∃ u', (Instr.field s u f).run P w = .ok u' w ∧ rep (MM F g h) w r g u' ∧ h = h' := by
  have hd : ∃ fs, P.underlying s = some (.struct fs) ∧ fs[f]? = some fd := by
    unfold tyFld at hf
    split at hf
    · rename_i fs hfs; exact ⟨fs, hfs, hf⟩
    · cases hf
  obtain ⟨fs, hu, hfs⟩ := hd
  simp only [aop, AX.ev] at H
  cases v <;> simp only at H
  case agg n c =>
    obtain ⟨cs, rfl, hm, hc⟩ := hr
    rcases ht with ⟨rfl, ht⟩ | ⟨m, rfl, ht, hs⟩
    · simp only at H
      obtain ⟨ho, rfl, rfl⟩ := H
      obtain ⟨x, hx, _, hxr⟩ := hc _ ho
      refine ⟨x, ?_, hxr, rfl⟩
      simp only [Instr.field, Sem.run_bind, run_underlying hu, Result.andThen_ok, hfs, asAgg, Sem.run_pure, part, tyAgg_run ht, Bool.false_eq_true, if_false, hx]
    · simp only at H
      obtain ⟨ho, rfl, rfl⟩ := H
      refine ⟨.agg (cs.extract fd.offset (fd.offset + m)), ?_, ⟨_, rfl, by simp; omega, fun i hi => ?_⟩, rfl⟩
      · simp only [Instr.field, Sem.run_bind, run_underlying hu, Result.andThen_ok, hfs, asAgg, Sem.run_pure, part, tyAgg_run ht, if_true, tySz_run hs]
      · obtain ⟨x, hx, h1, hxr⟩ := hc (fd.offset + i) (by omega)
        refine ⟨x, ?_, h1, by rw [tab_get hi]; exact hxr⟩
        rw [Array.getElem?_extract]
        rw [if_pos (by omega)]
        exact hx

theorem val_slc {t e : TypeId} {i : TypeInfo} {v : AV} {u : Value} {lo hi : Option AV} {ulo uhi : Option Value} (ht : tyEl P t = some (e, i)) (hr : rep (MM F g h) w v g u)
    (hlo : match lo, ulo with | none, none => True | some a, some x => rep (MM F g h) w a g x | _, _ => False) (hhi : match hi, uhi with | none, none => True | some a, some x => rep (MM F g h) w a g x | _, _ => False)
    (H : aop (.slc i.size (.k v) (lo.map .k) (hi.map .k)) (fun x => x.ev (fun _ => .bot)) h (fun a b => a = r ∧ b = h')) : ∃ u', (Instr.sliceAt t u ulo uhi none).run P w = .ok u' w ∧ rep (MM F g h) w r g u' ∧ h = h' := by
  obtain ⟨hu, hi'⟩ := tyEl_some ht
  have hsz : ∀ w : World, (sizeOf e).run P w = .ok i.size w := fun w => tySz_run (by simp [tySz, hi']) w
  simp only [aop, AX.ev] at H
  cases v <;> simp only at H
  case own d n =>
    obtain ⟨b, cap, hg, rfl, hncap⟩ := hr
    have run : ∀ (xh : Option Value) (hb : Nat), (Instr.sliceBounds true n cap none xh none).run P w = .ok (0, hb, cap) w → (Instr.sliceAt t (.slice (some ⟨b, 0, none⟩) n cap) none xh none).run P w = .ok (.slice (some ⟨b, 0, none⟩) hb cap) w := by
      intro xh hb hs
      simp [Instr.sliceAt, Instr.slice, run_underlying hu, hs, hsz, Addr.add]
    cases lo <;> cases hi <;> cases ulo <;> cases uhi <;> simp only at hlo hhi <;> simp only [Option.map_none, Option.map_some] at H
    · obtain ⟨rfl, rfl⟩ := H
      exact ⟨_, run none n (by simp [Instr.sliceBounds]), ⟨b, cap, hg, rfl, hncap⟩, rfl⟩
    · rename_i j x
      cases j <;> simp only at H
      rename_i k j
      obtain ⟨h0, h1, rfl, rfl⟩ := H
      obtain rfl := hhi
      have h1' : j ≤ (cap : Int) := by omega
      exact ⟨_, run (some (.int k j)) j.toNat (by simp [Instr.sliceBounds, Instr.sliceBound, asIntOf, h0, h1']), ⟨b, cap, hg, rfl, by omega⟩, rfl⟩
    · rename_i j x
      cases j <;> simp only at H
      rename_i k j
      obtain ⟨h0, h1, rfl, rfl⟩ := H
      obtain rfl := hlo
      have hs : (Instr.sliceBounds true n cap (some (.int k j)) none none).run P w = .ok (j.toNat, n, cap) w := by simp [Instr.sliceBounds, Instr.sliceBound, asIntOf, h0, h1]
      have hrun : (Instr.sliceAt t (.slice (some ⟨b, 0, none⟩) n cap) (some (.int k j)) none none).run P w = .ok (.slice (some ⟨b, if cap = j.toNat then 0 else j.toNat * i.size, none⟩) (n - j.toNat) (cap - j.toNat)) w := by
        simp only [Instr.sliceAt, Instr.slice, Sem.run_bind, Sem.run_pure, Result.andThen_ok, run_underlying hu, hs, hsz]
        by_cases e1 : cap = j.toNat <;> simp [e1, Addr.add_lit]
      exact ⟨_, hrun, ⟨b, cap, _, hg, rfl, by omega, fun h => by rw [if_neg (by omega)]⟩, rfl⟩
  case osl d sz' l0 n =>
    obtain ⟨rfl, H⟩ := H
    obtain ⟨b, cap, p, hg, rfl, hncap, hp⟩ := hr
    cases lo <;> cases hi <;> cases ulo <;> cases uhi <;> simp only at hlo hhi <;> simp only [Option.map_none, Option.map_some] at H
    · rename_i j x
      cases j <;> simp only at H
      rename_i k j
      obtain ⟨h0, h1, rfl, rfl⟩ := H
      obtain rfl := hlo
      have hs : (Instr.sliceBounds true n (cap - l0) (some (.int k j)) none none).run P w = .ok (j.toNat, n, cap - l0) w := by simp [Instr.sliceBounds, Instr.sliceBound, asIntOf, h0, h1]
      have hrun : (Instr.sliceAt t (.slice (some ⟨b, p, none⟩) n (cap - l0)) (some (.int k j)) none none).run P w = .ok (.slice (some ⟨b, if cap - l0 = j.toNat then p else p + j.toNat * i.size, none⟩) (n - j.toNat) (cap - l0 - j.toNat)) w := by
        simp only [Instr.sliceAt, Instr.slice, Sem.run_bind, Sem.run_pure, Result.andThen_ok, run_underlying hu, hs, hsz]
        by_cases e1 : cap - l0 = j.toNat <;> simp [e1, Addr.add_lit]
      refine ⟨_, hrun, ⟨b, cap, _, hg, by rw [Nat.sub_sub], by omega, fun h => ?_⟩, rfl⟩
      rw [if_neg (by omega), hp (by omega), Nat.add_mul]
  case sl z ee n sz' c =>
    obtain ⟨rfl, H⟩ := H
    obtain ⟨A, cap, rfl, hz, hnil, _, hcap, hc⟩ := hr
    have main : ∀ l hb : Nat, l ≤ hb → hb ≤ n → rep (MM F g h) w (.sl z false (hb - l) i.size (fun k => c (k + l))) g (.slice (if cap = l then A else A.map (·.add (l * i.size))) (hb - l) (cap - l)) := by
      intro l hb h1 h2
      refine ⟨_, _, rfl, ?_, ?_, fun h => (by cases h), by omega, fun k hk o ho => ?_⟩
      · rw [hz]; split <;> cases A <;> simp
      · intro hA
        have hA' : A = none := by
          split at hA
          · exact hA
          · cases A <;> simp at hA ⊢
        have := hnil hA'
        omega
      · obtain ⟨b, off, x, hA, hb', hn, hcell, h1c, hr1⟩ := hc (k + l) (by omega) o ho
        subst hA
        by_cases hcl : cap = l
        · omega
        · refine ⟨b, off + l * i.size, x, ?_, hb', hn, ?_, h1c, hr1⟩
          · simp [hcl, Addr.add_lit]
          · rw [← hcell, Nat.add_mul]; congr 2; omega
    have zero : rep (MM F g h) w (.sl z false n i.size c) g (.slice A n cap) := ⟨A, cap, rfl, hz, hnil, fun h => (by cases h), hcap, hc⟩
    have run : ∀ (xl xh : Option Value) (l hb : Nat), (Instr.sliceBounds true n cap xl xh none).run P w = .ok (l, hb, cap) w → (Instr.sliceAt t (.slice A n cap) xl xh none).run P w = .ok (.slice (if cap = l then A else A.map (·.add (l * i.size))) (hb - l) (cap - l)) w := by
      intro xl xh l hb hs
      simp [Instr.sliceAt, Instr.slice, run_underlying hu, hs, hsz]
    cases lo <;> cases hi <;> cases ulo <;> cases uhi <;> simp only at hlo hhi <;> simp only [Option.map_none, Option.map_some] at H
    · obtain ⟨rfl, rfl⟩ := H
      have hm := main 0 n (by omega) (by omega)
      refine ⟨_, run none none 0 n (by simp [Instr.sliceBounds]), ?_, rfl⟩
      simpa using hm
    · rename_i b x
      cases b <;> simp only at H
      rename_i k b
      obtain ⟨h0, h1, rfl, rfl⟩ := H
      obtain rfl := hhi
      have hm := main 0 b.toNat (by omega) (by omega)
      have h1' : b ≤ (cap : Int) := by omega
      refine ⟨_, run none (some (.int k b)) 0 b.toNat (by simp [Instr.sliceBounds, Instr.sliceBound, asIntOf, h0, h1']), ?_, rfl⟩
      simpa using hm
    · rename_i a x
      cases a <;> simp only at H
      rename_i k a
      obtain ⟨h0, h1, rfl, rfl⟩ := H
      obtain rfl := hlo
      exact ⟨_, run (some (.int k a)) none a.toNat n (by simp [Instr.sliceBounds, Instr.sliceBound, asIntOf, h0, h1]), main a.toNat n (by omega) (by omega), rfl⟩
    · rename_i a b x y
      obtain ⟨k, a, rfl⟩ : ∃ k a', a = .int k a' := by
        cases a with
        | int k' b' => exact ⟨_, _, rfl⟩
        | _ => exact H.elim
      obtain ⟨k', b, rfl⟩ : ∃ k' b', b = .int k' b' := by
        cases b with
        | int k' b' => exact ⟨_, _, rfl⟩
        | _ => exact H.elim
      obtain ⟨h0, h1, h2, rfl, rfl⟩ := H
      obtain rfl := hlo
      obtain rfl := hhi
      have h1' : b ≤ (cap : Int) := by omega
      have h2' : (0 : Int) ≤ b := by omega
      have h3' : a ≤ max b 0 := by omega
      exact ⟨_, run (some (.int k a)) (some (.int k' b)) a.toNat b.toNat (by simp [Instr.sliceBounds, Instr.sliceBound, asIntOf, h0, h1', h2', h3']), main a.toNat b.toNat (by omega) (by omega), rfl⟩
end
end Go.Proofs.Ytomkjfhepfinhaa

namespace Go.Proofs.Ytomkjfhepfinhaa
open Go.RowKit
variable {F : Nat → Prop}

section
variable {P : Program} {g : GM} {h : List AB} {w : World} {r : AV} {h' : List AB}

theorem run_eqGuard_int (op : BinOp) (t : TypeId) (x y : Operand) (k k' : IntKind) (a b : Int) (w : World) : (eqGuard op t x y (.int k a) (.int k' b)).run P w = .ok () w := by
  unfold eqGuard
  cases op <;> rfl
theorem val_bin {op : BinOp} {t : TypeId} {x y : Operand} {v j : AV} {u u2 : Value} (hr : rep (MM F g h) w v g u) (hj : rep (MM F g h) w j g u2)
    (H : abin op v j (fun a => a = r)) : ∃ u', (do eqGuard op t x y u u2; binOp op t u u2 : Sem Value).run P w = .ok u' w ∧ rep (MM F g h) w r g u' := by
  cases v <;> cases j <;> simp only [abin] at H
  case int.int k a k' b =>
    obtain rfl := hr
    obtain rfl := hj
    simp only [Sem.run_bind, run_eqGuard_int, Result.andThen_ok]
    cases op <;> simp only [ishift, ibin] at H
    case shl =>
      obtain ⟨h0, rfl⟩ := H
      refine ⟨_, ?_, rfl⟩
      have h0' : ¬ b < 0 := by omega
      simp [binOp, Op.shift, h0']
    case shr =>
      obtain ⟨h0, rfl⟩ := H
      refine ⟨_, ?_, rfl⟩
      have h0' : ¬ b < 0 := by omega
      simp [binOp, Op.shift, h0']
    case quo =>
      obtain ⟨rfl, h0, rfl⟩ := H
      refine ⟨_, ?_, rfl⟩
      simp [binOp, Op.intDiv, h0]
    case rem =>
      obtain ⟨rfl, h0, rfl⟩ := H
      refine ⟨_, ?_, rfl⟩
      simp [binOp, Op.intDiv, h0]
    case eql =>
      obtain ⟨rfl, rfl⟩ := H
      exact ⟨_, by simp [binOp, Op.intCmp]; rfl, rfl⟩
    case neq =>
      obtain ⟨rfl, rfl⟩ := H
      exact ⟨_, by simp [binOp, Op.intCmp]; rfl, rfl⟩
    all_goals
      obtain ⟨rfl, rfl⟩ := H
      refine ⟨_, ?_, rfl⟩
      simp [binOp, Op.intArith, Op.intBits, Op.intCmp]
theorem val_binb {neg : Bool} {t : TypeId} {x y : Operand} {a b : Bool} (ht : P.underlying t = some .bool) :
    (do eqGuard (if neg then .neq else .eql) t x y (.bool a) (.bool b); binOp (if neg then .neq else .eql) t (.bool a) (.bool b) : Sem Value).run P w = .ok (.bool (if neg then !(a == b) else (a == b))) w := by
  have hg : ∀ op, (eqGuard op t x y (.bool a) (.bool b)).run P w = .ok () w := fun op => by
    unfold eqGuard
    cases op <;> rfl
  simp only [Sem.run_bind, hg, Result.andThen_ok]
  cases neg
  · simp only [Bool.false_eq_true, if_false]; exact run_eql_bool w t a b ht
  · simp only [if_true]; exact run_neq_bool w t a b ht

theorem equal_nil {t : TypeId} {d : TypeDesc} {v j : AV} {u u2 : Value} {q : Bool} {tag : Nat} (ht : P.underlying t = some d) (hd : nilT d = some tag) (hr : rep (MM F g h) w v g u) (hj : rep (MM F g h) w j g u2) (H : aeqz tag v j (fun b => b = q)) (n : Nat) :
    (Op.equalIn (n + 1) t u u2).run P w = .ok q w := by
  unfold aeqz at H
  split at H
  · obtain rfl := H
    obtain ⟨A, cap, rfl, hz, _⟩ := hr
    obtain ⟨B, cap', rfl, hz', _⟩ := hj
    have hA := hz.1 rfl
    subst hA
    cases d <;> simp [nilT] at hd
    simp only [Op.equalIn, Sem.run_bind, run_underlying ht, Result.andThen_ok]
    cases B <;> simp_all
  · obtain rfl := H
    obtain ⟨A, cap, rfl, hz, _⟩ := hr
    obtain ⟨B, cap', rfl, hz', _⟩ := hj
    have hB := hz'.1 rfl
    subst hB
    cases d <;> simp [nilT] at hd
    simp only [Op.equalIn, Sem.run_bind, run_underlying ht, Result.andThen_ok]
    cases A <;> simp_all
  · obtain rfl := H
    obtain ⟨b, cap, _, rfl, _⟩ := hr
    obtain ⟨B, cap', rfl, hz', _⟩ := hj
    have hB := hz'.1 rfl
    subst hB
    cases d <;> simp [nilT] at hd
    simp [Op.equalIn, run_underlying ht]
  · obtain rfl := H
    obtain rfl := hr
    obtain rfl := hj
    cases d <;> simp [nilT] at hd
    simp [Op.equalIn, run_underlying ht]
  · obtain rfl := H
    obtain ⟨b, cap, _, rfl⟩ := hr
    obtain rfl := hj
    cases d <;> simp [nilT] at hd
    simp [Op.equalIn, run_underlying ht]
  · obtain rfl := H
    obtain ⟨b, off, rfl, _⟩ := hr
    obtain rfl := hj
    cases d <;> simp [nilT] at hd
    simp [Op.equalIn, run_underlying ht]
  · obtain rfl := H
    obtain rfl := hr
    obtain rfl := hj
    cases d <;> simp [nilT] at hd
    simp [Op.equalIn, run_underlying ht]
  · obtain rfl := H
    obtain ⟨cs, rfl, _⟩ := hr
    obtain rfl := hj
    cases d <;> simp [nilT] at hd
    simp [Op.equalIn, run_underlying ht]
  · exact H.elim
theorem val_eqz {t : TypeId} {d : TypeDesc} {v j : AV} {u u2 : Value} {q : Bool} {tag : Nat} {neg : Bool} {x y : Operand} (ht : P.underlying t = some d) (hd : nilT d = some tag) (hr : rep (MM F g h) w v g u) (hj : rep (MM F g h) w j g u2) (H : aeqz tag v j (fun b => b = q)) :
    (do eqGuard (if neg then .neq else .eql) t x y u u2; binOp (if neg then .neq else .eql) t u u2 : Sem Value).run P w = .ok (.bool (if neg then !q else q)) w := by
  have he : (Op.equal t u u2).run P w = .ok q w := by
    unfold Op.equal Op.maxDepth
    exact equal_nil ht hd hr hj H 9999
  have hs : (∃ a n c b m d, u = .slice a n c ∧ u2 = .slice b m d) ∨ (∃ a b, u = .pointer a ∧ u2 = .pointer b) ∨ (u = .nilFunc ∧ u2 = .nilFunc) ∨ (∃ f cs, u = .func f #[] cs ∧ u2 = .nilFunc) := by
    unfold aeqz at H
    split at H
    · obtain ⟨A, cap, rfl, _⟩ := hr
      obtain ⟨B, cap', rfl, _⟩ := hj
      exact .inl ⟨_, _, _, _, _, _, rfl, rfl⟩
    · obtain ⟨A, cap, rfl, _⟩ := hr
      obtain ⟨B, cap', rfl, _⟩ := hj
      exact .inl ⟨_, _, _, _, _, _, rfl, rfl⟩
    · obtain ⟨b, cap, _, rfl, _⟩ := hr
      obtain ⟨B, cap', rfl, _⟩ := hj
      exact .inl ⟨_, _, _, _, _, _, rfl, rfl⟩
    · obtain rfl := hr
      obtain rfl := hj
      exact .inr (.inl ⟨_, _, rfl, rfl⟩)
    · obtain ⟨b, cap, _, rfl⟩ := hr
      obtain rfl := hj
      exact .inr (.inl ⟨_, _, rfl, rfl⟩)
    · obtain ⟨b, off, rfl, _⟩ := hr
      obtain rfl := hj
      exact .inr (.inl ⟨_, _, rfl, rfl⟩)
    · obtain rfl := hr
      obtain rfl := hj
      exact .inr (.inr (.inl ⟨rfl, rfl⟩))
    · obtain ⟨cs, rfl, _⟩ := hr
      obtain rfl := hj
      exact .inr (.inr (.inr ⟨_, _, rfl, rfl⟩))
    · exact H.elim
  have hg : (eqGuard (if neg then .neq else .eql) t x y u u2).run P w = .ok () w := by
    rcases hs with ⟨a, n, c, b, m, dd, rfl, rfl⟩ | ⟨a, b, rfl, rfl⟩ | ⟨rfl, rfl⟩ | ⟨f, cs, rfl, rfl⟩ <;> cases neg <;> rfl
  simp only [Sem.run_bind, hg, Result.andThen_ok]
  rcases hs with ⟨a, n, c, b, m, dd, rfl, rfl⟩ | ⟨a, b, rfl, rfl⟩ | ⟨rfl, rfl⟩ | ⟨f, cs, rfl, rfl⟩ <;> cases neg <;> simp [binOp, he]
theorem val_eqa {t : TypeId} {fs : Array Field} {m : Nat} {c c' : Nat → AV} {u u2 : Value} {q neg : Bool} {x y : Operand} (ht : P.underlying t = some (.struct fs)) (hf : flatS P t fs = true) (hm : m = fs.size) (hr : rep (MM F g h) w (.agg m c) g u) (hj : rep (MM F g h) w (.agg m c') g u2)
    (H : eqcs m c c' m (fun b => b = q)) : (do eqGuard (if neg then .neq else .eql) t x y u u2; binOp (if neg then .neq else .eql) t u u2 : Sem Value).run P w = .ok (.bool (if neg then !q else q)) w := by
  obtain ⟨xs, rfl, hxs, hx⟩ := hr
  obtain ⟨ys, rfl, hys, hy⟩ := hj
  subst hm
  simp only [flatS, Bool.and_eq_true, Bool.not_eq_true', List.all_eq_true, List.mem_range] at hf
  obtain ⟨⟨hs, hg⟩, hf⟩ := hf
  have hfo : P.fieldsOf t = fs := by simp [Program.fieldsOf, ht]
  have key : ∀ (k : Nat) (q : Bool), k ≤ fs.size → eqcs fs.size c c' k (fun b => b = q) → ∀ D, (Op.eqFields (D + 1) xs ys (fs.toList.drop (fs.size - k))).run P w = .ok q w := by
    intro k
    induction k with
    | zero =>
      intro q _ hq D
      simp only [eqcs] at hq
      subst hq
      rw [Nat.sub_zero, List.drop_eq_nil_of_le (by simp)]
      simp [Op.eqFields]
    | succ k ih =>
      intro q hk hq D
      obtain ⟨j, hj⟩ : ∃ j, j = fs.size - (k + 1) := ⟨_, rfl⟩
      have hjl : j < fs.size := by omega
      simp only [eqcs, ← hj] at hq
      have hd : fs.toList.drop (fs.size - (k + 1)) = fs[j] :: fs.toList.drop (fs.size - k) := by
        rw [← hj, List.drop_eq_getElem_cons (by simpa using hjl), Array.getElem_toList, show j + 1 = fs.size - k by omega]
      have hfj := hf j hjl
      rw [Array.getElem?_eq_getElem hjl] at hfj
      simp only [Bool.and_eq_true, beq_iff_eq, bne_iff_ne, ne_eq] at hfj
      obtain ⟨⟨⟨h1, h2⟩, h3⟩, h4⟩ := hfj
      obtain ⟨a, ha, _, hra⟩ := hx j hjl
      obtain ⟨b, hb, _, hrb⟩ := hy j hjl
      have pa : (part fs[j].type xs fs[j].offset).run P w = .ok a w := by simp [part, Sem.run_bind, tyAgg_run h3, h1, ha]
      have pb : (part fs[j].type ys fs[j].offset).run P w = .ok b w := by simp [part, Sem.run_bind, tyAgg_run h3, h1, hb]
      obtain ⟨q1, hq1, k1⟩ := eqc_one hq
      obtain ⟨q2, hq2, k2⟩ := eqcs_one hq1
      have he : (Op.equalIn (D + 1) fs[j].type a b).run P w = .ok q1 w := by
        have hq1' := k1 (fun b => b = q1) rfl
        clear hq k1
        unfold eqc at hq1'
        split at hq1'
        · rename_i k a' k' b' e1 e2
          rw [e1] at hra
          rw [e2] at hrb
          obtain rfl := hra
          obtain rfl := hrb
          obtain ⟨rfl, rfl⟩ := hq1'
          split at h4
          · rename_i kk hu
            simp only [Op.equalIn, Sem.run_bind, run_underlying hu, Result.andThen_ok, if_true, Sem.run_pure]
            congr 1
          · cases h4
        · exact hq1'.elim
      have hrest := ih q2 (by omega) (k2 _ rfl) D
      rw [hd]
      subst hq2
      simp only [Op.eqFields, ne_eq, h2, not_false_eq_true, if_true, Sem.run_bind, pa, pb, Result.andThen_ok, he]
      cases q1
      · simp
      · simpa using hrest
  have he : (Op.equal t (.agg xs) (.agg ys)).run P w = .ok q w := by
    unfold Op.equal Op.maxDepth
    rw [run_equalIn_struct w 9999 t xs ys (by rw [hfo]; exact ht) hs, hfo]
    have := key fs.size q (Nat.le_refl _) H 9998
    rw [Nat.sub_self] at this
    simpa using this
  have hgd : (eqGuard (if neg then .neq else .eql) t x y (.agg xs) (.agg ys)).run P w = .ok () w := by
    cases neg <;> simp [eqGuard, Sem.run_bind, hg]
  simp only [Sem.run_bind, hgd, Result.andThen_ok]
  cases neg <;> simp [binOp, he]
end
end Go.Proofs.Ytomkjfhepfinhaa

namespace Go.Proofs.Ytomkjfhepfinhaa
open Go.RowKit
variable {F : Nat → Prop}

theorem cells_of_elem {M : Nat → Prop} {w : World} {g : GM} {m : Nat} {v : AV} {u : Value} (h : elemOK m v) (hr : rep M w v g u) : u.cells.size = m ∧ ∀ i, i < m → ∃ x, u.cells[i]? = some x ∧ x.oneCell' = true ∧ rep M w (elemC v i) g x := by
  have key : v.one = true → m = 1 → elemC v = (fun _ => v) → u.cells.size = m ∧ ∀ i, i < m → ∃ x, u.cells[i]? = some x ∧ x.oneCell' = true ∧ rep M w (elemC v i) g x := fun h1 hm he => by
    obtain ⟨a, b⟩ := one_of_rep h1 hr
    subst hm
    refine ⟨by rw [b]; rfl, fun i hi => ⟨u, ?_, a, by rw [he]; exact hr⟩⟩
    obtain rfl : i = 0 := by omega
    rw [b]; rfl
  cases v <;> simp only [elemOK, AV.one, Bool.false_eq_true, false_and] at h
  case agg m' c =>
    obtain ⟨cs, rfl, hm, hc⟩ := hr
    subst h
    exact ⟨hm, hc⟩
  all_goals exact key rfl h.2 rfl
theorem pure_elem {v : AV} (h : v.pure) (m : Nat) (hm : elemOK m v) (i : Nat) (hi : i < m) : (elemC v i).pure := by
  cases v <;> simp only [elemOK] at hm <;> simp only [elemC] <;> first | exact h | (subst hm; exact h i hi)

section
variable {P : Program} {g : GM} {h : List AB} {w : World} {r : AV} {h' : List AB}

theorem Chg.alloc' (w : World) (o : Obj) : Chg (fun _ => False) w (w.alloc o) := Chg.alloc _ w o
theorem Tr.newBlock (k : HOK F g w h) {w' : World} (hc : Chg (fun _ => False) w w') {cs : Array Value} {t : TypeId} (hh : w'.heap[w.heap.size]? = some (.cells cs t (0, 0))) (cap : Nat) (x : AB)
    (hx : match x with
      | .dead => True
      | .box m c => cs.size = m ∧ ∀ i, i < m → ∃ u, cs[i]? = some u ∧ u.oneCell' = true ∧ rep (MM F g h) w (c i) g u
      | .row n sz c => n ≤ cap ∧ cap ≤ maxLen ∧ cs.size = cap * sz ∧ ∀ k, k < n → ∀ o, o < sz → ∃ u, cs[k * sz + o]? = some u ∧ u.oneCell' = true ∧ rep (MM F g h) w (c k o) g0 u) :
    Tr F g h w (g.push h.length (w.heap.size, cap)) (h ++ [x]) w' := by
  have hM : ∀ b, b < w.heap.size → MM F (g.push h.length (w.heap.size, cap)) (h ++ [x]) b → MM F g h b := fun b hb hm => (MM_push k hm).resolve_right (fun ⟨e, _⟩ => by omega)
  have hc' : Chg (MM F g h) w w' := hc.weak (fun _ _ h => h.elim)
  refine Tr.push k hc (Nat.le_refl _) ?_
  cases x with
  | dead => trivial
  | box m c =>
    obtain ⟨h1, h2⟩ := hx
    refine ⟨cs, t, hh, h1, fun i hi => ?_⟩
    obtain ⟨u, a, b, c'⟩ := h2 i hi
    exact ⟨u, a, b, rep_mono hc' hM _ (GM.le_push k _) c'⟩
  | row n sz c =>
    obtain ⟨h0, h1, h2, h3⟩ := hx
    refine ⟨h0, h1, cs, t, hh, h2, fun i hi o ho => ?_⟩
    obtain ⟨u, a, b, c'⟩ := h3 i hi o ho
    exact ⟨u, a, b, rep_mono hc' hM _ (GM.le_refl _) c'⟩

theorem val_box {t : TypeId} {v : AV} {u : Value} (hok : HOK F g w h) (hr : rep (MM F g h) w v g u) (H : aop (.box (.k v)) (fun x => x.ev (fun _ => .bot)) h (fun a b => a = r ∧ b = h')) :
    ∃ u' w' g', (Instr.box t u).run P w = .ok u' w' ∧ rep (MM F g' h') w' r g' u' ∧ Tr F g h w g' h' w' := by
  have run : (Instr.box t u).run P w = .ok (.pointer (some ⟨w.heap.size, 0, none⟩)) (w.alloc (.cells u.cells t)) := by
    simp [Instr.box, newVar, newRow]
  have key : ∀ m c, elemOK m v → (∀ i, i < m → elemC v i = c i) → ∃ u' w' g', (Instr.box t u).run P w = .ok u' w' ∧ rep (MM F g' (h ++ [.box m c])) w' (.ptr h.length 0) g' u' ∧ Tr F g h w g' (h ++ [.box m c]) w' := fun m c hm hc => by
    obtain ⟨a, b⟩ := cells_of_elem hm hr
    refine ⟨_, _, _, run, ⟨w.heap.size, 0, by simp [GM.push], rfl⟩, Tr.newBlock hok (Chg.alloc' _ _) (heap_alloc_new _ _) 0 (.box m c) ⟨a, fun i hi => ?_⟩⟩
    show ∃ u_1, _ ∧ _ ∧ rep (MM F g h) w (c i) g u_1
    rw [← hc i hi]
    exact b i hi
  simp only [aop, AX.ev] at H
  cases v <;> simp only at H
  case agg m c => obtain ⟨rfl, rfl⟩ := H; exact key m c rfl (fun _ _ => rfl)
  all_goals
    obtain ⟨rfl, rfl⟩ := H
    exact key 1 _ ⟨rfl, rfl⟩ (fun i hi => by obtain rfl : i = 0 := by omega
                                             rfl)

theorem stM_get (c : Nat → AV) (o : Nat) (cy : Nat → AV) : ∀ (m i : Nat), stM c o cy m i = if o ≤ i ∧ i < o + m then cy (i - o) else c i
  | 0, i => by simp [stM]; omega
  | m + 1, i => by
    simp only [stM, updN]
    by_cases e : i = o + m
    · subst e
      simp
    · rw [if_neg e, stM_get c o cy m i]
      by_cases h1 : o ≤ i ∧ i < o + m
      · rw [if_pos h1, if_pos ⟨h1.1, by omega⟩]
      · rw [if_neg h1, if_neg (by omega)]
/-- Cells written over cells. -/
def overs (cur : Array Value) (o : Nat) (vs : Array Value) : Array Value := (cur.toList.take o ++ vs.toList ++ cur.toList.drop (o + vs.size)).toArray
theorem overs_size {cur : Array Value} {o : Nat} {vs : Array Value} (h : o + vs.size ≤ cur.size) : (overs cur o vs).size = cur.size := by
  simp [overs]; omega
theorem overs_in {cur : Array Value} {o : Nat} {vs : Array Value} (h : o + vs.size ≤ cur.size) {i : Nat} (hi : i < vs.size) : (overs cur o vs)[o + i]? = vs[i]? := by
  have hl : (cur.toList.take o).length = o := by simp; omega
  simp only [overs, List.getElem?_toArray, List.append_assoc]
  rw [List.getElem?_append_right (by omega), hl, List.getElem?_append_left (by simp; omega), Nat.add_sub_cancel_left]
  simp
theorem overs_out {cur : Array Value} {o : Nat} {vs : Array Value} (h : o + vs.size ≤ cur.size) {i : Nat} (hi : i < o ∨ o + vs.size ≤ i) : (overs cur o vs)[i]? = cur[i]? := by
  have hl : (cur.toList.take o).length = o := by simp; omega
  simp only [overs, List.getElem?_toArray, List.append_assoc]
  rcases hi with hi | hi
  · rw [List.getElem?_append_left (by omega), List.getElem?_take]
    simp [hi]
  · rw [List.getElem?_append_right (by omega), hl, List.getElem?_append_right (by simp; omega), List.getElem?_drop]
    simp
    congr 1
    omega
theorem Chg.setRow (w : World) (b : Nat) (cs : Array Value) : Chg (fun y => y = b) w (w.setRow b cs) :=
  ⟨rfl, rfl, rfl, by simp, fun x _ hn => by simp only [World.setRow]; rw [Array.getElem?_modify, if_neg (fun h => hn h.symm)]⟩
theorem run_store_row {t ty : TypeId} {b o : Nat} {cur : Array Value} {u : Value} {m : Nat} (hs : tySz P t = some m) (hh : w.heap[b]? = some (.cells cur ty (0, 0))) (hm : u.cells.size = m) (hc : ∀ i, i < m → ∃ x, u.cells[i]? = some x ∧ x.oneCell' = true) (ho : o + m ≤ cur.size) :
    (Instr.storeAt t (.pointer (some ⟨b, o, none⟩)) u).run P w = .ok () (w.setRow b (overs cur o u.cells)) := by
  have h1 : ∀ v ∈ u.cells.toList, v.oneCell' = true := fun v hv => by
    obtain ⟨i, hi, rfl⟩ := List.getElem_of_mem hv
    obtain ⟨x, hx, h1⟩ := hc i (by simpa [← hm] using hi)
    rw [Array.getElem?_eq_getElem (by simpa using hi)] at hx
    injection hx with hx
    rw [Array.getElem_toList, hx]
    exact h1
  have := run_storeCells_at P b o ty u.cells.toList 0 cur w hh (by simp; omega) h1
  simp only [Instr.storeAt, Instr.sureAddr, Sem.run_bind, Sem.run_pure, Result.andThen_ok, storeVar, tySz_run hs, hm, ne_eq, not_true_eq_false, if_false, this, overs, Nat.add_zero, Array.length_toList]
theorem mul_add_inj {sz k k' o o' : Nat} (ho : o < sz) (ho' : o' < sz) (h : k' * sz + o' = k * sz + o) : k' = k ∧ o' = o := by
  have h1 : (k' * sz + o') / sz = k' := by rw [Nat.mul_comm, Nat.mul_add_div (by omega), Nat.div_eq_of_lt ho']; omega
  have h2 : (k * sz + o) / sz = k := by rw [Nat.mul_comm, Nat.mul_add_div (by omega), Nat.div_eq_of_lt ho]; omega
  have : k' = k := by rw [← h1, ← h2, h]
  subst this
  exact ⟨rfl, by omega⟩

theorem val_st {t : TypeId} {m : Nat} {v y : AV} {u u2 : Value} (hok : HOK F g w h) (hs : tySz P t = some m) (hr : rep (MM F g h) w v g u) (hy : rep (MM F g h) w y g u2) (H : aop (.st m (.k v) (.k y)) (fun x => x.ev (fun _ => .bot)) h (fun a b => a = r ∧ b = h')) :
    ∃ w', (Instr.storeAt t u u2).run P w = .ok () w' ∧ r = und ∧ Tr F g h w g h' w' := by
  simp only [aop, AX.ev] at H
  cases v <;> simp only at H
  case ptr d o =>
    obtain ⟨b, cap, hg, rfl⟩ := hr
    split at H
    · rename_i m' c hd
      obtain ⟨ho, he, rfl, rfl⟩ := H
      obtain ⟨cs, t', hh, hm, hc⟩ := hok.box d m' c b cap hd hg
      obtain ⟨e1, e2⟩ := cells_of_elem he hy
      have hrun := run_store_row hs hh e1 (fun i hi => by obtain ⟨x, a, b, _⟩ := e2 i hi; exact ⟨x, a, b⟩) (by omega : o + m ≤ cs.size)
      have hfit : o + u2.cells.size ≤ cs.size := by omega
      refine ⟨_, hrun, rfl, Tr.upd hok ⟨_, hd, trivial⟩ hg trivial (Chg.setRow _ _ _) ⟨_, t', setRow_heap _ _ _ _ _ _ hh, by rw [overs_size hfit]; exact hm, fun i hi => ?_⟩⟩
      have hch : Chg (MM F g h) w (w.setRow b (overs cs o u2.cells)) := (Chg.setRow w b _).weak (fun x _ e => by subst e; exact .inr ⟨d, cap, ⟨_, hd, trivial⟩, hg⟩)
      rw [tab_get hi, stM_get]
      by_cases hin : o ≤ i ∧ i < o + m
      · rw [if_pos hin]
        obtain ⟨x, a, a1, a2⟩ := e2 (i - o) (by omega)
        refine ⟨x, ?_, a1, rep_mono hch (fun _ _ h => h) _ (GM.le_refl _) a2⟩
        have := overs_in hfit (i := i - o) (by omega)
        rw [show o + (i - o) = i by omega] at this
        rw [this]; exact a
      · rw [if_neg hin]
        obtain ⟨x, a, a1, a2⟩ := hc i hi
        refine ⟨x, ?_, a1, rep_mono hch (fun _ _ h => h) _ (GM.le_refl _) a2⟩
        rw [overs_out hfit (by omega)]; exact a
    · exact H.elim
  case rp d sz k o =>
    obtain ⟨b, cap, hg, rfl⟩ := hr
    split at H
    · rename_i n sz' c hd
      obtain ⟨hk, rfl, he, hp, H⟩ := H
      obtain ⟨hn, hcm, cs, t', hh, hm, hc⟩ := hok.row d n sz' c b cap hd hg
      obtain ⟨e1, e2⟩ := cells_of_elem he hy
      have hks : (k + 1) * sz' ≤ cap * sz' := Nat.mul_le_mul_right _ (by omega)
      rw [Nat.add_mul, Nat.one_mul] at hks
      have hcases : (m = 1 ∧ o < sz' ∧ r = und ∧ h' = h.set d (.row n sz' (updR c k o (elemC y 0)))) ∨ (m = sz' ∧ o = 0 ∧ r = und ∧ h' = h.set d (.row n sz' (updRm c k (elemC y)))) := by
        rcases H with ⟨a, b, c, d⟩ | ⟨a, b, c, d⟩
        · exact .inl ⟨a, b, c.symm, d.symm⟩
        · exact .inr ⟨a, b, c.symm, d.symm⟩
      have hom : k * sz' + o + m ≤ cs.size := by rcases hcases with ⟨a, b, _⟩ | ⟨a, b, _⟩ <;> omega
      have hrun := run_store_row hs hh e1 (fun i hi => by obtain ⟨x, a, b, _⟩ := e2 i hi; exact ⟨x, a, b⟩) hom
      have hfit : k * sz' + o + u2.cells.size ≤ cs.size := by omega
      have hch : Chg (MM F g h) w (w.setRow b (overs cs (k * sz' + o) u2.cells)) := (Chg.setRow w b _).weak (fun x _ e => by subst e; exact .inr ⟨d, cap, ⟨_, hd, trivial⟩, hg⟩)
      rcases hcases with ⟨rfl, ho, hre, hh'⟩ | ⟨rfl, rfl, hre, hh'⟩
      · subst hh'
        refine ⟨_, hrun, hre, Tr.upd hok ⟨_, hd, trivial⟩ hg trivial (Chg.setRow _ _ _) ⟨hn, hcm, _, t', setRow_heap _ _ _ _ _ _ hh, by rw [overs_size hfit]; exact hm, fun k' hk' o' ho' => ?_⟩⟩
        simp only [updR]
        by_cases hin : k' = k ∧ o' = o
        · rw [if_pos hin]
          obtain ⟨rfl, rfl⟩ := hin
          obtain ⟨x, a, a1, a2⟩ := e2 0 (by omega)
          refine ⟨x, ?_, a1, rep_pure _ (pure_elem hp 1 he 0 (by omega)) (rep_mono hch (fun _ _ h => h) _ (GM.le_refl _) a2)⟩
          have := overs_in hfit (i := 0) (by omega)
          rw [Nat.add_zero] at this
          rw [this]; exact a
        · rw [if_neg hin]
          obtain ⟨x, a, a1, a2⟩ := hc k' hk' o' ho'
          refine ⟨x, ?_, a1, rep_mono hch (fun _ _ h => h) _ (GM.le_refl _) a2⟩
          rw [overs_out hfit ?_]
          · exact a
          · rw [e1]
            have : ¬ (k' * sz' + o' = k * sz' + o) := fun e => hin (mul_add_inj ho ho' e)
            omega
      · subst hh'
        refine ⟨_, hrun, hre, Tr.upd hok ⟨_, hd, trivial⟩ hg trivial (Chg.setRow _ _ _) ⟨hn, hcm, _, t', setRow_heap _ _ _ _ _ _ hh, by rw [overs_size hfit]; exact hm, fun k' hk' o' ho' => ?_⟩⟩
        simp only [updRm]
        by_cases hin : k' = k
        · rw [if_pos hin]
          subst hin
          obtain ⟨x, a, a1, a2⟩ := e2 o' ho'
          refine ⟨x, ?_, a1, rep_pure _ (pure_elem hp m he o' ho') (rep_mono hch (fun _ _ h => h) _ (GM.le_refl _) a2)⟩
          have := overs_in hfit (i := o') (by omega)
          rw [show k' * m + 0 + o' = k' * m + o' by omega] at this
          rw [this]; exact a
        · rw [if_neg hin]
          obtain ⟨x, a, a1, a2⟩ := hc k' hk' o' ho'
          refine ⟨x, ?_, a1, rep_mono hch (fun _ _ h => h) _ (GM.le_refl _) a2⟩
          rw [overs_out hfit ?_]
          · exact a
          · rw [e1]
            rcases Nat.lt_or_gt_of_ne hin with hlt | hgt
            · left
              have : (k' + 1) * m ≤ k * m := Nat.mul_le_mul_right _ hlt
              rw [Nat.add_mul, Nat.one_mul] at this
              omega
            · right
              have : (k + 1) * m ≤ k' * m := Nat.mul_le_mul_right _ hgt
              rw [Nat.add_mul, Nat.one_mul] at this
              omega
    · exact H.elim
theorem val_clr {t ty e : TypeId} {i : TypeInfo} {zs : List Value} {v : AV} {u : Value} {ats : Array TypeId} (hok : HOK F g w h) (ha : ats[0]? = some t) (ht : P.underlying t = some (.slice e)) (hi : P.info? e = some i) (hz : ∃ z, i.zero = some z ∧ z.cells.size = i.size ∧ zs = z.cells.toList ∧ ∀ u ∈ zs, u.oneCell' = true) (hr : rep (MM F g h) w v g u)
    (H : aop (.clr i.size (.k v)) (fun x => x.ev (fun _ => .bot)) h (fun a b => a = r ∧ b = h')) : ∃ w', (Builtin.clear_ ats ty #[u]).run P w = .ok (.tuple #[]) w' ∧ r = und ∧ Tr F g h w g h' w' := by
  simp only [aop, AX.ev] at H
  cases v <;> simp only at H
  rename_i d sz' lo n
  obtain ⟨b, cap, p, hg, rfl, hcap, hp⟩ := hr
  split at H
  · rename_i N sz2 c hd
    obtain ⟨rfl, rfl, hlo, rfl, rfl⟩ := H
    obtain ⟨hn, hcm, cs, t', hh, hm, hc⟩ := hok.row d N _ c b cap hd hg
    obtain ⟨z, z1, z2, rfl, z4⟩ := hz
    by_cases hn0 : n = 0
    · subst hn0
      refine ⟨w, by simp [Builtin.clear_, ha, run_underlying ht], rfl, Tr.upd hok ⟨_, hd, trivial⟩ hg trivial (Chg.refl _ _) ⟨by omega, hcm, cs, t', hh, hm, fun k hk o ho => hc k (by omega) o ho⟩⟩
    · have hp' := hp (by omega)
      subst hp'
      have hlen : (Builtin.zeroCells z.cells n).toList.length = n * i.size := by simp [Builtin.zeroCells, z2]
      have hone : ∀ v ∈ (Builtin.zeroCells z.cells n).toList, v.oneCell' = true := fun v hv => by
        simp only [Builtin.zeroCells, Array.toList_map, List.mem_map] at hv
        obtain ⟨j, hj, rfl⟩ := hv
        simp only [Array.toList_range, List.mem_range, z2] at hj
        have hpos : 0 < i.size := by
          rcases Nat.eq_zero_or_pos i.size with h0 | h0
          · rw [h0] at hj; omega
          · exact h0
        have hlt : j % z.cells.size < z.cells.size := by rw [z2]; exact Nat.mod_lt _ hpos
        rw [getElem!_pos z.cells _ hlt]
        exact z4 _ (by simp)
      have hfit : lo * i.size + 0 + (Builtin.zeroCells z.cells n).toList.length ≤ cs.size := by
        rw [hlen, hm, Nat.add_zero, ← Nat.add_mul]
        exact Nat.mul_le_mul_right _ hcap
      have hst := run_storeCells_at P b (lo * i.size) t' (Builtin.zeroCells z.cells n).toList 0 cs w hh hfit hone
      obtain ⟨cs2, hcs2⟩ : ∃ cs2, cs2 = (cs.toList.take (lo * i.size + 0) ++ (Builtin.zeroCells z.cells n).toList ++ cs.toList.drop (lo * i.size + 0 + (Builtin.zeroCells z.cells n).toList.length)).toArray := ⟨_, rfl⟩
      rw [← hcs2] at hst
      refine ⟨w.setRow b cs2, ?_, rfl, Tr.upd hok ⟨_, hd, trivial⟩ hg trivial (Chg.setRow _ _ _) ⟨by omega, hcm, cs2, t', setRow_heap _ _ _ _ _ _ hh, ?_, fun k hk o ho => ?_⟩⟩
      · obtain ⟨n', rfl⟩ : ∃ n', n = n' + 1 := ⟨n - 1, by omega⟩
        simp [Builtin.clear_, ha, run_underlying ht, zeroValue, typeInfo, hi, z1, hst]
      · rw [hcs2]; simp at hfit ⊢; omega
      · obtain ⟨x, a, a1, a2⟩ := hc k (by omega) o ho
        refine ⟨x, ?_, a1, rep_mono ((Chg.setRow w b _).weak (fun x _ e => by subst e; exact .inr ⟨d, cap, ⟨_, hd, trivial⟩, hg⟩)) (fun _ _ h => h) _ (GM.le_refl _) a2⟩
        have hlt : k * i.size + o < lo * i.size := by
          have : (k + 1) * i.size ≤ lo * i.size := Nat.mul_le_mul_right _ hk
          rw [Nat.add_mul, Nat.one_mul] at this
          omega
        have hle : lo * i.size ≤ cs.size := by rw [hlen] at hfit; omega
        rw [hcs2]
        simp only [List.getElem?_toArray, Nat.add_zero, List.append_assoc]
        rw [List.getElem?_append_left (by simp; omega), List.getElem?_take]
        simp only [hlt, if_true]
        rw [← a]; simp
  · exact H.elim
end
end Go.Proofs.Ytomkjfhepfinhaa
