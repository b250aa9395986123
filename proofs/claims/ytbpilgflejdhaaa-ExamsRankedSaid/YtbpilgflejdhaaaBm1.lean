/- Plain facts on memory: slices that read as lists, worlds that extend other worlds / Exams: plain data, and how they read in memory. / Exams: plain models of the small functions. / Exams: walks over the small functions. / Exams: IsTruth, IsRight, Result. -/
import Derived.WalkKit
import Derived.WalkSpells
import Derived.WalkLawsBesides
import Derived.Deep.QuietTactic
import Derived.BigQuiet
import Derived.Lib.Hide
import Derived.Test.YtbpilgflejdhaaaProg

namespace Go.Proofs.Ytbpilgflejdhaaa
open Go.RowKit

theorem block_of_add (a : Addr) (n : Nat) : (a.add n).block = a.block := by unfold Addr.add; split <;> rfl
theorem add_of_add (a : Addr) (i j : Nat) : (a.add i).add j = a.add (i + j) := by
  unfold Addr.add
  by_cases hi : i = 0 <;> by_cases hj : j = 0 <;> simp [hi, hj, Nat.add_assoc]

/-- w' has all that w has, unchanged. -/
abbrev Ext (w w' : World) : Prop := Below w.heap.size w w'

theorem Ext.refl (w : World) : Ext w w := Below.refl _ w
theorem Ext.trans {a b c : World} (h : Ext a b) (k : Ext b c) : Ext a c := Below.trans h (k.mono h.size)
theorem Ext.of_alloc (w : World) (o : Obj) : Ext w (w.alloc o) := (Below.refl _ w).alloc (Nat.le_refl _) o
theorem Ext.alloc {a w : World} (h : Ext a w) (o : Obj) : Ext a (w.alloc o) := Below.alloc h h.size o
theorem Ext.drew {a w : World} (h : Ext a w) : Ext a w.drew := Below.drew h
theorem Ext.drewN {a w : World} (h : Ext a w) (n : Nat) : Ext a (w.drewN n) := ⟨h.os, h.tape, h.output, h.size, h.block⟩
theorem Ext.cellOf {w w' : World} (h : Ext w w') {p : Addr} (hp : p.block < w.heap.size) : w'.cell? p = w.cell? p := Below.cell h hp

/-- The n elements (size cells each) of a slice at A are the cells xs. -/
def Sl (w : World) (size : Nat) (A : Option Addr) (n : Nat) (xs : List Value) : Prop :=
  xs.length = n * size ∧ (0 < n → ∃ b off, A = some ⟨b, off, none⟩ ∧ b < w.heap.size ∧ ∀ (j : Nat) (u : Value), xs[j]? = some u → w.cell? ⟨b, off + j, none⟩ = some u)

theorem Sl.ext {w w' : World} {size n : Nat} {A : Option Addr} {xs : List Value} (h : Sl w size A n xs) (e : Ext w w') : Sl w' size A n xs :=
  ⟨h.1, fun hn => by
    obtain ⟨b, off, hA, hb, hc⟩ := h.2 hn
    exact ⟨b, off, hA, Nat.lt_of_lt_of_le hb e.size, fun j u hu => (e.cellOf (p := ⟨b, off + j, none⟩) hb).trans (hc j u hu)⟩⟩
theorem Sl.nil (w : World) (size : Nat) (A : Option Addr) : Sl w size A 0 [] := ⟨by simp, fun h => absurd h (by omega)⟩
theorem own_lt {w : World} {g : Nat} {o : Obj} (hh : w.heap[g]? = some o) : g < w.heap.size := by
  rcases Nat.lt_or_ge g w.heap.size with hlt | hge
  · exact hlt
  · rw [Array.getElem?_eq_none hge] at hh; cases hh
theorem Sl.of_own {w : World} {base size n c : Nat} {e : TypeId} {A : Option Addr} {xs : List Value} (h : w.ownsRow base e size (.slice A n c) n xs) : Sl w size A n xs := by
  refine ⟨h.1, fun hn => ?_⟩
  rcases h.2 with ⟨hv, hx⟩ | ⟨g, cap, cur, hv, hb, hh, _⟩
  · injection hv with hA hn'
    omega
  · injection hv with hA
    subst hA
    refine ⟨g, 0, rfl, own_lt hh, fun j u hu => ?_⟩
    have h1 := h.cells (g := g) rfl j u hu
    unfold Addr.add at h1
    split at h1
    · rename_i h0; subst h0; exact h1
    · simpa using h1
theorem Sl.at {w : World} {size n : Nat} {A : Option Addr} {xs : List Value} (h : Sl w size A n xs) {k : Nat} (hk : k < n) :
    ∃ b off, A = some ⟨b, off, none⟩ ∧ b < w.heap.size ∧ ∀ i, i < size → ∃ u, xs[k * size + i]? = some u ∧ w.cell? ⟨b, off + (k * size + i), none⟩ = some u := by
  obtain ⟨b, off, hA, hb, hc⟩ := h.2 (by omega)
  refine ⟨b, off, hA, hb, fun i hi => ?_⟩
  have hlt : k * size + i < xs.length := by
    rw [h.1]
    have : (k + 1) * size ≤ n * size := Nat.mul_le_mul_right _ hk
    rw [Nat.add_mul] at this
    omega
  exact ⟨xs[k * size + i], List.getElem?_eq_getElem hlt, hc _ _ (List.getElem?_eq_getElem hlt)⟩

/-- A slice of ints. -/
def Ints (w : World) (A : Option Addr) (l : List Int) : Prop :=
  ∀ k, k < l.length → ∃ b off, A = some ⟨b, off, none⟩ ∧ b < w.heap.size ∧ w.cell? ⟨b, off + k, none⟩ = some (.int .i64 (l.getD k 0))
theorem Ints.ext {w w' : World} {A : Option Addr} {l : List Int} (h : Ints w A l) (e : Ext w w') : Ints w' A l := fun k hk => by
  obtain ⟨b, off, hA, hb, hc⟩ := h k hk
  exact ⟨b, off, hA, Nat.lt_of_lt_of_le hb e.size, (e.cellOf (p := ⟨b, off + k, none⟩) hb).trans hc⟩
theorem Ints.of_own {w : World} {base n c : Nat} {e : TypeId} {A : Option Addr} {l : List Int} (h : w.ownsRow base e 1 (.slice A n c) n (l.map (.int .i64))) : n = l.length ∧ Ints w A l := by
  have hl : n = l.length := by have := h.1; simp at this; omega
  refine ⟨hl, fun k hk => ?_⟩
  obtain ⟨b, off, hA, hb, hc⟩ := (Sl.of_own h).at (k := k) (by omega)
  obtain ⟨u, hu, hcu⟩ := hc 0 (by omega)
  refine ⟨b, off, hA, hb, ?_⟩
  simp at hu hcu
  obtain ⟨a, ha, rfl⟩ := hu
  rw [hcu]
  simp [List.getD, ha]

theorem Ints.get {w : World} {A : Option Addr} {l : List Int} (h : Ints w A l) {k : Nat} (hk : k < l.length) :
    ∃ b off x, A = some ⟨b, off, none⟩ ∧ b < w.heap.size ∧ w.cell? ⟨b, off + k, none⟩ = some (.int .i64 x) ∧ Hid (l.getD k 0 = x) := by
  obtain ⟨b, off, h1, h2, h3⟩ := h k hk
  exact ⟨b, off, _, h1, h2, h3, rfl⟩

theorem Ext.unalloc {w wr : World} {o : Obj} (h : Ext (w.alloc o) wr) : Ext w wr := (Ext.of_alloc w o).trans h
theorem Ext.box {w wr : World} {cs : Array Value} {T : TypeId} (h : Ext (w.alloc (.cells cs T)) wr) (i : Nat) : wr.cell? ⟨w.heap.size, i, none⟩ = cs[i]? := by
  rw [h.cellOf (by simp), World.cell?_alloc_at _ _ _ _ rfl]
theorem Ext.boxFree {w wr : World} {cs : Array Value} {T : TypeId} (h : Ext (w.alloc (.cells cs T)) wr) (i : Nat) : wr.frozen? ⟨w.heap.size, i, none⟩ = false := by
  rw [Below.frozen h (by simp), World.frozen?_alloc_at _ _ _ _ rfl]
theorem Ext.lt {w wr : World} {o : Obj} (h : Ext (w.alloc o) wr) : w.heap.size < wr.heap.size := by have := h.size; simp at this; omega
theorem Ext.le {w wr : World} (h : Ext w wr) : w.heap.size ≤ wr.heap.size := h.size

theorem Ext.grown {w w' : World} (h : Ext w w') (row : Option Nat) : w.grownBy w' row := ⟨h.os, h.tape, h.output, h.size, fun i hi _ => h.block i hi⟩
theorem Ext.of_grown {w w' : World} (h : w.grownBy w' none) : Ext w w' := ⟨h.os, h.tape, h.output, h.size, fun i hi => h.block i hi (by simp)⟩

/-- Block g is just the cells cs of element type t, none frozen. -/
def Blk (w : World) (g : Nat) (t : TypeId) (cs : Array Value) : Prop := w.heap[g]? = some (.cells cs t (0, 0))
theorem Blk.lt {w : World} {g : Nat} {t : TypeId} {cs : Array Value} (h : Blk w g t cs) : g < w.heap.size := own_lt h
theorem Blk.cell {w : World} {g : Nat} {t : TypeId} {cs : Array Value} (h : Blk w g t cs) (i : Nat) : w.cell? ⟨g, i, none⟩ = cs[i]? := by
  unfold Blk at h; simp [World.cell?, h]
theorem Blk.free {w : World} {g : Nat} {t : TypeId} {cs : Array Value} (h : Blk w g t cs) (i : Nat) : w.frozen? ⟨g, i, none⟩ = false := by
  unfold Blk at h; simp [World.frozen?, h]
theorem Blk.new (w : World) (t : TypeId) (cs : Array Value) : Blk (w.alloc (.cells cs t)) w.heap.size t cs := heap_alloc_new w _
theorem Blk.ext {w w' : World} {g : Nat} {t : TypeId} {cs : Array Value} (h : Blk w g t cs) (e : Ext w w') : Blk w' g t cs := (e.block g h.lt).trans h
theorem Blk.alloc {w : World} {g : Nat} {t : TypeId} {cs : Array Value} (h : Blk w g t cs) (o : Obj) : Blk (w.alloc o) g t cs := h.ext (Ext.of_alloc _ _)
theorem Blk.set {w : World} {g : Nat} {t : TypeId} {cs : Array Value} (h : Blk w g t cs) (i : Nat) (u : Value) : Blk (w.setCell ⟨g, i, none⟩ u) g t (cs.setIfInBounds i u) := by
  unfold Blk at h ⊢
  simp [World.setCell, Array.getElem?_modify, h]
theorem Blk.far {w : World} {g : Nat} {t : TypeId} {cs : Array Value} (h : Blk w g t cs) {p : Addr} (hp : g ≠ p.block) (u : Value) : Blk (w.setCell p u) g t cs := (Below.heap_setCell w p u g hp).trans h
theorem Blk.grown {w w' : World} {g : Nat} {t : TypeId} {cs : Array Value} {row : Option Nat} (h : Blk w g t cs) (hb : w.grownBy w' row) (hg : some g ≠ row) : Blk w' g t cs := (hb.block g h.lt hg).trans h
theorem Blk.ne {w : World} {g g' : Nat} {t t' : TypeId} {cs cs' : Array Value} (h : Blk w g t cs) (h' : Blk w g' t' cs') (hne : t ≠ t') : g ≠ g' := by
  rintro rfl
  unfold Blk at h h'
  rw [h] at h'
  injection h' with h'
  injection h' with _ ht
  exact hne ht
theorem grown_setCell (w : World) (p : Addr) (u : Value) : w.grownBy (w.setCell p u) (some p.block) :=
  ⟨rfl, rfl, rfl, by simp, fun i _ hne => Below.heap_setCell _ _ _ _ (fun e => hne (by rw [e]))⟩
theorem grown_refl (w : World) (row : Option Nat) : w.grownBy w row := (Ext.refl w).grown row
theorem grown_trans {a b c : World} {row : Option Nat} (h : a.grownBy b row) (k : b.grownBy c row) : a.grownBy c row :=
  ⟨k.os.trans h.os, k.tape.trans h.tape, k.output.trans h.output, Nat.le_trans h.size k.size, fun i hi hne => (k.block i (Nat.lt_of_lt_of_le hi h.size) hne).trans (h.block i hi hne)⟩
theorem grown_drew (w : World) (row : Option Nat) : w.grownBy w.drew row := (Ext.refl w).drew.grown row

theorem quiet_add_same {P : Program} {f : FuncId} {args : Array Value} {w : World} {a n : Nat} {v : Value}
    (h : Calls P f args (w.drewN (a + n)) fun e w' => e = .returned v ∧ w' = w.drewN (a + n)) :
    Calls P f args (w.drewN (a + n)) fun e w'' => e = .returned v ∧ ∃ m, w'' = w.drewN (a + m) :=
  h.mono fun _ _ ⟨he, hm⟩ => ⟨he, n, hm⟩

/-- A region that draws, all of whose operations read or call, in a class of worlds. -/
theorem wp_region_class {P : Program} {id : Nat} {Q : Exit → Act → World → Prop} {a : Act} {w : World} {l : List Oper} (C : World → Prop) (hm : P.follows .mixedOrders = true) (hB : Region.lexB .any l.toArray = true) (hC : C w.drew)
    (h : wpQuiet P l.toArray C (fun a' => ∀ w', C w' → Q .normal a' w') l a) : (Code.region id l.toArray true).wp P Q a w :=
  wp_region_quiet (C := C) hm hB hC (by simpa using h)

theorem ret_int {k : IntKind} {a b : Int} (h : a = b) : Ending.returned (.int k a) = .returned (.int k b) := by rw [h]
theorem ret_bool {a b : Bool} (h : a = b) : Ending.returned (.bool a) = .returned (.bool b) := by rw [h]
end Go.Proofs.Ytbpilgflejdhaaa

namespace Go.Proofs.Ytbpilgflejdhaaa
open Go.RowKit

structure Item where
  weight : Int
  most : Int
  deriving Inhabited, DecidableEq
structure Judge where
  lo : Int
  hi : Int
  err : Int
  marks : List Int
  deriving Inhabited, DecidableEq
structure Paper where
  items : List Item
  judges : List Judge
  wrong : Int
  grades : List Int
  deriving Inhabited, DecidableEq

def ItemsAt (w : World) (A : Option Addr) (l : List Item) : Prop :=
  ∀ k, k < l.length → ∃ b off, A = some ⟨b, off, none⟩ ∧ b < w.heap.size ∧ w.cell? ⟨b, off + k * 2, none⟩ = some (.int .i64 (l.getD k default).weight) ∧ w.cell? ⟨b, off + k * 2 + 1, none⟩ = some (.int .i64 (l.getD k default).most)
theorem ItemsAt.ext {w w' : World} {A : Option Addr} {l : List Item} (h : ItemsAt w A l) (e : Ext w w') : ItemsAt w' A l := fun k hk => by
  obtain ⟨b, off, hA, hb, h1, h2⟩ := h k hk
  exact ⟨b, off, hA, Nat.lt_of_lt_of_le hb e.size, (e.cellOf (p := ⟨b, _, none⟩) hb).trans h1, (e.cellOf (p := ⟨b, _, none⟩) hb).trans h2⟩

/-- The four cells of a judge. -/
def JudgeAt (w : World) (b o : Nat) (x : Judge) : Prop :=
  w.cell? ⟨b, o, none⟩ = some (.int .i64 x.lo) ∧ w.cell? ⟨b, o + 1, none⟩ = some (.int .i64 x.hi) ∧ w.cell? ⟨b, o + 2, none⟩ = some (.int .i64 x.err) ∧
    ∃ mA mc, w.cell? ⟨b, o + 3, none⟩ = some (.slice mA x.marks.length mc) ∧ Ints w mA x.marks ∧ x.marks.length ≤ 9223372036854775807
def JudgesAt (w : World) (A : Option Addr) (l : List Judge) : Prop :=
  ∀ k, k < l.length → ∃ b off, A = some ⟨b, off, none⟩ ∧ b < w.heap.size ∧ JudgeAt w b (off + k * 4) (l.getD k default)
theorem JudgeAt.ext {w w' : World} {b : Nat} {o : Nat} {x : Judge} (h : JudgeAt w b o x) (hb : b < w.heap.size) (e : Ext w w') : JudgeAt w' b o x := by
  obtain ⟨h1, h2, h3, mA, mc, h4, h5, h6⟩ := h
  have k : ∀ i, w'.cell? ⟨b, i, none⟩ = w.cell? ⟨b, i, none⟩ := fun i => e.cellOf (p := ⟨b, i, none⟩) hb
  exact ⟨(k _).trans h1, (k _).trans h2, (k _).trans h3, mA, mc, (k _).trans h4, h5.ext e, h6⟩
theorem JudgesAt.ext {w w' : World} {A : Option Addr} {l : List Judge} (h : JudgesAt w A l) (e : Ext w w') : JudgesAt w' A l := fun k hk => by
  obtain ⟨b, off, hA, hb, h1⟩ := h k hk
  exact ⟨b, off, hA, Nat.lt_of_lt_of_le hb e.size, h1.ext hb e⟩

/-- A paper as a value. -/
structure PaperAt (w : World) (iA jA gA : Option Addr) (p : Paper) : Prop where
  items : ItemsAt w iA p.items
  judges : JudgesAt w jA p.judges
  grades : Ints w gA p.grades
  il : p.items.length ≤ 9223372036854775807
  jl : p.judges.length ≤ 9223372036854775807
  gl : p.grades.length ≤ 9223372036854775807
theorem PaperAt.ext {w w' : World} {iA jA gA : Option Addr} {p : Paper} (h : PaperAt w iA jA gA p) (e : Ext w w') : PaperAt w' iA jA gA p :=
  ⟨h.items.ext e, h.judges.ext e, h.grades.ext e, h.il, h.jl, h.gl⟩

/-- GradeOf: how many of the first k grades are at most r. -/
def gradeTo (l : List Int) (r : Int) (k : Nat) : Nat := (l.take k).countP (fun g => decide (g ≤ r))
theorem gradeTo_succ (l : List Int) (r : Int) (k : Nat) (h : k < l.length) : gradeTo l r (k + 1) = gradeTo l r k + if l.getD k 0 ≤ r then 1 else 0 := by
  unfold gradeTo
  rw [List.take_succ_eq_append_getElem h, List.countP_append]
  simp [List.countP_cons, h]
theorem gradeTo_le (l : List Int) (r : Int) (k : Nat) : gradeTo l r k ≤ k := by
  unfold gradeTo
  have := List.countP_le_length (p := fun g => decide (g ≤ r)) (l := l.take k)
  have := List.length_take_le k l
  omega
def gradeOf (p : Paper) (r : Int) : Int := gradeTo p.grades r p.grades.length
end Go.Proofs.Ytbpilgflejdhaaa

namespace Go.Proofs.Ytbpilgflejdhaaa
open Go.RowKit

def wi (n lo hi : Int) : Bool := decide (lo ≤ n) && decide (n ≤ hi)
theorem wi_true {n lo hi : Int} (h : wi n lo hi = true) : lo ≤ n ∧ n ≤ hi := by simpa [wi] using h
theorem wi_of {n lo hi : Int} (h : lo ≤ n ∧ n ≤ hi) : wi n lo hi = true := by simpa [wi] using h
theorem wi_false {n lo hi : Int} (h : wi n lo hi = false) : n < lo ∨ hi < n := by
  simp [wi] at h
  omega

/-- The first k numbers agree. -/
def sameTo (a b : List Int) (k : Nat) : Prop := ∀ j, j < k → a.getD j 0 = b.getD j 0
theorem sameTo_succ {a b : List Int} {k : Nat} (h : sameTo a b k) (e : a.getD k 0 = b.getD k 0) : sameTo a b (k + 1) := fun j hj => by
  by_cases hk : j = k
  · subst hk; exact e
  · exact h j (by omega)
theorem eq_of_sameTo {a b : List Int} (hl : a.length = b.length) (h : sameTo a b a.length) : a = b := by
  apply List.ext_getElem? 
  intro j
  by_cases hj : j < a.length
  · have := h j hj
    rw [List.getElem?_eq_getElem hj, List.getElem?_eq_getElem (by omega)]
    simp [List.getD, hj, show j < b.length by omega] at this
    rw [this]
  · rw [List.getElem?_eq_none (by omega), List.getElem?_eq_none (by omega)]

/-- all of the first k. -/
def allTo (P : Nat → Bool) (k : Nat) : Prop := ∀ j, j < k → P j = true
theorem allTo_zero (P : Nat → Bool) : allTo P 0 := fun j h => absurd h (by omega)
theorem allTo_succ {P : Nat → Bool} {k : Nat} (h : allTo P k) (e : P k = true) : allTo P (k + 1) := fun j hj => by
  by_cases hk : j = k
  · subst hk; exact e
  · exact h j (by omega)
theorem all_getD {α : Type} (l : List α) (d : α) (f : α → Bool) : l.all f = true ↔ allTo (fun j => f (l.getD j d)) l.length := by
  rw [List.all_eq_true]
  constructor
  · intro h j hj
    exact h _ (by rw [List.getD, List.getElem?_eq_getElem hj]; exact List.getElem_mem hj)
  · intro h x hx
    obtain ⟨j, hj, rfl⟩ := List.getElem_of_mem hx
    have := h j hj
    simpa [List.getD, hj] using this
theorem all_getD_false {α : Type} {l : List α} {d : α} {f : α → Bool} {k : Nat} (hk : k < l.length) (h : f (l.getD k d) = false) : l.all f = false := by
  cases h1 : l.all f
  · rfl
  · have h2 : f (l.getD k d) = true := (all_getD l d f).1 h1 k hk
    rw [h2] at h; cases h

def itemOk (i : Item) : Bool := wi i.weight 0 10 && wi i.most 0 30
def judgeOk1 (n : Nat) (x : Judge) : Bool := decide (-3 ≤ x.lo) && decide (x.lo ≤ x.hi) && decide (x.hi ≤ 3) && wi x.err 0 5 && decide (x.marks.length = n)
def markOk (m : Int) : Bool := wi m (-1) 50
def judgeOk (n : Nat) (x : Judge) : Bool := judgeOk1 n x && x.marks.all markOk
def gradeOk (l : List Int) (g : Nat) : Bool := wi (l.getD g 0) 0 1200 && (decide (g = 0) || decide (l.getD (g - 1) 0 < l.getD g 0))
def gradesOk (l : List Int) : Bool := (List.range l.length).all (gradeOk l)
def headOk (p : Paper) : Bool := wi p.items.length 1 4 && decide (p.judges.length ≤ 4) && wi p.wrong 0 2 && decide (p.grades.length ≤ 5)
def validB (p : Paper) : Bool := headOk p && p.items.all itemOk && p.judges.all (judgeOk p.items.length) && gradesOk p.grades
def checkE (p : Paper) : Int := if validB p then 0 else 90

theorem gradesOk_iff (l : List Int) : gradesOk l = true ↔ allTo (gradeOk l) l.length := by
  unfold gradesOk allTo
  simp [List.all_eq_true, List.mem_range]
theorem checkE_head {p : Paper} (h : headOk p = false) : checkE p = 90 := by simp [checkE, validB, h]
theorem checkE_item {p : Paper} {k : Nat} (hk : k < p.items.length) (h : itemOk (p.items.getD k default) = false) : checkE p = 90 := by
  simp [checkE, validB, all_getD_false hk h]
theorem checkE_judge {p : Paper} {k : Nat} (hk : k < p.judges.length) (h : judgeOk p.items.length (p.judges.getD k default) = false) : checkE p = 90 := by
  simp [checkE, validB, all_getD_false hk h]
theorem checkE_grade {p : Paper} {k : Nat} (hk : k < p.grades.length) (h : gradeOk p.grades k = false) : checkE p = 90 := by
  have : gradesOk p.grades = false := by
    cases h1 : gradesOk p.grades
    · rfl
    · rw [(gradesOk_iff _).1 h1 k hk] at h; cases h
  simp [checkE, validB, this]
theorem checkE_ok {p : Paper} (h1 : headOk p = true) (h2 : allTo (fun j => itemOk (p.items.getD j default)) p.items.length)
    (h3 : allTo (fun j => judgeOk p.items.length (p.judges.getD j default)) p.judges.length) (h4 : allTo (gradeOk p.grades) p.grades.length) : checkE p = 0 := by
  simp [checkE, validB, h1, (all_getD _ _ _).2 h2, (all_getD _ _ _).2 h3, (gradesOk_iff _).2 h4]

/-- A judge's one mark agrees with points at a bias. -/
def agree1 (x : Judge) (t : List Int) (b : Int) (i : Nat) : Bool :=
  decide (x.marks.getD i 0 = -1) || wi (x.marks.getD i 0 - t.getD i 0 - b) (-x.err) x.err
def agree (x : Judge) (t : List Int) (b : Int) : Bool := (List.range t.length).all (agree1 x t b)
def biases (x : Judge) : List Int := (List.range (x.hi + 1 - x.lo).toNat).map (fun n : Nat => x.lo + n)
def isRight (x : Judge) (t : List Int) : Bool := (biases x).any (agree x t)
def wrongsTo (p : Paper) (t : List Int) (k : Nat) : Nat := (p.judges.take k).countP (fun x => !isRight x t)
def wrongs (p : Paper) (t : List Int) : Nat := wrongsTo p t p.judges.length
def isTruth (p : Paper) (t : List Int) : Bool := decide (t.length = p.items.length) && (List.range t.length).all (fun i => wi (t.getD i 0) 0 (p.items.getD i default).most)
def isPossible (p : Paper) (t : List Int) : Bool := isTruth p t && decide ((wrongs p t : Int) ≤ p.wrong)
def resultTo (p : Paper) (t : List Int) : Nat → Int
  | 0 => 0
  | k + 1 => resultTo p t k + t.getD k 0 * (p.items.getD k default).weight
def resultOf (p : Paper) (t : List Int) : Int := resultTo p t t.length

theorem wrongsTo_succ (p : Paper) (t : List Int) (k : Nat) (h : k < p.judges.length) : wrongsTo p t (k + 1) = wrongsTo p t k + if isRight (p.judges.getD k default) t = true then 0 else 1 := by
  unfold wrongsTo
  rw [List.take_succ_eq_append_getElem h, List.countP_append]
  simp [List.countP_cons, h]
  split <;> simp_all
theorem wrongsTo_le (p : Paper) (t : List Int) (k : Nat) : wrongsTo p t k ≤ k := by
  unfold wrongsTo
  have := List.countP_le_length (p := fun x => !isRight x t) (l := p.judges.take k)
  have := List.length_take_le k p.judges
  omega
theorem range_all {n : Nat} {f : Nat → Bool} : (List.range n).all f = true ↔ allTo f n := by
  simp [List.all_eq_true, List.mem_range, allTo]
theorem range_all_false {n k : Nat} {f : Nat → Bool} (hk : k < n) (h : f k = false) : (List.range n).all f = false := by
  cases h1 : (List.range n).all f
  · rfl
  · rw [range_all.1 h1 k hk] at h; cases h
theorem allTo_snoc {f : Nat → Bool} {k : Nat} : (List.range (k + 1)).all f = ((List.range k).all f && f k) := by
  rw [List.range_succ, List.all_append]; simp

structure Valid (p : Paper) : Prop where
  il : 1 ≤ p.items.length ∧ p.items.length ≤ 4
  jl : p.judges.length ≤ 4
  wr : 0 ≤ p.wrong ∧ p.wrong ≤ 2
  gl : p.grades.length ≤ 5
  it : ∀ k, k < p.items.length → 0 ≤ (p.items.getD k default).weight ∧ (p.items.getD k default).weight ≤ 10 ∧ 0 ≤ (p.items.getD k default).most ∧ (p.items.getD k default).most ≤ 30
  ju : ∀ k, k < p.judges.length → -3 ≤ (p.judges.getD k default).lo ∧ (p.judges.getD k default).lo ≤ (p.judges.getD k default).hi ∧ (p.judges.getD k default).hi ≤ 3 ∧ 0 ≤ (p.judges.getD k default).err ∧ (p.judges.getD k default).err ≤ 5 ∧ (p.judges.getD k default).marks.length = p.items.length
  ma : ∀ k, k < p.judges.length → ∀ i, i < p.items.length → -1 ≤ (p.judges.getD k default).marks.getD i 0 ∧ (p.judges.getD k default).marks.getD i 0 ≤ 50
  gr : ∀ g, g < p.grades.length → 0 ≤ p.grades.getD g 0 ∧ p.grades.getD g 0 ≤ 1200 ∧ (g = 0 ∨ p.grades.getD (g - 1) 0 < p.grades.getD g 0)

theorem valid_of {p : Paper} (h : validB p = true) : Valid p := by
  simp only [validB, headOk, Bool.and_eq_true, decide_eq_true_eq] at h
  obtain ⟨⟨⟨⟨⟨⟨h1, h2⟩, h3⟩, h4⟩, h5⟩, h6⟩, h7⟩ := h
  have h5 := (all_getD _ default _).1 h5
  have h6 := (all_getD _ default _).1 h6
  have h7 := (gradesOk_iff _).1 h7
  have h1 := wi_true h1
  have h3 := wi_true h3
  have key : ∀ k, k < p.judges.length → (-3 ≤ (p.judges.getD k default).lo ∧ (p.judges.getD k default).lo ≤ (p.judges.getD k default).hi ∧ (p.judges.getD k default).hi ≤ 3 ∧ 0 ≤ (p.judges.getD k default).err ∧ (p.judges.getD k default).err ≤ 5 ∧ (p.judges.getD k default).marks.length = p.items.length) ∧ allTo (fun j => markOk ((p.judges.getD k default).marks.getD j 0)) (p.judges.getD k default).marks.length := by
    intro k hk
    have := h6 k hk
    simp only [judgeOk, judgeOk1, Bool.and_eq_true, decide_eq_true_eq] at this
    obtain ⟨⟨⟨⟨⟨a, b⟩, c⟩, d⟩, e⟩, f⟩ := this
    exact ⟨⟨a, b, c, (wi_true d).1, (wi_true d).2, e⟩, (all_getD _ 0 _).1 f⟩
  refine ⟨⟨by omega, by omega⟩, h2, ⟨h3.1, h3.2⟩, h4, fun k hk => ?_, fun k hk => (key k hk).1, fun k hk i hi => ?_, fun g hg => ?_⟩
  · have := h5 k hk
    simp only [itemOk, Bool.and_eq_true] at this
    have a := wi_true this.1
    have b := wi_true this.2
    exact ⟨a.1, a.2, b.1, b.2⟩
  · exact wi_true ((key k hk).2 i (by have := (key k hk).1.2.2.2.2.2; omega))
  · have := h7 g hg
    simp only [gradeOk, Bool.and_eq_true, Bool.or_eq_true, decide_eq_true_eq] at this
    exact ⟨(wi_true this.1).1, (wi_true this.1).2, this.2⟩
theorem headOk_false {p : Paper} (h : headOk p = false) : wi p.items.length 1 4 = false ∨ (wi p.items.length 1 4 = true ∧ 4 < p.judges.length) ∨ (wi p.items.length 1 4 = true ∧ p.judges.length ≤ 4 ∧ wi p.wrong 0 2 = false) ∨
    (wi p.items.length 1 4 = true ∧ p.judges.length ≤ 4 ∧ wi p.wrong 0 2 = true ∧ 5 < p.grades.length) := by
  unfold headOk at h
  cases h1 : wi p.items.length 1 4 <;> cases h2 : wi p.wrong 0 2 <;> simp [h1, h2] at h ⊢ <;> omega
theorem headOk_true {p : Paper} (h : headOk p = true) : wi p.items.length 1 4 = true ∧ p.judges.length ≤ 4 ∧ wi p.wrong 0 2 = true ∧ p.grades.length ≤ 5 := by
  unfold headOk at h
  cases h1 : wi p.items.length 1 4 <;> cases h2 : wi p.wrong 0 2 <;> simp [h1, h2] at h ⊢ <;> omega

theorem judgeOk1_eq (n : Nat) (lo hi err : Int) (ma : List Int) : judgeOk1 n ⟨lo, hi, err, ma⟩ = (decide (-3 ≤ lo) && decide (lo ≤ hi) && decide (hi ≤ 3) && wi err 0 5 && decide (ma.length = n)) := rfl

/-- The first part of a judge's look: what is false first. -/
theorem judgeOk1_false {n : Nat} {lo hi err : Int} {ma : List Int} (h : judgeOk1 n ⟨lo, hi, err, ma⟩ = false) :
    lo < -3 ∨ (-3 ≤ lo ∧ hi < lo) ∨ (-3 ≤ lo ∧ lo ≤ hi ∧ 3 < hi) ∨ (-3 ≤ lo ∧ lo ≤ hi ∧ hi ≤ 3 ∧ wi err 0 5 = false) ∨ (-3 ≤ lo ∧ lo ≤ hi ∧ hi ≤ 3 ∧ wi err 0 5 = true ∧ ((ma.length : Int) != n) = true ∧ ((ma.length : Int) == n) = false) := by
  rw [judgeOk1_eq] at h
  cases h1 : wi err 0 5 <;> simp [h1] at h ⊢ <;> omega
theorem judgeOk1_true {n : Nat} {lo hi err : Int} {ma : List Int} (h : judgeOk1 n ⟨lo, hi, err, ma⟩ = true) :
    -3 ≤ lo ∧ lo ≤ hi ∧ hi ≤ 3 ∧ wi err 0 5 = true ∧ ((ma.length : Int) != n) = false ∧ ((ma.length : Int) == n) = true := by
  rw [judgeOk1_eq] at h
  cases h1 : wi err 0 5 <;> simp [h1] at h ⊢ <;> omega

end Go.Proofs.Ytbpilgflejdhaaa

namespace Go.Proofs.Ytbpilgflejdhaaa
open Go.RowKit

theorem withinR (n lo hi : Int) (w : World) :
    Calls Try.prog 52 #[.int .i64 n, .int .i64 lo, .int .i64 hi] w fun e w' => e = .returned (.bool (wi n lo hi)) ∧ w' = w := by
  by_cases h1 : lo ≤ n
  · by_cases h2 : n ≤ hi
    · have h := Lib.hid (wi_of ⟨h1, h2⟩)
      go_enter Try.func52, Try.ntmps52
      go_wp2
      go_ret
      exact ⟨ret_bool h.out.symm, rfl⟩
    · have h := Lib.hid (show wi n lo hi = false by simp [wi, h2])
      go_enter Try.func52, Try.ntmps52
      go_wp2
      go_ret
      exact ⟨ret_bool h.out.symm, rfl⟩
  · have h := Lib.hid (show wi n lo hi = false by simp [wi, h1])
    go_enter Try.func52, Try.ntmps52
    go_wp2
    go_ret
    exact ⟨ret_bool h.out.symm, rfl⟩
theorem withinR' (n lo hi : Int) (w : World) :
    Calls Try.prog 52 #[.int .i64 n, .int .i64 lo, .int .i64 hi] w fun e w' => e = .returned (.bool (wi n lo hi)) ∧ w = w' :=
  (withinR n lo hi w).mono fun _ _ ⟨a, b⟩ => ⟨a, b.symm⟩

set_option maxHeartbeats 400000 in
theorem sameInts_any (A B : Option Addr) (c d : Nat) (a b : List Int) (w : World) (ha : Ints w A a) (hb : Ints w B b) (hal : a.length ≤ 9223372036854775807) (hbl : b.length ≤ 9223372036854775807) :
    Calls Try.prog 45 #[.slice A a.length c, .slice B b.length d] w fun e w' => e = .returned (.bool (decide (a = b))) ∧ Ext w w' := by
  by_cases hl : a.length = b.length
  · have HL := Lib.hid hl
    have hl1 : ((a.length : Int) != b.length) = false := by simp [hl]
    have hl2 : a.length ≤ b.length := by omega
    have hl3 : b.length ≤ a.length := by omega
    clear hl
    go_enter Try.func45, Try.ntmps45
    go_wp2
    go_loopw [5] (fun i wr => ∃ k n : Nat, k ≤ a.length ∧ i = .int .i64 k ∧ wr = w.drewN n ∧ sameTo a b k)
      (fun i _ => a.length - (intOf i).toNat)
    case atStart => exact ⟨0, 0, by omega, rfl, rfl, fun j h => by omega⟩
    case round =>
      obtain ⟨k, n, hk, rfl, rfl, hs⟩ := hrel
      by_cases hlt : k < a.length
      · obtain ⟨ba, oa, x, rfl, _, hca, hx⟩ := ha.get hlt
        obtain ⟨bb, ob, y, rfl, _, hcb, hy⟩ := hb.get (show k < b.length by omega)
        have hkb : k < b.length := by omega
        by_cases he : x = y
        · have hn : (x != y) = false := by rw [he]; simp
          have HE := Lib.hid (show a.getD k 0 = b.getD k 0 by rw [hx.out, hy.out, he])
          clear he
          go_wp2
          go_quiet (fail)
          go_wp2
          go_roundw
          case rel => exact ⟨k + 1, n + nq, by omega, by go_num, by simp, sameTo_succ hs HE.out⟩
          case measure => simp [intOf]; omega
        · have hn : (x != y) = true := by simpa using he
          have HE := Lib.hid (show a.getD k 0 ≠ b.getD k 0 by rw [hx.out, hy.out]; exact he)
          clear he
          go_wp2
          go_quiet (fail)
          go_wp2
          go_ret
          exact ⟨ret_bool (by simp; intro h; subst h; exact HE.out rfl), ((Ext.refl w).drewN _).drewN _⟩
      · go_wp2
        go_ret
        exact ⟨ret_bool (by have := eq_of_sameTo HL.out (show sameTo a b a.length from fun j hj => hs j (by omega)); simp [this]), (Ext.refl w).drewN _⟩
  · have hl1 : ((a.length : Int) != b.length) = true := by simp; omega
    have HL := Lib.hid hl
    clear hl
    go_enter Try.func45, Try.ntmps45
    go_wp2
    go_ret
    exact ⟨ret_bool (by simp; intro h; subst h; exact HL.out rfl), Ext.refl w⟩

set_option maxHeartbeats 400000 in
theorem gradeOf_any (iA jA gA : Option Addr) (ic jc gc : Nat) (p : Paper) (r : Int) (w : World) (h : PaperAt w iA jA gA p) :
    Calls Try.prog 29 #[.agg #[.slice iA p.items.length ic, .slice jA p.judges.length jc, .int .i64 p.wrong, .slice gA p.grades.length gc], .int .i64 r] w fun e w' => e = .returned (.int .i64 (gradeOf p r)) ∧ Ext w w' := by
  have hgl := h.gl
  have hg := h.grades
  generalize hG : p.grades = G at *
  have HG := Lib.hid hG
  clear hG h
  generalize p.items.length = il, p.judges.length = jl, p.wrong = wr
  go_enter Try.func29, Try.ntmps29
  go_wp2
  go_loop [5, 6] (fun n i => ∃ k : Nat, k ≤ G.length ∧ i = .int .i64 k ∧ n = .int .i64 (gradeTo G r k)) (fun _ i => G.length - (intOf i).toNat)
  case atStart => exact ⟨0, by omega, rfl, rfl⟩
  case round =>
    obtain ⟨k, hk, rfl, rfl⟩ := hrel
    have hle := gradeTo_le G r k
    by_cases hlt : k < G.length
    · obtain ⟨b, off, x, rfl, hb, hc, hx⟩ := hg.get hlt
      have HS := Lib.hid (gradeTo_succ G r k hlt)
      by_cases hr : x ≤ r
      · have HR := Lib.hid (show G.getD k 0 ≤ r by rw [hx.out]; exact hr)
        go_wp2
        go_round
        case rel => exact ⟨k + 1, by omega, by go_num, by rw [HS.out, if_pos HR.out]; go_num⟩
        case measure => simp [intOf]; omega
      · have HR := Lib.hid (show ¬ G.getD k 0 ≤ r by rw [hx.out]; exact hr)
        go_wp2
        go_round
        case rel => exact ⟨k + 1, by omega, by go_num, by rw [HS.out, if_neg HR.out]; go_num⟩
        case measure => simp [intOf]; omega
    · go_wp2
      go_ret
      exact ⟨ret_int (by unfold gradeOf; rw [HG.out, show k = G.length by omega]), Ext.of_alloc _ _⟩

theorem inside_any (n lo hi : Int) (w : World) : Calls Try.prog 31 #[.int .i64 n, .agg #[.int .i64 lo, .int .i64 hi]] w fun e w' => e = .returned (.bool (wi n lo hi)) ∧ Ext w w' := by
  by_cases h1 : lo ≤ n
  · by_cases h2 : n ≤ hi
    · have h := Lib.hid (wi_of ⟨h1, h2⟩)
      go_enter Try.func31, Try.ntmps31
      go_wp2
      go_ret
      exact ⟨ret_bool h.out.symm, Ext.of_alloc _ _⟩
    · have h := Lib.hid (show wi n lo hi = false by simp [wi, h2])
      go_enter Try.func31, Try.ntmps31
      go_wp2
      go_ret
      exact ⟨ret_bool h.out.symm, Ext.of_alloc _ _⟩
  · have h := Lib.hid (show wi n lo hi = false by simp [wi, h1])
    go_enter Try.func31, Try.ntmps31
    go_wp2
    go_ret
    exact ⟨ret_bool h.out.symm, Ext.of_alloc _ _⟩

set_option maxHeartbeats 400000 in
theorem in_any (A : Option Addr) (c : Nat) (l : List Int) (n : Int) (w : World) (h : Ints w A l) (hl : l.length ≤ 9223372036854775807) :
    Calls Try.prog 34 #[.slice A l.length c, .int .i64 n] w fun e w' => e = .returned (.bool (decide (n ∈ l))) ∧ Ext w w' := by
  go_enter Try.func34, Try.ntmps34
  go_wp2
  go_loop [5] (fun i => ∃ k : Nat, k ≤ l.length ∧ i = .int .i64 k ∧ ∀ j, j < k → l.getD j 0 ≠ n) (fun i => l.length - (intOf i).toNat)
  case atStart => exact ⟨0, by omega, rfl, fun j h => by omega⟩
  case round =>
    obtain ⟨k, hk, rfl, hs⟩ := hrel
    have HS := Lib.hid hs
    clear hs
    by_cases hlt : k < l.length
    · obtain ⟨b, off, x, rfl, hb, hc, hx⟩ := h.get hlt
      by_cases hr : x = n
      · have HR := Lib.hid (hx.out.trans hr)
        have hq : (x == n) = true := by simpa using hr
        clear hr
        go_wp2
        go_ret
        exact ⟨ret_bool (by
          have := HR.out
          rw [List.getD, List.getElem?_eq_getElem hlt] at this
          simp at this
          simp [← this]), Ext.refl w⟩
      · have HR := Lib.hid (show l.getD k 0 ≠ n by rw [hx.out]; exact hr)
        have hq : (x == n) = false := by simpa using hr
        clear hr
        go_wp2
        go_round
        case rel =>
          refine ⟨k + 1, by omega, by go_num, fun j hj => ?_⟩
          by_cases hjk : j = k
          · subst hjk; exact HR.out
          · exact HS.out j (by omega)
        case measure => simp [intOf]; omega
    · go_wp2
      go_ret
      refine ⟨ret_bool ?_, Ext.refl w⟩
      have : n ∉ l := by
        intro hm
        obtain ⟨j, hj, he⟩ := List.getElem_of_mem hm
        refine HS.out j (by omega) ?_
        simp [List.getD, hj, he]
      simp [this]
end Go.Proofs.Ytbpilgflejdhaaa

namespace Go.Proofs.Ytbpilgflejdhaaa
open Go.RowKit

theorem ItemsAt.get {w : World} {A : Option Addr} {l : List Item} (h : ItemsAt w A l) {k : Nat} (hk : k < l.length) :
    ∃ b off x y, A = some ⟨b, off, none⟩ ∧ b < w.heap.size ∧ w.cell? ⟨b, off + k * 2, none⟩ = some (.int .i64 x) ∧ w.cell? ⟨b, off + k * 2 + 1, none⟩ = some (.int .i64 y) ∧ Hid ((l.getD k default).weight = x) ∧ Hid ((l.getD k default).most = y) := by
  obtain ⟨b, off, h1, h2, h3, h4⟩ := h k hk
  exact ⟨b, off, _, _, h1, h2, h3, h4, rfl, rfl⟩

set_option maxHeartbeats 400000 in
theorem isTruth_any (iA jA gA tA : Option Addr) (ic jc gc tc jn gn : Nat) (wr : Int) (p : Paper) (t : List Int) (w : World) (h : ItemsAt w iA p.items) (hil : p.items.length ≤ 9223372036854775807) (ht : Ints w tA t) (htl : t.length ≤ 9223372036854775807) :
    Calls Try.prog 25 #[.agg #[.slice iA p.items.length ic, .slice jA jn jc, .int .i64 wr, .slice gA gn gc], .slice tA t.length tc] w fun e w' => e = .returned (.bool (isTruth p t)) ∧ Ext w w' := by
  generalize hG : p.items = L at *
  have HG := Lib.hid hG
  clear hG
  go_enter Try.func25, Try.ntmps25
  go_wp2
  go_loopw [5] (fun i wr' => ∃ k : Nat, k ≤ t.length ∧ k ≤ L.length ∧ i = .int .i64 k ∧ Ext (w.alloc (.cells #[.slice iA L.length ic, .slice jA jn jc, .int .i64 wr, .slice gA gn gc] 26)) wr' ∧ allTo (fun i => wi (t.getD i 0) 0 (L.getD i default).most) k) (fun i _ => t.length - (intOf i).toNat)
  case atStart => exact ⟨0, by omega, by omega, rfl, Ext.refl _, allTo_zero _⟩
  case round =>
    rename_i wr'
    obtain ⟨k, hk, hkL, rfl, hE, hs⟩ := hrel
    have HS := Lib.hid hs
    have HE := Lib.hid hE
    have hbox := hE.box
    have htr := ht.ext hE.unalloc
    have hir := h.ext hE.unalloc
    clear hs hE ht h
    by_cases hlt : k < t.length
    · by_cases hlL : k < L.length
      · obtain ⟨b, off, x, rfl, hb, hc, hx⟩ := htr.get hlt
        obtain ⟨b', off', y, z, rfl, hb', hc1, hc2, hy, hz⟩ := hir.get hlL
        cases hw : wi x 0 z
        · have HW := Lib.hid (show wi (t.getD k 0) 0 (L.getD k default).most = false by rw [hx.out, hz.out]; exact hw)
          go_wp2
          go_quiet ((go_at_call 52; exact Calls.quiet_of_same (withinR _ _ _ _)))
          go_wp2
          go_ret
          exact ⟨ret_bool (by unfold isTruth; rw [HG.out]; by_cases hl : t.length = L.length
                              · rw [range_all_false hlt HW.out]; simp
                              · simp [hl]), HE.out.unalloc.drewN _⟩
        · have HW := Lib.hid (show wi (t.getD k 0) 0 (L.getD k default).most = true by rw [hx.out, hz.out]; exact hw)
          go_wp2
          go_quiet ((go_at_call 52; exact Calls.quiet_of_same (withinR _ _ _ _)))
          go_wp2
          go_roundw
          case rel => exact ⟨k + 1, by omega, by omega, by go_num, HE.out.drewN _, allTo_succ HS.out HW.out⟩
          case measure => simp [intOf]; omega
      · go_wp2
        go_ret
        exact ⟨ret_bool (by unfold isTruth; rw [HG.out]; have : ¬ t.length = L.length := by omega
                            simp [this]; omega), HE.out.unalloc⟩
    · go_wp2
      go_ret
      exact ⟨ret_bool (by
        unfold isTruth; rw [HG.out]
        rw [range_all.2 (show allTo _ t.length from fun j hj => HS.out j (by omega))]
        simp only [Bool.and_true]
        rw [Bool.eq_iff_iff]; simp; omega), HE.out.unalloc⟩
end Go.Proofs.Ytbpilgflejdhaaa
