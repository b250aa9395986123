/- Exams: a survey, what it is and how it lies in memory. -/
import Derived.Test.YtbpilgflejdhaaaExI
import Derived.Test.YtbpilgflejdhaaaMap
namespace Go.Proofs.Ytbpilgflejdhaaa
open Go.RowKit

structure Surv where
  res : Int × Int
  it : Nat → Nat → Int × Int
  shown : List (Int × List Int)
  right : List Bool
  fewest : Int
  poss : Bool

def truthV (t : List Int) : Value := .agg (t.map (Value.int .i64)).toArray

/-- Where a survey's parts lie. -/
structure Loc where
  B : Nat
  M : Nat
  R : Nat
  rc : Nat
  iA : Option Addr
  jA : Option Addr
  gA : Option Addr
  ic : Nat
  jc : Nat
  gc : Nat

structure SurvCs (cs : Array Value) (L : Loc) (p : Paper) (S : Surv) : Prop where
  size : cs.size = 258
  c0 : cs[0]? = some (.slice L.iA p.items.length L.ic)
  c1 : cs[1]? = some (.slice L.jA p.judges.length L.jc)
  c2 : cs[2]? = some (.int .i64 p.wrong)
  c3 : cs[3]? = some (.slice L.gA p.grades.length L.gc)
  c4 : cs[4]? = some (.int .i64 S.res.1)
  c5 : cs[5]? = some (.int .i64 S.res.2)
  it1 : ∀ i n, i < 4 → n < 31 → cs[6 + i * 62 + n * 2]? = some (.int .i64 (S.it i n).1)
  it2 : ∀ i n, i < 4 → n < 31 → cs[6 + i * 62 + n * 2 + 1]? = some (.int .i64 (S.it i n).2)
  c254 : cs[254]? = some (.map (some L.M))
  c255 : cs[255]? = some (.slice (some ⟨L.R, 0, none⟩) p.judges.length L.rc)
  c256 : cs[256]? = some (.int .i64 S.fewest)
  c257 : cs[257]? = some (.bool S.poss)

theorem getq {cs : Array Value} {k j : Nat} {u : Value} (h : cs[j]? = some u) (v : Value) (hne : k ≠ j) : (cs.setIfInBounds k v)[j]? = some u := by
  rw [Array.getElem?_setIfInBounds_ne hne]; exact h

theorem getset {cs : Array Value} {k : Nat} (v : Value) (h : k < cs.size) : (cs.setIfInBounds k v)[k]? = some v := by simp [h]

theorem SurvCs.fewest {cs : Array Value} {L : Loc} {p : Paper} {S : Surv} (h : SurvCs cs L p S) (x : Int) : SurvCs (cs.setIfInBounds 256 (.int .i64 x)) L p { S with fewest := x } :=
  ⟨by simpa using h.size, getq h.c0 _ (by omega), getq h.c1 _ (by omega), getq h.c2 _ (by omega), getq h.c3 _ (by omega), getq h.c4 _ (by omega), getq h.c5 _ (by omega),
    fun i n hi hn => getq (h.it1 i n hi hn) _ (by omega), fun i n hi hn => getq (h.it2 i n hi hn) _ (by omega), getq h.c254 _ (by omega), getq h.c255 _ (by omega),
    by simp [h.size], getq h.c257 _ (by omega)⟩
theorem SurvCs.poss {cs : Array Value} {L : Loc} {p : Paper} {S : Surv} (h : SurvCs cs L p S) (x : Bool) : SurvCs (cs.setIfInBounds 257 (.bool x)) L p { S with poss := x } :=
  ⟨by simpa using h.size, getq h.c0 _ (by omega), getq h.c1 _ (by omega), getq h.c2 _ (by omega), getq h.c3 _ (by omega), getq h.c4 _ (by omega), getq h.c5 _ (by omega),
    fun i n hi hn => getq (h.it1 i n hi hn) _ (by omega), fun i n hi hn => getq (h.it2 i n hi hn) _ (by omega), getq h.c254 _ (by omega), getq h.c255 _ (by omega), getq h.c256 _ (by omega),
    by simp [h.size]⟩
theorem SurvCs.res {cs : Array Value} {L : Loc} {p : Paper} {S : Surv} (h : SurvCs cs L p S) (x y : Int) : SurvCs ((cs.setIfInBounds 4 (.int .i64 x)).setIfInBounds 5 (.int .i64 y)) L p { S with res := (x, y) } :=
  ⟨by simpa using h.size, getq (getq h.c0 _ (by omega)) _ (by omega), getq (getq h.c1 _ (by omega)) _ (by omega), getq (getq h.c2 _ (by omega)) _ (by omega), getq (getq h.c3 _ (by omega)) _ (by omega),
    getq (by simp [h.size]) _ (by omega), by simp [h.size],
    fun i n hi hn => getq (getq (h.it1 i n hi hn) _ (by omega)) _ (by omega), fun i n hi hn => getq (getq (h.it2 i n hi hn) _ (by omega)) _ (by omega), getq (getq h.c254 _ (by omega)) _ (by omega), getq (getq h.c255 _ (by omega)) _ (by omega), getq (getq h.c256 _ (by omega)) _ (by omega),
    getq (getq h.c257 _ (by omega)) _ (by omega)⟩
def setIt (f : Nat → Nat → Int × Int) (i n : Nat) (v : Int × Int) : Nat → Nat → Int × Int := fun j m => if j = i ∧ m = n then v else f j m
theorem SurvCs.item {cs : Array Value} {L : Loc} {p : Paper} {S : Surv} (h : SurvCs cs L p S) (i n : Nat) (hi : i < 4) (hn : n < 31) (x y : Int) :
    SurvCs ((cs.setIfInBounds (6 + i * 62 + n * 2) (.int .i64 x)).setIfInBounds (6 + i * 62 + n * 2 + 1) (.int .i64 y)) L p { S with it := setIt S.it i n (x, y) } :=
  ⟨by simpa using h.size, getq (getq h.c0 _ (by omega)) _ (by omega), getq (getq h.c1 _ (by omega)) _ (by omega), getq (getq h.c2 _ (by omega)) _ (by omega), getq (getq h.c3 _ (by omega)) _ (by omega),
    getq (getq h.c4 _ (by omega)) _ (by omega), getq (getq h.c5 _ (by omega)) _ (by omega),
    fun j m hj hm => by
      by_cases e : j = i ∧ m = n
      · obtain ⟨rfl, rfl⟩ := e
        rw [Array.getElem?_setIfInBounds_ne (by omega), getset _ (by rw [h.size]; omega)]
        simp [setIt]
      · simp only [setIt, if_neg e]
        exact getq (getq (h.it1 j m hj hm) _ (by omega)) _ (by omega),
    fun j m hj hm => by
      by_cases e : j = i ∧ m = n
      · obtain ⟨rfl, rfl⟩ := e
        rw [getset _ (by simp [h.size]; omega)]
        simp [setIt]
      · simp only [setIt, if_neg e]
        exact getq (getq (h.it2 j m hj hm) _ (by omega)) _ (by omega),
    getq (getq h.c254 _ (by omega)) _ (by omega), getq (getq h.c255 _ (by omega)) _ (by omega), getq (getq h.c256 _ (by omega)) _ (by omega), getq (getq h.c257 _ (by omega)) _ (by omega)⟩
theorem SurvCs.same {cs : Array Value} {L : Loc} {p : Paper} {S : Surv} (h : SurvCs cs L p S) (sh : List (Int × List Int)) (r : List Bool) : SurvCs cs L p { S with shown := sh, right := r } :=
  ⟨h.size, h.c0, h.c1, h.c2, h.c3, h.c4, h.c5, h.it1, h.it2, h.c254, h.c255, h.c256, h.c257⟩

def shownV (l : List (Int × List Int)) : List (Int × Value) := l.map fun x => (x.1, truthV x.2)
def rightV (l : List Bool) : Array Value := (l.map Value.bool).toArray

/-- A survey in memory: three blocks. -/
structure SurvAt (W : World) (L : Loc) (p : Paper) (S : Surv) : Prop where
  cs : ∃ cs, Blk W L.B 84 cs ∧ SurvCs cs L p S
  map : MapAt W L.M (shownV S.shown)
  right : Blk W L.R 4 (rightV S.right)
  rlen : S.right.length = p.judges.length

/-- Nothing that was there has turned, but for a survey's three blocks. -/
structure Only (L : Loc) (w w' : World) : Prop where
  os : w'.os = w.os
  tape : w'.tape = w.tape
  output : w'.output = w.output
  size : w.heap.size ≤ w'.heap.size
  block : ∀ k, k < w.heap.size → k ≠ L.B → k ≠ L.M → k ≠ L.R → w'.heap[k]? = w.heap[k]?

section
variable {L : Loc} {w w' : World}
theorem Only.refl (L : Loc) (w : World) : Only L w w := ⟨rfl, rfl, rfl, Nat.le_refl _, fun _ _ _ _ _ => rfl⟩
theorem Only.trans {a b c : World} (h : Only L a b) (k : Only L b c) : Only L a c :=
  ⟨k.os.trans h.os, k.tape.trans h.tape, k.output.trans h.output, Nat.le_trans h.size k.size, fun i hi h1 h2 h3 => (k.block i (Nat.lt_of_lt_of_le hi h.size) h1 h2 h3).trans (h.block i hi h1 h2 h3)⟩
theorem Only.of_ext (h : Ext w w') : Only L w w' := ⟨h.os, h.tape, h.output, h.size, fun i hi _ _ _ => h.block i hi⟩
theorem Only.of_grown {g : Nat} (h : w.grownBy w' (some g)) (hg : g = L.B ∨ g = L.M ∨ g = L.R) : Only L w w' :=
  ⟨h.os, h.tape, h.output, h.size, fun i hi h1 h2 h3 => h.block i hi (fun e => by injection e with e; subst e; rcases hg with hg | hg | hg <;> contradiction)⟩
theorem Only.setCell (w : World) (L : Loc) (p : Addr) (u : Value) (hg : p.block = L.B ∨ p.block = L.M ∨ p.block = L.R) : Only L w (w.setCell p u) := .of_grown (grown_setCell w p u) hg
/-- From the world in which the survey was not yet there. -/
theorem Only.ext {w0 : World} (h0 : Ext w0 w) (h : Only L w w') (hB : w0.heap.size ≤ L.B) (hM : w0.heap.size ≤ L.M) (hR : w0.heap.size ≤ L.R) : Ext w0 w' :=
  ⟨h.os.trans h0.os, h.tape.trans h0.tape, h.output.trans h0.output, Nat.le_trans h0.size h.size, fun k hk => (h.block k (Nat.lt_of_lt_of_le hk h0.size) (by omega) (by omega) (by omega)).trans (h0.block k hk)⟩
end

section
variable {W W' : World} {L : Loc} {p : Paper} {S : Surv}
theorem SurvAt.neBM (h : SurvAt W L p S) : L.M ≠ L.B := by obtain ⟨cs, hb, _⟩ := h.cs; exact h.map.ne hb
theorem SurvAt.neMR (h : SurvAt W L p S) : L.M ≠ L.R := h.map.ne h.right
theorem SurvAt.neBR (h : SurvAt W L p S) : L.B ≠ L.R := by obtain ⟨cs, hb, _⟩ := h.cs; exact hb.ne h.right (by decide)
theorem SurvAt.ext (h : SurvAt W L p S) (e : Ext W W') : SurvAt W' L p S := by
  obtain ⟨cs, hb, hc⟩ := h.cs
  exact ⟨⟨cs, hb.ext e, hc⟩, h.map.of_block (e.block _ h.map.lt), h.right.ext e, h.rlen⟩
/-- The survey's own block has turned. -/
theorem SurvAt.own (h : SurvAt W L p S) {cs' : Array Value} {S' : Surv} (hb : Blk W' L.B 84 cs') (hc : SurvCs cs' L p S') (hg : W.grownBy W' (some L.B)) (hs : S'.shown = S.shown) (hr : S'.right = S.right) : SurvAt W' L p S' :=
  ⟨⟨cs', hb, hc⟩, by rw [hs]; exact h.map.of_block (hg.block _ h.map.lt (fun e => by injection e with e; exact h.neBM e)), by rw [hr]; exact h.right.grown hg (fun e => by injection e with e; exact h.neBR e.symm), by rw [hr]; exact h.rlen⟩
theorem SurvAt.setFewest (h : SurvAt W L p S) (x : Int) : SurvAt (W.setCell ⟨L.B, 256, none⟩ (.int .i64 x)) L p { S with fewest := x } := by
  obtain ⟨cs, hb, hc⟩ := h.cs
  exact h.own (hb.set 256 _) (hc.fewest x) (grown_setCell W ⟨L.B, 256, none⟩ _) rfl rfl
theorem SurvAt.setPoss (h : SurvAt W L p S) (x : Bool) : SurvAt (W.setCell ⟨L.B, 257, none⟩ (.bool x)) L p { S with poss := x } := by
  obtain ⟨cs, hb, hc⟩ := h.cs
  exact h.own (hb.set 257 _) (hc.poss x) (grown_setCell W ⟨L.B, 257, none⟩ _) rfl rfl
theorem rightV_set (l : List Bool) (i : Nat) (b : Bool) : (rightV l).setIfInBounds i (.bool b) = rightV (l.set i b) := by
  apply Array.ext'
  simp [rightV, List.map_set]
theorem SurvAt.setRight (h : SurvAt W L p S) (i : Nat) (x : Bool) : SurvAt (W.setCell ⟨L.R, i, none⟩ (.bool x)) L p { S with right := S.right.set i x } := by
  obtain ⟨cs, hb, hc⟩ := h.cs
  refine ⟨⟨cs, hb.far (p := ⟨L.R, i, none⟩) h.neBR _, hc.same S.shown _⟩, h.map.of_block (Below.heap_setCell _ _ _ _ h.neMR), ?_, by simpa using h.rlen⟩
  rw [← rightV_set]
  exact h.right.set i _
theorem shownV_put (l : List (Int × List Int)) (k : Int) (t : List Int) (l' : List (Int × List Int)) (h : shownV l' = putL (shownV l) k (truthV t)) : shownV l' = putL (shownV l) k (truthV t) := h
/-- A truth is shown for a grade. -/
def putS : List (Int × List Int) → Int → List Int → List (Int × List Int)
  | [], k, v => [(k, v)]
  | x :: l, k, v => if x.1 = k then (k, v) :: l else x :: putS l k v
theorem shownV_putS (l : List (Int × List Int)) (k : Int) (t : List Int) : shownV (putS l k t) = putL (shownV l) k (truthV t) := by
  induction l with
  | nil => rfl
  | cons x l ih =>
    simp only [putS, shownV, List.map_cons, putL] at ih ⊢
    by_cases h : x.1 = k
    · simp [h]
    · simp only [if_neg h, List.map_cons, ih]
theorem SurvAt.setShown (h : SurvAt W L p S) (k : Int) (t : List Int) (hm : MapAt W' L.M (putL (shownV S.shown) k (truthV t))) (hg : W.grownBy W' (some L.M)) : SurvAt W' L p { S with shown := putS S.shown k t } := by
  obtain ⟨cs, hb, hc⟩ := h.cs
  exact ⟨⟨cs, hb.grown hg (fun e => by injection e with e; exact h.neBM e.symm), hc.same _ S.right⟩, by rw [shownV_putS]; exact hm, h.right.grown hg (fun e => by injection e with e; exact h.neMR e.symm), h.rlen⟩
theorem SurvAt.cell (h : SurvAt W L p S) : W.cell? ⟨L.B, 0, none⟩ = some (.slice L.iA p.items.length L.ic) ∧ W.cell? ⟨L.B, 1, none⟩ = some (.slice L.jA p.judges.length L.jc) ∧ W.cell? ⟨L.B, 2, none⟩ = some (.int .i64 p.wrong) ∧ W.cell? ⟨L.B, 3, none⟩ = some (.slice L.gA p.grades.length L.gc) ∧
    W.cell? ⟨L.B, 254, none⟩ = some (.map (some L.M)) ∧ W.cell? ⟨L.B, 255, none⟩ = some (.slice (some ⟨L.R, 0, none⟩) p.judges.length L.rc) ∧ W.cell? ⟨L.B, 256, none⟩ = some (.int .i64 S.fewest) ∧ W.cell? ⟨L.B, 257, none⟩ = some (.bool S.poss) ∧
    W.cell? ⟨L.B, 4, none⟩ = some (.int .i64 S.res.1) ∧ W.cell? ⟨L.B, 5, none⟩ = some (.int .i64 S.res.2) := by
  obtain ⟨cs, hb, hc⟩ := h.cs
  exact ⟨(hb.cell _).trans hc.c0, (hb.cell _).trans hc.c1, (hb.cell _).trans hc.c2, (hb.cell _).trans hc.c3, (hb.cell _).trans hc.c254, (hb.cell _).trans hc.c255, (hb.cell _).trans hc.c256, (hb.cell _).trans hc.c257, (hb.cell _).trans hc.c4, (hb.cell _).trans hc.c5⟩
theorem SurvAt.free (h : SurvAt W L p S) (i : Nat) : W.frozen? ⟨L.B, i, none⟩ = false := by obtain ⟨cs, hb, _⟩ := h.cs; exact hb.free i
theorem SurvAt.ltB (h : SurvAt W L p S) : L.B < W.heap.size := by obtain ⟨cs, hb, _⟩ := h.cs; exact hb.lt
end
end Go.Proofs.Ytbpilgflejdhaaa
