/- Maps with int keys, as lists of pairs: what a store and a look-up do. / Exams: a survey, what it is and how it lies in memory. / Exams: the survey's grade; what end does. / Exams: visit: what it computes. / Exams: open: what it computes. / Exams: plain models of the program's functions -/
import Derived.Test.YtkejebdfbkgaiaaBa19
import Derived.Maps.Own
import Derived.Test.YtkejebdfbkgaiaaBa21

namespace Go.Proofs.Ytkejebdfbkgaiaa
open Go.RowKit

/-- The entry of a key. -/
def getL (l : List (Int × Value)) (k : Int) : Option Value := (l.find? (fun x => x.1 == k)).map (·.2)
/-- A store: in place, or behind all. -/
def mputL : List (Int × Value) → Int → Value → List (Int × Value)
  | [], k, v => [(k, v)]
  | x :: l, k, v => if x.1 = k then (k, v) :: l else x :: mputL l k v
theorem getL_put (l : List (Int × Value)) (k : Int) (v : Value) (q : Int) : getL (mputL l k v) q = if q = k then some v else getL l q := by
  induction l with
  | nil =>
    simp only [mputL, getL]
    by_cases h : q = k
    · subst h; simp
    · have h' : (k == q) = false := by simpa using fun e => h e.symm
      simp [h, h']
  | cons x l ih =>
    simp only [mputL]
    by_cases hx : x.1 = k
    · rw [if_pos hx]
      by_cases h : q = k
      · subst h; simp [getL]
      · have h1 : (k == q) = false := by simpa using fun e => h e.symm
        have h2 : (x.1 == q) = false := by simpa using fun e => h (e.symm.trans hx)
        simp [getL, h, h1, h2]
    · rw [if_neg hx]
      by_cases h : x.1 = q
      · subst h; simp [getL, hx]
      · have h1 : (x.1 == q) = false := by simpa using h
        simp only [getL, List.find?_cons, h1] at ih ⊢
        exact ih

def MapAt (w : World) (b : Nat) (l : List (Int × Value)) : Prop :=
  ∃ es clock, w.heap[b]? = some (.map es clock) ∧ es.toList.map (fun e => (e.key, e.val)) = l.map (fun x => (Value.int .i64 x.1, x.2))
theorem MapAt.lt {w : World} {b : Nat} {l : List (Int × Value)} (h : MapAt w b l) : b < w.heap.size := by
  obtain ⟨_, _, h, _⟩ := h; exact own_lt h
theorem MapAt.of_block {w w' : World} {b : Nat} {l : List (Int × Value)} (h : MapAt w b l) (e : w'.heap[b]? = w.heap[b]?) : MapAt w' b l := by
  obtain ⟨es, c, h1, h2⟩ := h; exact ⟨es, c, e.trans h1, h2⟩
theorem MapAt.new (w : World) : MapAt (w.alloc (.map #[] 0)) w.heap.size [] := ⟨#[], 0, heap_alloc_new w _, rfl⟩
theorem MapAt.ne {w : World} {b g : Nat} {l : List (Int × Value)} {t : TypeId} {cs : Array Value} (h : MapAt w b l) (k : Blk w g t cs) : b ≠ g := by
  rintro rfl
  obtain ⟨_, _, h, _⟩ := h
  unfold Blk at k
  rw [h] at k; cases k

theorem findNow_int (k : Int) : ∀ (l : List (Int × Value)) (es : List MapEntry) (i : Nat), es.map (fun e => (e.key, e.val)) = l.map (fun x => (Value.int .i64 x.1, x.2)) →
    Instr.findNow (.int .i64) (.int .i64 k) es i = some ((l.findIdx? (fun x => x.1 == k)).bind (fun n => (l[n]?).map (fun x => (i + n, x.2))))
  | [], [], i, _ => rfl
  | [], e :: es, i, h => by simp at h
  | x :: l, [], i, h => by simp at h
  | x :: l, e :: es, i, h => by
    simp only [List.map_cons, List.cons.injEq, Prod.mk.injEq] at h
    obtain ⟨⟨h1, h2⟩, h3⟩ := h
    have ih := findNow_int k l es (i + 1) h3
    simp only [Instr.findNow, h1, Instr.sameNow, if_true]
    by_cases hx : x.1 = k
    · simp [hx, h2, List.findIdx?_cons]
    · have e1 : (k == x.1) = false := by simpa using fun e => hx e.symm
      have e2 : (x.1 == k) = false := by simpa using hx
      rw [e1]
      simp only [ih, List.findIdx?_cons, e2]
      cases hf : l.findIdx? (fun x => x.1 == k) with
      | none => simp
      | some n => simp [Nat.add_assoc, Nat.add_comm 1 n]

theorem getL_idx (l : List (Int × Value)) (k : Int) : getL l k = (l.findIdx? (fun x => x.1 == k)).bind (fun n => (l[n]?).map (·.2)) := by
  induction l with
  | nil => rfl
  | cons x l ih =>
    simp only [getL, List.find?_cons, List.findIdx?_cons] at ih ⊢
    cases hx : x.1 == k
    · simp only [ih]
      cases l.findIdx? (fun x => x.1 == k) <;> simp
    · simp

theorem put_idx_none {l : List (Int × Value)} {k : Int} {v : Value} (h : l.findIdx? (fun x => x.1 == k) = none) : mputL l k v = l ++ [(k, v)] := by
  induction l with
  | nil => rfl
  | cons x l ih =>
    simp only [List.findIdx?_cons] at h
    cases hx : x.1 == k
    · rw [hx] at h
      have hx' : ¬ x.1 = k := by simpa using hx
      simp only [mputL, if_neg hx', List.cons_append]
      rw [ih (by simpa using h)]
    · rw [hx] at h; simp at h
theorem put_idx_some {l : List (Int × Value)} {k : Int} {v : Value} {n : Nat} (h : l.findIdx? (fun x => x.1 == k) = some n) : mputL l k v = l.set n (k, v) ∧ ∃ x, l[n]? = some x ∧ x.1 = k := by
  induction l generalizing n with
  | nil => simp at h
  | cons x l ih =>
    simp only [List.findIdx?_cons] at h
    cases hx : x.1 == k
    · rw [hx] at h
      have hx' : ¬ x.1 = k := by simpa using hx
      simp at h
      obtain ⟨m, hm, rfl⟩ := h
      obtain ⟨h1, y, h2, h3⟩ := ih hm
      exact ⟨by simp only [mputL, if_neg hx', h1, List.set_cons_succ], y, by simpa using h2, h3⟩
    · rw [hx] at h
      simp at h
      subst h
      have hx' : x.1 = k := by simpa using hx
      exact ⟨by simp [mputL, hx'], x, by simp, hx'⟩

theorem run_findKey {P : Program} {kt : TypeId} (hk : P.underlying kt = some (.int .i64)) (k : Int) (l : List (Int × Value)) (es : List MapEntry) (w : World) (h : es.map (fun e => (e.key, e.val)) = l.map (fun x => (Value.int .i64 x.1, x.2))) :
    (Instr.findKey kt (.int .i64 k) es).run P w = .ok ((l.findIdx? (fun x => x.1 == k)).bind (fun n => (l[n]?).map (fun x => (n, x.2)))) w := by
  have := findNow_int k l es 0 h
  simp [Instr.findKey, run_underlying hk, this]

theorem run_checkKey_int {P : Program} {kt : TypeId} (hk : P.underlying kt = some (.int .i64)) (k : Int) (b : Bool) (n : Nat) (w : World) : (Instr.checkKey b (n + 1) kt (.int .i64 k)).run P w = .ok () w := by
  simp [Instr.checkKey, run_underlying hk]
theorem run_keyStays_int {P : Program} (k : Int) (w : World) : (Instr.keyThatStays (.int .i64 k) (.int .i64 k)).run P w = .ok (.int .i64 k) w := by
  simp [Instr.keyThatStays, Instr.sameBits]

theorem run_mapUpdate_at {P : Program} (w : World) (t kt et : TypeId) (ht : P.underlying t = some (.map kt et)) (hk : P.underlying kt = some (.int .i64)) (b : Nat) (l : List (Int × Value)) (h : MapAt w b l) (k : Int) (v : Value) :
    ∃ w', (Instr.mapUpdate t (.map (some b)) (.int .i64 k) v).run P w = .ok () w' ∧ MapAt w' b (mputL l k v) ∧ w.grownBy w' (some b) := by
  obtain ⟨es, c, hb, hl⟩ := h
  have hlt := own_lt hb
  have hf := run_findKey hk k l es.toList w hl
  have hlen : es.size = l.length := by have := congrArg List.length hl; simpa using this
  cases hi : l.findIdx? (fun x => x.1 == k) with
  | none =>
    rw [hi] at hf
    refine ⟨{ w with heap := w.heap.setIfInBounds b (.map (es.push { key := .int .i64 k, val := v, born := c }) (c + 1)) }, ?_, ⟨es.push { key := .int .i64 k, val := v, born := c }, c + 1, (by simp [hlt]), ?_⟩, ⟨rfl, rfl, rfl, by simp, fun i _ hne => ?_⟩⟩
    · simp [Instr.mapUpdate, run_underlying ht, MapKept.run_getObj_map hb, run_checkKey_int hk k false 9999, hf, MapKept.run_setObj_map _ hb, Result.andThen]
    · rw [put_idx_none hi]
      simp [hl]
    · have : b ≠ i := fun e => hne (by rw [e])
      simp [Array.getElem?_setIfInBounds_ne this]
  | some n =>
    obtain ⟨h1, x, h2, h3⟩ := put_idx_some (v := v) hi
    rw [hi] at hf
    simp only [Option.bind_some, h2, Option.map_some] at hf
    have hn : n < es.size := by
      rw [hlen]
      rcases Nat.lt_or_ge n l.length with q | q
      · exact q
      · rw [List.getElem?_eq_none q] at h2; cases h2
    have hkey : (es[n]).key = .int .i64 k := by
      have := congrArg (fun q => q[n]?) hl
      simp only [List.getElem?_map, h2, Option.map_some] at this
      rw [List.getElem?_eq_getElem (by simpa using hn)] at this
      simp at this
      rw [this.1, h3]
    refine ⟨{ w with heap := w.heap.setIfInBounds b (.map (es.modify n fun e => { e with key := .int .i64 k, val := v }) c) }, ?_, ⟨es.modify n fun e => { e with key := .int .i64 k, val := v }, c, (by simp [hlt]), ?_⟩, ⟨rfl, rfl, rfl, by simp, fun i _ hne => ?_⟩⟩
    · simp [Instr.mapUpdate, run_underlying ht, MapKept.run_getObj_map hb, run_checkKey_int hk k false 9999, hf, MapKept.run_setObj_map _ hb, Result.andThen, hn, hkey, run_keyStays_int]
    · rw [h1]
      apply List.ext_getElem?
      intro j
      have hj := congrArg (fun q => q[j]?) hl
      simp only [List.getElem?_map, Array.getElem?_toList] at hj ⊢
      by_cases e : n = j
      · subst e
        have hnl : n < l.length := by omega
        simp [hn, hnl, Array.getElem_modify_self]
      · rw [List.getElem?_set_ne e, ← hj]
        simp [Array.getElem?_modify, e]
    · have : b ≠ i := fun e => hne (by rw [e])
      simp [Array.getElem?_setIfInBounds_ne this]

theorem run_lookup_ok {P : Program} (w : World) (t kt et : TypeId) (ht : P.underlying t = some (.map kt et)) (hk : P.underlying kt = some (.int .i64)) (b : Nat) (l : List (Int × Value)) (h : MapAt w b l) (k : Int) (v : Value) (hv : getL l k = some v) :
    (Instr.lookup t (.map (some b)) (.int .i64 k) true).run P w = .ok (.tuple #[v, .bool true]) w := by
  obtain ⟨es, c, hb, hl⟩ := h
  have hf := run_findKey hk k l es.toList w hl
  rw [getL_idx] at hv
  cases hi : l.findIdx? (fun x => x.1 == k) with
  | none => rw [hi] at hv; cases hv
  | some n =>
    rw [hi] at hv hf
    simp only [Option.bind_some] at hv hf
    cases hn : l[n]? with
    | none => rw [hn] at hv; cases hv
    | some x =>
      rw [hn] at hv hf
      simp at hv
      simp [Instr.lookup, run_underlying ht, MapKept.run_getObj_map hb, run_checkKey_int hk k _ 9999, hf, hv, Result.andThen]
theorem run_lookup_not {P : Program} (w : World) (t kt et : TypeId) (z : Value) (ht : P.underlying t = some (.map kt et)) (hk : P.underlying kt = some (.int .i64)) (hz : ∀ w, (zeroValue et).run P w = .ok z w) (b : Nat) (l : List (Int × Value)) (h : MapAt w b l) (k : Int) (hv : getL l k = none) :
    (Instr.lookup t (.map (some b)) (.int .i64 k) true).run P w = .ok (.tuple #[z, .bool false]) w := by
  obtain ⟨es, c, hb, hl⟩ := h
  have hf := run_findKey hk k l es.toList w hl
  rw [getL_idx] at hv
  have hf' : (Instr.findKey kt (.int .i64 k) es.toList).run P w = .ok none w := by
    rw [hf]
    congr 1
    cases hi : l.findIdx? (fun x => x.1 == k) with
    | none => rfl
    | some n =>
      rw [hi] at hv
      simp only [Option.bind_some, Option.map_eq_none_iff] at hv
      simp [hv]
  simp [Instr.lookup, run_underlying ht, MapKept.run_getObj_map hb, run_checkKey_int hk k _ 9999, hf', hz, Result.andThen]
end Go.Proofs.Ytkejebdfbkgaiaa

namespace Go.Proofs.Ytkejebdfbkgaiaa
open Go.RowKit

structure Surv where
  res : Int × Int
  it : Nat → Nat → Int × Int
  shown : List (Int × List Int)
  right : List Bool
  fewest : Int
  poss : Bool

def truthV (t : List Int) : Value := .agg (t.map (Value.int .i64)).toArray

/-- Where a survey's parts lie. -/
structure Loc where
  B : Nat
  M : Nat
  R : Nat
  rc : Nat
  iA : Option Addr
  jA : Option Addr
  gA : Option Addr
  ic : Nat
  jc : Nat
  gc : Nat

structure SurvCs (cs : Array Value) (L : Loc) (p : Paper) (S : Surv) : Prop where
  size : cs.size = 258
  c0 : cs[0]? = some (.slice L.iA p.items.length L.ic)
  c1 : cs[1]? = some (.slice L.jA p.judges.length L.jc)
  c2 : cs[2]? = some (.int .i64 p.wrong)
  c3 : cs[3]? = some (.slice L.gA p.grades.length L.gc)
  c4 : cs[4]? = some (.int .i64 S.res.1)
  c5 : cs[5]? = some (.int .i64 S.res.2)
  it1 : ∀ i n, i < 4 → n < 31 → cs[6 + i * 62 + n * 2]? = some (.int .i64 (S.it i n).1)
  it2 : ∀ i n, i < 4 → n < 31 → cs[6 + i * 62 + n * 2 + 1]? = some (.int .i64 (S.it i n).2)
  c254 : cs[254]? = some (.map (some L.M))
  c255 : cs[255]? = some (.slice (some ⟨L.R, 0, none⟩) p.judges.length L.rc)
  c256 : cs[256]? = some (.int .i64 S.fewest)
  c257 : cs[257]? = some (.bool S.poss)

theorem getq {cs : Array Value} {k j : Nat} {u : Value} (h : cs[j]? = some u) (v : Value) (hne : k ≠ j) : (cs.setIfInBounds k v)[j]? = some u := by
  rw [Array.getElem?_setIfInBounds_ne hne]; exact h

theorem getset {cs : Array Value} {k : Nat} (v : Value) (h : k < cs.size) : (cs.setIfInBounds k v)[k]? = some v := by simp [h]

theorem SurvCs.fewest {cs : Array Value} {L : Loc} {p : Paper} {S : Surv} (h : SurvCs cs L p S) (x : Int) : SurvCs (cs.setIfInBounds 256 (.int .i64 x)) L p { S with fewest := x } :=
  ⟨by simpa using h.size, getq h.c0 _ (by omega), getq h.c1 _ (by omega), getq h.c2 _ (by omega), getq h.c3 _ (by omega), getq h.c4 _ (by omega), getq h.c5 _ (by omega),
    fun i n hi hn => getq (h.it1 i n hi hn) _ (by omega), fun i n hi hn => getq (h.it2 i n hi hn) _ (by omega), getq h.c254 _ (by omega), getq h.c255 _ (by omega),
    by simp [h.size], getq h.c257 _ (by omega)⟩
theorem SurvCs.poss {cs : Array Value} {L : Loc} {p : Paper} {S : Surv} (h : SurvCs cs L p S) (x : Bool) : SurvCs (cs.setIfInBounds 257 (.bool x)) L p { S with poss := x } :=
  ⟨by simpa using h.size, getq h.c0 _ (by omega), getq h.c1 _ (by omega), getq h.c2 _ (by omega), getq h.c3 _ (by omega), getq h.c4 _ (by omega), getq h.c5 _ (by omega),
    fun i n hi hn => getq (h.it1 i n hi hn) _ (by omega), fun i n hi hn => getq (h.it2 i n hi hn) _ (by omega), getq h.c254 _ (by omega), getq h.c255 _ (by omega), getq h.c256 _ (by omega),
    by simp [h.size]⟩
theorem SurvCs.res {cs : Array Value} {L : Loc} {p : Paper} {S : Surv} (h : SurvCs cs L p S) (x y : Int) : SurvCs ((cs.setIfInBounds 4 (.int .i64 x)).setIfInBounds 5 (.int .i64 y)) L p { S with res := (x, y) } :=
  ⟨by simpa using h.size, getq (getq h.c0 _ (by omega)) _ (by omega), getq (getq h.c1 _ (by omega)) _ (by omega), getq (getq h.c2 _ (by omega)) _ (by omega), getq (getq h.c3 _ (by omega)) _ (by omega),
    getq (by simp [h.size]) _ (by omega), by simp [h.size],
    fun i n hi hn => getq (getq (h.it1 i n hi hn) _ (by omega)) _ (by omega), fun i n hi hn => getq (getq (h.it2 i n hi hn) _ (by omega)) _ (by omega), getq (getq h.c254 _ (by omega)) _ (by omega), getq (getq h.c255 _ (by omega)) _ (by omega), getq (getq h.c256 _ (by omega)) _ (by omega),
    getq (getq h.c257 _ (by omega)) _ (by omega)⟩
def setIt (f : Nat → Nat → Int × Int) (i n : Nat) (v : Int × Int) : Nat → Nat → Int × Int := fun j m => if j = i ∧ m = n then v else f j m
theorem SurvCs.item {cs : Array Value} {L : Loc} {p : Paper} {S : Surv} (h : SurvCs cs L p S) (i n : Nat) (hi : i < 4) (hn : n < 31) (x y : Int) :
    SurvCs ((cs.setIfInBounds (6 + i * 62 + n * 2) (.int .i64 x)).setIfInBounds (6 + i * 62 + n * 2 + 1) (.int .i64 y)) L p { S with it := setIt S.it i n (x, y) } :=
  ⟨by simpa using h.size, getq (getq h.c0 _ (by omega)) _ (by omega), getq (getq h.c1 _ (by omega)) _ (by omega), getq (getq h.c2 _ (by omega)) _ (by omega), getq (getq h.c3 _ (by omega)) _ (by omega),
    getq (getq h.c4 _ (by omega)) _ (by omega), getq (getq h.c5 _ (by omega)) _ (by omega),
    fun j m hj hm => by
      by_cases e : j = i ∧ m = n
      · obtain ⟨rfl, rfl⟩ := e
        rw [Array.getElem?_setIfInBounds_ne (by omega), getset _ (by rw [h.size]; omega)]
        simp [setIt]
      · simp only [setIt, if_neg e]
        exact getq (getq (h.it1 j m hj hm) _ (by omega)) _ (by omega),
    fun j m hj hm => by
      by_cases e : j = i ∧ m = n
      · obtain ⟨rfl, rfl⟩ := e
        rw [getset _ (by simp [h.size]; omega)]
        simp [setIt]
      · simp only [setIt, if_neg e]
        exact getq (getq (h.it2 j m hj hm) _ (by omega)) _ (by omega),
    getq (getq h.c254 _ (by omega)) _ (by omega), getq (getq h.c255 _ (by omega)) _ (by omega), getq (getq h.c256 _ (by omega)) _ (by omega), getq (getq h.c257 _ (by omega)) _ (by omega)⟩
theorem SurvCs.same {cs : Array Value} {L : Loc} {p : Paper} {S : Surv} (h : SurvCs cs L p S) (sh : List (Int × List Int)) (r : List Bool) : SurvCs cs L p { S with shown := sh, right := r } :=
  ⟨h.size, h.c0, h.c1, h.c2, h.c3, h.c4, h.c5, h.it1, h.it2, h.c254, h.c255, h.c256, h.c257⟩

def shownV (l : List (Int × List Int)) : List (Int × Value) := l.map fun x => (x.1, truthV x.2)
def rightV (l : List Bool) : Array Value := (l.map Value.bool).toArray

/-- A survey in memory: three blocks. -/
structure SurvAt (W : World) (L : Loc) (p : Paper) (S : Surv) : Prop where
  cs : ∃ cs, Blk W L.B 81 cs ∧ SurvCs cs L p S
  map : MapAt W L.M (shownV S.shown)
  right : Blk W L.R 4 (rightV S.right)
  rlen : S.right.length = p.judges.length

/-- Nothing that was there has turned, but for a survey's three blocks. -/
structure Only (L : Loc) (w w' : World) : Prop where
  os : w'.os = w.os
  tape : w'.tape = w.tape
  output : w'.output = w.output
  size : w.heap.size ≤ w'.heap.size
  block : ∀ k, k < w.heap.size → k ≠ L.B → k ≠ L.M → k ≠ L.R → w'.heap[k]? = w.heap[k]?

section
variable {L : Loc} {w w' : World}
theorem Only.refl (L : Loc) (w : World) : Only L w w := ⟨rfl, rfl, rfl, Nat.le_refl _, fun _ _ _ _ _ => rfl⟩
theorem Only.trans {a b c : World} (h : Only L a b) (k : Only L b c) : Only L a c :=
  ⟨k.os.trans h.os, k.tape.trans h.tape, k.output.trans h.output, Nat.le_trans h.size k.size, fun i hi h1 h2 h3 => (k.block i (Nat.lt_of_lt_of_le hi h.size) h1 h2 h3).trans (h.block i hi h1 h2 h3)⟩
theorem Only.of_ext (h : Ext w w') : Only L w w' := ⟨h.os, h.tape, h.output, h.size, fun i hi _ _ _ => h.block i hi⟩
theorem Only.of_grown {g : Nat} (h : w.grownBy w' (some g)) (hg : g = L.B ∨ g = L.M ∨ g = L.R) : Only L w w' :=
  ⟨h.os, h.tape, h.output, h.size, fun i hi h1 h2 h3 => h.block i hi (fun e => by injection e with e; subst e; rcases hg with hg | hg | hg <;> contradiction)⟩
theorem Only.setCell (w : World) (L : Loc) (p : Addr) (u : Value) (hg : p.block = L.B ∨ p.block = L.M ∨ p.block = L.R) : Only L w (w.setCell p u) := .of_grown (grown_setCell w p u) hg
/-- From the world in which the survey was not yet there. -/
theorem Only.ext {w0 : World} (h0 : Ext w0 w) (h : Only L w w') (hB : w0.heap.size ≤ L.B) (hM : w0.heap.size ≤ L.M) (hR : w0.heap.size ≤ L.R) : Ext w0 w' :=
  ⟨h.os.trans h0.os, h.tape.trans h0.tape, h.output.trans h0.output, Nat.le_trans h0.size h.size, fun k hk => (h.block k (Nat.lt_of_lt_of_le hk h0.size) (by omega) (by omega) (by omega)).trans (h0.block k hk)⟩
end

section
variable {W W' : World} {L : Loc} {p : Paper} {S : Surv}
theorem SurvAt.neBM (h : SurvAt W L p S) : L.M ≠ L.B := by obtain ⟨cs, hb, _⟩ := h.cs; exact h.map.ne hb
theorem SurvAt.neMR (h : SurvAt W L p S) : L.M ≠ L.R := h.map.ne h.right
theorem SurvAt.neBR (h : SurvAt W L p S) : L.B ≠ L.R := by obtain ⟨cs, hb, _⟩ := h.cs; exact hb.ne h.right (by decide)
theorem SurvAt.ext (h : SurvAt W L p S) (e : Ext W W') : SurvAt W' L p S := by
  obtain ⟨cs, hb, hc⟩ := h.cs
  exact ⟨⟨cs, hb.ext e, hc⟩, h.map.of_block (e.block _ h.map.lt), h.right.ext e, h.rlen⟩
/-- The survey's own block has turned. -/
theorem SurvAt.own (h : SurvAt W L p S) {cs' : Array Value} {S' : Surv} (hb : Blk W' L.B 81 cs') (hc : SurvCs cs' L p S') (hg : W.grownBy W' (some L.B)) (hs : S'.shown = S.shown) (hr : S'.right = S.right) : SurvAt W' L p S' :=
  ⟨⟨cs', hb, hc⟩, by rw [hs]; exact h.map.of_block (hg.block _ h.map.lt (fun e => by injection e with e; exact h.neBM e)), by rw [hr]; exact h.right.grown hg (fun e => by injection e with e; exact h.neBR e.symm), by rw [hr]; exact h.rlen⟩
theorem SurvAt.setFewest (h : SurvAt W L p S) (x : Int) : SurvAt (W.setCell ⟨L.B, 256, none⟩ (.int .i64 x)) L p { S with fewest := x } := by
  obtain ⟨cs, hb, hc⟩ := h.cs
  exact h.own (hb.set 256 _) (hc.fewest x) (grown_setCell W ⟨L.B, 256, none⟩ _) rfl rfl
theorem SurvAt.setPoss (h : SurvAt W L p S) (x : Bool) : SurvAt (W.setCell ⟨L.B, 257, none⟩ (.bool x)) L p { S with poss := x } := by
  obtain ⟨cs, hb, hc⟩ := h.cs
  exact h.own (hb.set 257 _) (hc.poss x) (grown_setCell W ⟨L.B, 257, none⟩ _) rfl rfl
theorem rightV_set (l : List Bool) (i : Nat) (b : Bool) : (rightV l).setIfInBounds i (.bool b) = rightV (l.set i b) := by
  apply Array.ext'
  simp [rightV, List.map_set]
theorem SurvAt.setRight (h : SurvAt W L p S) (i : Nat) (x : Bool) : SurvAt (W.setCell ⟨L.R, i, none⟩ (.bool x)) L p { S with right := S.right.set i x } := by
  obtain ⟨cs, hb, hc⟩ := h.cs
  refine ⟨⟨cs, hb.far (p := ⟨L.R, i, none⟩) h.neBR _, hc.same S.shown _⟩, h.map.of_block (Below.heap_setCell _ _ _ _ h.neMR), ?_, by simpa using h.rlen⟩
  rw [← rightV_set]
  exact h.right.set i _
theorem shownV_put (l : List (Int × List Int)) (k : Int) (t : List Int) (l' : List (Int × List Int)) (h : shownV l' = mputL (shownV l) k (truthV t)) : shownV l' = mputL (shownV l) k (truthV t) := h
/-- A truth is shown for a grade. -/
def putS : List (Int × List Int) → Int → List Int → List (Int × List Int)
  | [], k, v => [(k, v)]
  | x :: l, k, v => if x.1 = k then (k, v) :: l else x :: putS l k v
theorem shownV_putS (l : List (Int × List Int)) (k : Int) (t : List Int) : shownV (putS l k t) = mputL (shownV l) k (truthV t) := by
  induction l with
  | nil => rfl
  | cons x l ih =>
    simp only [putS, shownV, List.map_cons, mputL] at ih ⊢
    by_cases h : x.1 = k
    · simp [h]
    · simp only [if_neg h, List.map_cons, ih]
theorem SurvAt.setShown (h : SurvAt W L p S) (k : Int) (t : List Int) (hm : MapAt W' L.M (mputL (shownV S.shown) k (truthV t))) (hg : W.grownBy W' (some L.M)) : SurvAt W' L p { S with shown := putS S.shown k t } := by
  obtain ⟨cs, hb, hc⟩ := h.cs
  exact ⟨⟨cs, hb.grown hg (fun e => by injection e with e; exact h.neBM e.symm), hc.same _ S.right⟩, by rw [shownV_putS]; exact hm, h.right.grown hg (fun e => by injection e with e; exact h.neMR e.symm), h.rlen⟩
theorem SurvAt.cell (h : SurvAt W L p S) : W.cell? ⟨L.B, 0, none⟩ = some (.slice L.iA p.items.length L.ic) ∧ W.cell? ⟨L.B, 1, none⟩ = some (.slice L.jA p.judges.length L.jc) ∧ W.cell? ⟨L.B, 2, none⟩ = some (.int .i64 p.wrong) ∧ W.cell? ⟨L.B, 3, none⟩ = some (.slice L.gA p.grades.length L.gc) ∧
    W.cell? ⟨L.B, 254, none⟩ = some (.map (some L.M)) ∧ W.cell? ⟨L.B, 255, none⟩ = some (.slice (some ⟨L.R, 0, none⟩) p.judges.length L.rc) ∧ W.cell? ⟨L.B, 256, none⟩ = some (.int .i64 S.fewest) ∧ W.cell? ⟨L.B, 257, none⟩ = some (.bool S.poss) ∧
    W.cell? ⟨L.B, 4, none⟩ = some (.int .i64 S.res.1) ∧ W.cell? ⟨L.B, 5, none⟩ = some (.int .i64 S.res.2) := by
  obtain ⟨cs, hb, hc⟩ := h.cs
  exact ⟨(hb.cell _).trans hc.c0, (hb.cell _).trans hc.c1, (hb.cell _).trans hc.c2, (hb.cell _).trans hc.c3, (hb.cell _).trans hc.c254, (hb.cell _).trans hc.c255, (hb.cell _).trans hc.c256, (hb.cell _).trans hc.c257, (hb.cell _).trans hc.c4, (hb.cell _).trans hc.c5⟩
theorem SurvAt.free (h : SurvAt W L p S) (i : Nat) : W.frozen? ⟨L.B, i, none⟩ = false := by obtain ⟨cs, hb, _⟩ := h.cs; exact hb.free i
theorem SurvAt.ltB (h : SurvAt W L p S) : L.B < W.heap.size := by obtain ⟨cs, hb, _⟩ := h.cs; exact hb.lt
end
end Go.Proofs.Ytkejebdfbkgaiaa

namespace Go.Proofs.Ytkejebdfbkgaiaa
open Go.RowKit

def gradeP (l : List Int) (r : Int) : Nat := (l.takeWhile (fun g => decide (g ≤ r))).length
theorem gradeP_eq {l : List Int} {r : Int} {k : Nat} (hk : k ≤ l.length) (h : ∀ j, j < k → l.getD j 0 ≤ r) (he : k = l.length ∨ ¬ l.getD k 0 ≤ r) : gradeP l r = k := by
  unfold gradeP
  induction l generalizing k with
  | nil => simp at hk; simp [hk]
  | cons a l ih =>
    cases k with
    | zero =>
      have h1 : ¬ a ≤ r := by
        rcases he with he | he
        · simp at he
        · simpa using he
      simp [h1]
    | succ k =>
      have h0 : a ≤ r := by simpa using h 0 (by omega)
      simp only [List.takeWhile_cons, h0, decide_true, if_true, List.length_cons]
      rw [ih (k := k) (by simpa using hk) (fun j hj => by simpa using h (j + 1) (by omega)) (by simpa using he)]

set_option maxHeartbeats 1000000 in
theorem gradeS_any (L : Loc) (p : Paper) (S : Surv) (r : Int) (W : World) (h : SurvAt W L p S) (hg : Ints W L.gA p.grades) (hl : p.grades.length ≤ 5) :
    Calls Try.prog 25 #[.pointer (some ⟨L.B, 0, none⟩), .int .i64 r] W fun e W' => e = .returned (.int .i64 (gradeP p.grades r)) ∧ W = W' := by
  obtain ⟨_, _, _, c3, _⟩ := h.cell
  have HG := Lib.hid (fun k => gradeP_eq (l := p.grades) (r := r) (k := k))
  generalize gradeP p.grades r = gp at *
  generalize p.grades = G at *
  obtain ⟨B, M, R, rc, iA, jA, gA, ic, jc, gc⟩ := L
  simp only at *
  clear h
  go_enter Try.func25, Try.ntmps25
  go_wp2
  go_loop [5] (fun n => ∃ k : Nat, k ≤ G.length ∧ n = .int .i64 k ∧ ∀ j, j < k → G.getD j 0 ≤ r) (fun n => G.length - (intOf n).toNat)
  case atStart => exact ⟨0, by omega, rfl, fun j hj => by omega⟩
  case round =>
    obtain ⟨k, hk, rfl, hs⟩ := hrel
    have HS := Lib.hid hs
    clear hs
    by_cases hlt : k < G.length
    · obtain ⟨b, off, x, rfl, hb, hc, hx⟩ := hg.get hlt
      by_cases hr : x ≤ r
      · have HR := Lib.hid (show G.getD k 0 ≤ r by rw [hx.out]; exact hr)
        go_wp2
        go_round
        case rel =>
          refine ⟨k + 1, by omega, by go_num, fun j hj => ?_⟩
          by_cases e : j = k
          · rw [e]; exact HR.out
          · exact HS.out j (by omega)
        case measure => simp [intOf]; omega
      · have HR := Lib.hid (show ¬ G.getD k 0 ≤ r by rw [hx.out]; exact hr)
        go_wp2
        go_ret
        exact ⟨ret_int (by rw [HG.out k hk HS.out (.inr HR.out)]), rfl⟩
    · go_wp2
      go_ret
      exact ⟨ret_int (by rw [HG.out k hk HS.out (.inl (by omega))]), rfl⟩

def okSpan (s : Int × Int) : Bool := decide (s.1 ≤ s.2)
def wrongN (bs : List (Int × Int)) (k : Nat) : Nat := (bs.take k).countP (fun s => !okSpan s)
theorem wrongN_succ (bs : List (Int × Int)) (k : Nat) (h : k < bs.length) : wrongN bs (k + 1) = wrongN bs k + if (bs.getD k (0, 0)).1 ≤ (bs.getD k (0, 0)).2 then 0 else 1 := by
  unfold wrongN
  rw [List.take_succ_eq_append_getElem h, List.countP_append]
  simp [List.countP_cons, h, okSpan]
  split <;> split <;> omega
theorem wrongN_le (bs : List (Int × Int)) (k : Nat) : wrongN bs k ≤ k := by
  unfold wrongN
  have := List.countP_le_length (p := fun s => !okSpan s) (l := bs.take k)
  have := List.length_take_le k bs
  omega
def addSpan (s : Int × Int) (x : Int) : Int × Int := (min s.1 x, max s.2 x)
/-- The first k items' spans, with a result. -/
def itTo (t : List Int) (r : Int) : Nat → (Nat → Nat → Int × Int) → (Nat → Nat → Int × Int)
  | 0, f => f
  | k + 1, f => setIt (itTo t r k f) k (t.getD k 0).toNat (addSpan (itTo t r k f k (t.getD k 0).toNat) r)
/-- The first k judges who are right. -/
def rightTo (bs : List (Int × Int)) : Nat → List Bool → List Bool
  | 0, l => l
  | k + 1, l => (rightTo bs k l).set k ((rightTo bs k l).getD k false || okSpan (bs.getD k (0, 0)))
theorem rightTo_length (bs : List (Int × Int)) (k : Nat) (l : List Bool) : (rightTo bs k l).length = l.length := by
  induction k with
  | zero => rfl
  | succ k ih => simp [rightTo, ih]

/-- What end does with a survey. -/
def endM (p : Paper) (t : List Int) (r : Int) (bs : List (Int × Int)) (S : Surv) : Surv :=
  let S1 := { S with fewest := min S.fewest (wrongN bs bs.length) }
  if p.wrong < wrongN bs bs.length then S1
  else { S1 with poss := true, res := addSpan S.res r, it := itTo t r p.items.length S.it, right := rightTo bs bs.length S.right, shown := putS S.shown (gradeP p.grades r) t }
end Go.Proofs.Ytkejebdfbkgaiaa

namespace Go.Proofs.Ytkejebdfbkgaiaa
open Go.RowKit

/-- What a judge's mark of item i leaves of a span of biases if the item has n points. -/
def cut1 (x : Judge) (i : Nat) (n : Int) (s : Int × Int) : Int × Int :=
  if 0 ≤ x.marks.getD i 0 then (max s.1 (x.marks.getD i 0 - n - x.err), min s.2 (x.marks.getD i 0 - n + x.err)) else s
def cutTo (p : Paper) (i : Nat) (n : Int) : Nat → List (Int × Int) → List (Int × Int)
  | 0, l => l
  | k + 1, l => (cutTo p i n k l).set k (cut1 (p.judges.getD k default) i n ((cutTo p i n k l).getD k (0, 0)))
theorem cutTo_length (p : Paper) (i : Nat) (n : Int) (k : Nat) (l : List (Int × Int)) : (cutTo p i n k l).length = l.length := by
  induction k with
  | zero => rfl
  | succ k ih => simp [cutTo, ih]
/-- The first k numbers of points of an item, gone through by f. -/
def foldTo (f : Nat → Surv → Surv) : Nat → Surv → Surv
  | 0, S => S
  | k + 1, S => f k (foldTo f k S)
/-- visit, with m items to come. -/
def visitM (p : Paper) : Nat → List Int → Int → List (Int × Int) → Surv → Surv
  | 0, t, r, bs, S => endM p t r bs S
  | m + 1, t, r, bs, S =>
    let i := p.items.length - (m + 1)
    foldTo (fun n S => visitM p m (t.set i n) (r + n * (p.items.getD i default).weight) (cutTo p i n p.judges.length bs) S) ((p.items.getD i default).most + 1).toNat S

theorem set4 (a b c d : Int) (i : Nat) (n : Int) : ∃ a' b' c' d', [a, b, c, d].set i n = [a', b', c', d'] := by
  match i with
  | 0 => exact ⟨_, _, _, _, rfl⟩
  | 1 => exact ⟨_, _, _, _, rfl⟩
  | 2 => exact ⟨_, _, _, _, rfl⟩
  | 3 => exact ⟨_, _, _, _, rfl⟩
  | i + 4 => exact ⟨_, _, _, _, rfl⟩
theorem set4V (a b c d : Int) (i : Nat) (n : Int) (a' b' c' d' : Int) (h : [a, b, c, d].set i n = [a', b', c', d']) :
    (#[Value.int .i64 a, .int .i64 b, .int .i64 c, .int .i64 d] : Array Value).setIfInBounds i (.int .i64 n) = #[.int .i64 a', .int .i64 b', .int .i64 c', .int .i64 d'] := by
  have : ((#[Value.int .i64 a, .int .i64 b, .int .i64 c, .int .i64 d] : Array Value).setIfInBounds i (.int .i64 n)) = (([a, b, c, d].set i n).map (Value.int .i64)).toArray := by
    apply Array.ext'
    simp [List.map_set]
  rw [this, h]; rfl
theorem set_range {t t' : List Int} {i : Nat} {n : Int} (h : t.set i n = t') (hn : 0 ≤ n ∧ n ≤ 30) (ht : ∀ k, k < i → 0 ≤ t.getD k 0 ∧ t.getD k 0 ≤ 30) (hi : i < t.length) : ∀ k, k < i + 1 → 0 ≤ t'.getD k 0 ∧ t'.getD k 0 ≤ 30 := by
  intro k hk
  subst h
  by_cases e : k = i
  · subst e
    simpa [List.getD, hi] using hn
  · have := ht k (by omega)
    simpa [List.getD, List.getElem?_set_ne (show i ≠ k by omega)] using this
end Go.Proofs.Ytkejebdfbkgaiaa

namespace Go.Proofs.Ytkejebdfbkgaiaa
open Go.RowKit

def noSpan : Int × Int:=(1073741824,-1073741824)
/-- A survey as it is first made. -/
def survZ (p:Paper) (f:Nat → Nat → Int × Int):Surv:={ res:=noSpan,it:=f,shown:=[],right:=List.replicate p.judges.length false,fewest:=p.judges.length,poss:=false }
def survO (p:Paper):Surv:=survZ p (fun _ _=>noSpan)
def bias0 (p:Paper):List (Int × Int):=p.judges.map (fun x=>(x.lo,x.hi))
def openM (p:Paper):Surv:=visitM p p.items.length [0,0,0,0] 0 (bias0 p) (survO p)

def zeros : List Value:=List.replicate 248 (.int .i64 0)
theorem zeros_len : zeros.length = 248:=by unfold zeros;exact List.length_replicate ..
theorem zeros_get (k:Nat) (h:k < 248):zeros[k]? = some (.int .i64 0):=by unfold zeros;rw [List.getElem?_replicate,if_pos h]
def zhead : List Value:=[.slice none 0 0,.slice none 0 0,.int .i64 0,.slice none 0 0,.int .i64 0,.int .i64 0]
def ztail : List Value:=[.map none,.slice none 0 0,.int .i64 0,.bool false]
theorem zero_cells : Try.zeroCells81 = (zhead ++ zeros ++ ztail).toArray:=by kernel_rfl
/-- The cells of a survey as open makes it. -/
def newCells (z:Array Value) (iA jA gA:Option Addr) (il jl gl ic jc gc:Nat) (wr:Int) (M R:Nat):Array Value :=
 (((((((((z.setIfInBounds 0 (.slice iA il ic)).setIfInBounds 1 (.slice jA jl jc)).setIfInBounds 2 (.int .i64 wr)).setIfInBounds 3 (.slice gA gl gc)).setIfInBounds 4 (.int .i64 1073741824)).setIfInBounds 5 (.int .i64 (-1073741824))).setIfInBounds
  254 (.map (some M))).setIfInBounds 255 (.slice (some ⟨R,0,none⟩) jl jl)).setIfInBounds 256 (.int .i64 jl))
set_option maxRecDepth 10000 in
theorem survCs_new (iA jA gA:Option Addr) (ic jc gc B M R:Nat) (p:Paper) :
  SurvCs (newCells Try.zeroCells81 iA jA gA p.items.length p.judges.length p.grades.length ic jc gc p.wrong M R) ⟨B,M,R,p.judges.length,iA,jA,gA,ic,jc,gc⟩ p (survZ p (fun _ _=>(0,0))):=by
 have hz:(Try.zeroCells81:Array Value).size = 258:=by
  rw [zero_cells,List.size_toArray,List.length_append,List.length_append,zeros_len];rfl
 have hlast:(Try.zeroCells81:Array Value)[257]? = some (.bool false):=by
  rw [zero_cells,List.getElem?_toArray,List.getElem?_append_right (by rw [List.length_append,zeros_len];simp [zhead]),List.length_append,zeros_len];rfl
 have hrep:∀ k,6 ≤ k → k < 254 → (Try.zeroCells81:Array Value)[k]? = some (.int .i64 0):=by
  intro k h1 h2
  have hh:zhead.length = 6:=rfl
  rw [zero_cells,List.getElem?_toArray,List.getElem?_append_left (by rw [List.length_append,zeros_len];omega),List.getElem?_append_right (by omega)]
  exact zeros_get _ (by omega)
 have hq:∀ k,6 ≤ k → k < 254 → (newCells Try.zeroCells81 iA jA gA p.items.length p.judges.length p.grades.length ic jc gc p.wrong M R)[k]? = some (.int .i64 0):=by
  intro k h1 h2
  unfold newCells
  exact getq (getq (getq (getq (getq (getq (getq (getq (getq (hrep k h1 h2) _ (by omega)) _ (by omega)) _ (by omega)) _ (by omega)) _ (by omega)) _ (by omega)) _ (by omega)) _ (by omega)) _ (by omega)
 refine ⟨?_,?_,?_,?_,?_,?_,?_,fun i n hi hn=>hq _ (by omega) (by omega),fun i n hi hn=>hq _ (by omega) (by omega),?_,?_,?_,?_⟩
 all_goals
  unfold newCells
  generalize Try.zeroCells81 = z at *
 ·simpa using hz
 ·exact getq (getq (getq (getq (getq (getq (getq (getq (getset _ (by simp [hz])) _ (by omega)) _ (by omega)) _ (by omega)) _ (by omega)) _ (by omega)) _ (by omega)) _ (by omega)) _ (by omega)
 ·exact getq (getq (getq (getq (getq (getq (getq (getset _ (by simp [hz])) _ (by omega)) _ (by omega)) _ (by omega)) _ (by omega)) _ (by omega)) _ (by omega)) _ (by omega)
 ·exact getq (getq (getq (getq (getq (getq (getset _ (by simp [hz])) _ (by omega)) _ (by omega)) _ (by omega)) _ (by omega)) _ (by omega)) _ (by omega)
 ·exact getq (getq (getq (getq (getq (getset _ (by simp [hz])) _ (by omega)) _ (by omega)) _ (by omega)) _ (by omega)) _ (by omega)
 ·exact getq (getq (getq (getq (getset _ (by simp [hz])) _ (by omega)) _ (by omega)) _ (by omega)) _ (by omega)
 ·exact getq (getq (getq (getset _ (by simp [hz])) _ (by omega)) _ (by omega)) _ (by omega)
 ·exact getq (getq (getset _ (by simp [hz])) _ (by omega)) _ (by omega)
 ·exact getq (getset _ (by simp [hz])) _ (by omega)
 ·exact getset _ (by simp [hz])
 ·exact getq (getq (getq (getq (getq (getq (getq (getq (getq hlast _ (by omega)) _ (by omega)) _ (by omega)) _ (by omega)) _ (by omega)) _ (by omega)) _ (by omega)) _ (by omega)) _ (by omega)
theorem surv_new (iA jA gA:Option Addr) (ic jc gc:Nat) (p:Paper) (rv:Array Value) (hrv:rv = rightV (List.replicate p.judges.length false)) (W:World) (B M R:Nat)
  (hB:Blk W B 81 (newCells Try.zeroCells81 iA jA gA p.items.length p.judges.length p.grades.length ic jc gc p.wrong M R)) (hM:W.heap[M]? = some (.map #[] 0)) (hR:Blk W R 4 rv) :
  SurvAt W ⟨B,M,R,p.judges.length,iA,jA,gA,ic,jc,gc⟩ p (survZ p (fun _ _=>(0,0))) :=
 ⟨⟨_,hB,survCs_new iA jA gA ic jc gc B M R p⟩,⟨#[],0,hM,rfl⟩,by rw [hrv] at hR;exact hR,by simp [survZ]⟩
theorem Blk.news {W:World} {b:Nat} {t:TypeId} {cs:List Value} (h:Blk W b t cs.toArray):∀ j u,cs[j]? = some u → W.cell? ((⟨b,0,none⟩:Addr).add j) = some u:=by
 intro j u hu
 have hadd:(⟨b,0,none⟩:Addr).add j = ⟨b,j,none⟩:=by
  unfold Addr.add
  by_cases h0:j = 0 <;> simp [h0]
 rw [hadd,h.cell]
 simpa using hu
theorem blk_second (w:World) (o:Obj) (cs:Array Value) (t:TypeId):Blk ((w.alloc o).alloc (.cells cs t)) (w.heap.size + 1) t cs:=by
 have:=Blk.new (w.alloc o) t cs
 simpa using this
theorem ext_append {w1 w w':World} {e:TypeId} {size n:Nat} {v:Value} {xs:List Value} (h:Ext w1 w) (hown:w.ownsRow w1.heap.size e size v n xs) (hg:w.grownBy w' v.ownBlock):Ext w1 w' :=
 Below.grown h hg h.size (fun k hk=>(hown.lt k hk).1)
theorem heap4 (w1:World) (o1 o2 o3 o4:Obj):((((w1.alloc o1).alloc o2).alloc o3).alloc o4).drew.heap[w1.heap.size]? = some o1 ∧ ((((w1.alloc o1).alloc o2).alloc o3).alloc o4).drew.heap[w1.heap.size + 1]? = some o2 ∧
  ((((w1.alloc o1).alloc o2).alloc o3).alloc o4).drew.heap[w1.heap.size + 1 + 1]? = some o3 ∧ ((((w1.alloc o1).alloc o2).alloc o3).alloc o4).drew.heap[w1.heap.size + 1 + 1 + 1]? = some o4:=by
 have s1:(w1.alloc o1).heap.size = w1.heap.size + 1:=by simp
 have s2:((w1.alloc o1).alloc o2).heap.size = w1.heap.size + 1 + 1:=by simp
 have s3:(((w1.alloc o1).alloc o2).alloc o3).heap.size = w1.heap.size + 1 + 1 + 1:=by simp
 refine ⟨?_,?_,?_,?_⟩
 ·exact ((((Ext.of_alloc (w1.alloc o1) o2).alloc o3).alloc o4).drew.block w1.heap.size (by omega)).trans (heap_alloc_new w1 o1)
 ·rw [← s1];exact (((Ext.of_alloc ((w1.alloc o1).alloc o2) o3).alloc o4).drew.block (w1.alloc o1).heap.size (by omega)).trans (heap_alloc_new (w1.alloc o1) o2)
 ·rw [← s2];exact ((Ext.of_alloc (((w1.alloc o1).alloc o2).alloc o3) o4).drew.block ((w1.alloc o1).alloc o2).heap.size (by omega)).trans (heap_alloc_new ((w1.alloc o1).alloc o2) o3)
 ·rw [← s3];exact heap_alloc_new (((w1.alloc o1).alloc o2).alloc o3) o4
theorem SurvAt.congr {W:World} {L:Loc} {p:Paper} {S:Surv} (h:SurvAt W L p S) (f:Nat → Nat → Int × Int) (hf:∀ i n,i < 4 → n < 31 → f i n = S.it i n):SurvAt W L p { S with it:=f }:=by
 obtain ⟨cs,hb,hc⟩:=h.cs
 exact ⟨⟨cs,hb,hc.size,hc.c0,hc.c1,hc.c2,hc.c3,hc.c4,hc.c5,(fun i n hi hn=>by show cs[6 + i * 62 + n * 2]? = some (.int .i64 (f i n).1);rw [hf i n hi hn];exact hc.it1 i n hi hn),(fun i n hi hn=>by show cs[6 + i * 62 + n * 2 + 1]? = some (.int .i64 (f i n).2);rw [hf i n hi hn];exact hc.it2 i n hi hn),hc.c254,hc.c255,hc.c256,hc.c257⟩,h.map,h.right,h.rlen⟩
theorem SurvAt.setIts {W:World} {L:Loc} {p:Paper} {S:Surv} (h:SurvAt W L p S) (i n:Nat) (hi:i < 4) (hn:n < 31) (x y:Int) :
  SurvAt ((W.setCell ⟨L.B,6 + i * 62 + n * 2,none⟩ (.int .i64 x)).setCell ⟨L.B,6 + i * 62 + n * 2 + 1,none⟩ (.int .i64 y)) L p { S with it:=setIt S.it i n (x,y) }:=by
 obtain ⟨cs,hb,hc⟩:=h.cs
 exact h.own ((hb.set _ _).set _ _) (hc.item i n hi hn x y) (grown_trans (grown_setCell W ⟨L.B,_,none⟩ _) (grown_setCell _ ⟨L.B,_,none⟩ _)) rfl rfl
theorem run_makeBools (n:Nat) (hn:n ≤ 65536) (w:World) (rv:Array Value) (hrv:rv = rightV (List.replicate n false)) :
  (Instr.makeSlice 79 (.int .i64 n) (.int .i64 n)).run Try.prog w = .ok (.slice (some ⟨w.heap.size,0,none⟩) n n) (w.alloc (.cells rv 4)):=by
 have hinfo:(Try.prog.info? 4).map (fun i=>(i.zero,i.size,i.bytes)) = some (some (.bool false),1,1):=by kernel_rfl
 obtain ⟨i0,hi0,hz0,hz1,hz2⟩:=info_parts hinfo
 have:=run_make (P:=Try.prog) w 79 4 i0 (.bool false) Try.underlying79 hi0 hz0 .i64 .i64 n n (by omega) (by omega) (by rw [hz2];omega) (by omega)
 rw [this,hrv,hz1]
 have hm:madeCells (Value.cells (.bool false)) ((n:Int).toNat * 1) = rightV (List.replicate n false):=by
  apply Array.ext'
  simp [madeCells,rightV]
  apply List.ext_getElem?
  intro j
  by_cases hj:j < n
  ·simp [hj,Value.cells,Nat.mod_one]
  ·simp [hj]
 rw [hm]
 rfl
end Go.Proofs.Ytkejebdfbkgaiaa

namespace Go.Proofs.Ytkejebdfbkgaiaa
open Go.RowKit

/-- The error of known. -/
def knownE (p : Paper) (told : Bool) : Int := if validB p then (if told then (if (openM p).poss then 0 else 3) else 1) else 90
theorem knownE_ok {p : Paper} {t : Bool} (h : knownE p t = 0) : validB p = true ∧ t = true ∧ (openM p).poss = true := by
  unfold knownE at h
  cases h1 : validB p <;> cases h2 : t <;> cases h3 : (openM p).poss <;> simp [h1, h2, h3] at h ⊢
theorem knownE_err {p : Paper} {t : Bool} {c : Int} (h : knownE p t = c) (hc : c ≠ 0) : (validB p = false ∧ c = 90) ∨ (validB p = true ∧ t = false ∧ c = 1) ∨ (validB p = true ∧ t = true ∧ (openM p).poss = false ∧ c = 3) := by
  unfold knownE at h
  cases h1 : validB p <;> cases h2 : t <;> cases h3 : (openM p).poss <;> simp [h1, h2, h3] at h ⊢ <;> omega

def rangeM (p : Paper) : (Int × Int) × Int := if knownE p true = 0 then ((openM p).res, 0) else ((0, 0), knownE p true)
def fewestM (p : Paper) : Int × Int := if validB p then ((openM p).fewest, 0) else (0, 90)
/-- The places of the first k that are false. -/
def blameTo (l : List Bool) (k : Nat) : List Int := ((List.range k).filter (fun j => !l.getD j false)).map (fun j : Nat => (j : Int))
theorem blameTo_succ (l : List Bool) (k : Nat) : blameTo l (k + 1) = if l.getD k false then blameTo l k else blameTo l k ++ [(k : Int)] := by
  unfold blameTo
  rw [List.range_succ, List.filter_append, List.map_append]
  cases h : l.getD k false
  · simp only [List.filter_cons, List.filter_nil, h]; rfl
  · simp only [List.filter_cons, List.filter_nil, h]; simp
theorem blameTo_len (l : List Bool) (k : Nat) : (blameTo l k).length ≤ k := by
  unfold blameTo
  rw [List.length_map]
  exact Nat.le_trans (List.length_filter_le _ _) (by simp)
def blameM (p : Paper) : List Int × Int := if knownE p true = 0 then (blameTo (openM p).right p.judges.length, 0) else ([], knownE p true)
def gradeMod (p : Paper) : (Int × Int) × Int := if knownE p true = 0 then (((gradeP p.grades (openM p).res.1 : Nat), (gradeP p.grades (openM p).res.2 : Nat)), 0) else ((0, 0), knownE p true)
def addS (s o : Int × Int) : Int × Int := (min s.1 o.1, max s.2 o.2)
/-- The spans of item i from n0 on, k of them, added up. -/
def leftTo (S : Surv) (i : Nat) (n0 : Nat) : Nat → Int × Int
  | 0 => noSpan
  | k + 1 => addS (leftTo S i n0 k) (S.it i (n0 + k))
def widthM (s : Int × Int) : Int := max 0 (s.2 - s.1)
/-- What a mark leaves. -/
def markW (S : Surv) (i : Nat) (err mark : Int) : Int :=
  widthM (leftTo S i (max 0 (mark - err)).toNat (min 30 (mark + err) + 1 - max 0 (mark - err)).toNat)
/-- The greatest width over the first k marks. -/
def mostTo (S : Surv) (i : Nat) (err : Int) : Nat → Int
  | 0 => 0
  | k + 1 => max (mostTo S i err k) (markW S i err (-err + k))
def mostM (S : Surv) (i : Nat) (err : Int) : Int := mostTo S i err (31 + 2 * err).toNat
/-- The best of the first k items. -/
def bestTo (S : Surv) (err : Int) : Nat → Int × Int
  | 0 => (0, -1)
  | k + 1 => if (bestTo S err k).2 < 0 ∨ mostM S k err < (bestTo S err k).2 then ((k : Int), mostM S k err) else bestTo S err k
def nextM (p : Paper) (err : Int) : (Int × Int) × Int := if knownE p (wi err 0 5) = 0 then (bestTo (openM p) err p.items.length, 0) else ((0, 0), knownE p (wi err 0 5))

/-- Spans whose ends are small. -/
def SmallS (S : Surv) : Prop := ∀ i n, i < 4 → n < 31 → -1073741824 ≤ (S.it i n).1 ∧ (S.it i n).1 ≤ 1073741824 ∧ -1073741824 ≤ (S.it i n).2 ∧ (S.it i n).2 ≤ 1073741824
theorem leftTo_small {S : Surv} (h : SmallS S) {i : Nat} (hi : i < 4) (n0 : Nat) : ∀ k, n0 + k ≤ 31 → -1073741824 ≤ (leftTo S i n0 k).1 ∧ (leftTo S i n0 k).1 ≤ 1073741824 ∧ -1073741824 ≤ (leftTo S i n0 k).2 ∧ (leftTo S i n0 k).2 ≤ 1073741824 := by
  intro k
  induction k with
  | zero => intro _; simp [leftTo, noSpan]
  | succ k ih =>
    intro hk
    have h1 := ih (by omega)
    have h2 := h i (n0 + k) hi (by omega)
    simp only [leftTo, addS]
    omega
theorem widthM_bd {s : Int × Int} (h : -1073741824 ≤ s.1 ∧ s.1 ≤ 1073741824 ∧ -1073741824 ≤ s.2 ∧ s.2 ≤ 1073741824) : 0 ≤ widthM s ∧ widthM s ≤ 2147483648 := by
  unfold widthM; omega
theorem markW_bd {S : Surv} (h : SmallS S) {i : Nat} (hi : i < 4) {err mark : Int} (he : 0 ≤ err ∧ err ≤ 5) (h1 : -err ≤ mark) (h2 : mark ≤ 30 + err) : 0 ≤ markW S i err mark ∧ markW S i err mark ≤ 2147483648 :=
  widthM_bd (leftTo_small h hi _ _ (by omega))
theorem mostTo_bd {S : Surv} (h : SmallS S) {i : Nat} (hi : i < 4) {err : Int} (he : 0 ≤ err ∧ err ≤ 5) : ∀ k : Nat, (k : Int) ≤ 31 + 2 * err → 0 ≤ mostTo S i err k ∧ mostTo S i err k ≤ 2147483648 := by
  intro k
  induction k with
  | zero => intro _; simp [mostTo]
  | succ k ih =>
    intro hk
    have h1 := ih (by omega)
    have h2 := markW_bd h hi he (mark := -err + k) (by omega) (by omega)
    simp only [mostTo]
    omega
/-- The points of item i that some possible truth has, of the first k numbers. -/
def ptTo (S : Surv) (i : Nat) : Nat → Int × Int
  | 0 => noSpan
  | k + 1 => if (S.it i k).1 ≤ (S.it i k).2 then addS (ptTo S i k) ((k : Int), (k : Int)) else ptTo S i k
def ptsTo (S : Surv) (k : Nat) : List (Int × Int) := (List.range k).map (fun i => ptTo S i 31)
theorem ptsTo_succ (S : Surv) (k : Nat) : ptsTo S (k + 1) = ptsTo S k ++ [ptTo S k 31] := by
  unfold ptsTo; rw [List.range_succ, List.map_append]; rfl
theorem ptsTo_len (S : Surv) (k : Nat) : (ptsTo S k).length = k := by simp [ptsTo]
def pointsM (p : Paper) : List (Int × Int) × Int := if knownE p true = 0 then (ptsTo (openM p) p.items.length, 0) else ([], knownE p true)
theorem ptsTo_get (S : Surv) (k i : Nat) (hi : i < k) : (ptsTo S k).getD i (0, 0) = ptTo S i 31 := by
  unfold ptsTo
  simp [List.getD, hi]
end Go.Proofs.Ytkejebdfbkgaiaa
