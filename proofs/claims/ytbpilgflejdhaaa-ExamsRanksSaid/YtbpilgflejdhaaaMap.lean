/- Maps with int keys, as lists of pairs: what a store and a look-up do. -/
import Derived.Test.YtbpilgflejdhaaaMem
import Derived.Maps.Own
namespace Go.Proofs.Ytbpilgflejdhaaa
open Go.RowKit

/-- The entry of a key. -/
def getL (l : List (Int × Value)) (k : Int) : Option Value := (l.find? (fun x => x.1 == k)).map (·.2)
/-- A store: in place, or behind all. -/
def putL : List (Int × Value) → Int → Value → List (Int × Value)
  | [], k, v => [(k, v)]
  | x :: l, k, v => if x.1 = k then (k, v) :: l else x :: putL l k v
theorem getL_put (l : List (Int × Value)) (k : Int) (v : Value) (q : Int) : getL (putL l k v) q = if q = k then some v else getL l q := by
  induction l with
  | nil =>
    simp only [putL, getL]
    by_cases h : q = k
    · subst h; simp
    · have h' : (k == q) = false := by simpa using fun e => h e.symm
      simp [h, h']
  | cons x l ih =>
    simp only [putL]
    by_cases hx : x.1 = k
    · rw [if_pos hx]
      by_cases h : q = k
      · subst h; simp [getL]
      · have h1 : (k == q) = false := by simpa using fun e => h e.symm
        have h2 : (x.1 == q) = false := by simpa using fun e => h (e.symm.trans hx)
        simp [getL, h, h1, h2]
    · rw [if_neg hx]
      by_cases h : x.1 = q
      · subst h; simp [getL, hx]
      · have h1 : (x.1 == q) = false := by simpa using h
        simp only [getL, List.find?_cons, h1] at ih ⊢
        exact ih

def MapAt (w : World) (b : Nat) (l : List (Int × Value)) : Prop :=
  ∃ es clock, w.heap[b]? = some (.map es clock) ∧ es.toList.map (fun e => (e.key, e.val)) = l.map (fun x => (Value.int .i64 x.1, x.2))
theorem MapAt.lt {w : World} {b : Nat} {l : List (Int × Value)} (h : MapAt w b l) : b < w.heap.size := by
  obtain ⟨_, _, h, _⟩ := h; exact own_lt h
theorem MapAt.of_block {w w' : World} {b : Nat} {l : List (Int × Value)} (h : MapAt w b l) (e : w'.heap[b]? = w.heap[b]?) : MapAt w' b l := by
  obtain ⟨es, c, h1, h2⟩ := h; exact ⟨es, c, e.trans h1, h2⟩
theorem MapAt.new (w : World) : MapAt (w.alloc (.map #[] 0)) w.heap.size [] := ⟨#[], 0, heap_alloc_new w _, rfl⟩
theorem MapAt.ne {w : World} {b g : Nat} {l : List (Int × Value)} {t : TypeId} {cs : Array Value} (h : MapAt w b l) (k : Blk w g t cs) : b ≠ g := by
  rintro rfl
  obtain ⟨_, _, h, _⟩ := h
  unfold Blk at k
  rw [h] at k; cases k

theorem findNow_int (k : Int) : ∀ (l : List (Int × Value)) (es : List MapEntry) (i : Nat), es.map (fun e => (e.key, e.val)) = l.map (fun x => (Value.int .i64 x.1, x.2)) →
    Instr.findNow (.int .i64) (.int .i64 k) es i = some ((l.findIdx? (fun x => x.1 == k)).bind (fun n => (l[n]?).map (fun x => (i + n, x.2))))
  | [], [], i, _ => rfl
  | [], e :: es, i, h => by simp at h
  | x :: l, [], i, h => by simp at h
  | x :: l, e :: es, i, h => by
    simp only [List.map_cons, List.cons.injEq, Prod.mk.injEq] at h
    obtain ⟨⟨h1, h2⟩, h3⟩ := h
    have ih := findNow_int k l es (i + 1) h3
    simp only [Instr.findNow, h1, Instr.sameNow, if_true]
    by_cases hx : x.1 = k
    · simp [hx, h2, List.findIdx?_cons]
    · have e1 : (k == x.1) = false := by simpa using fun e => hx e.symm
      have e2 : (x.1 == k) = false := by simpa using hx
      rw [e1]
      simp only [ih, List.findIdx?_cons, e2]
      cases hf : l.findIdx? (fun x => x.1 == k) with
      | none => simp
      | some n => simp [Nat.add_assoc, Nat.add_comm 1 n]

theorem getL_idx (l : List (Int × Value)) (k : Int) : getL l k = (l.findIdx? (fun x => x.1 == k)).bind (fun n => (l[n]?).map (·.2)) := by
  induction l with
  | nil => rfl
  | cons x l ih =>
    simp only [getL, List.find?_cons, List.findIdx?_cons] at ih ⊢
    cases hx : x.1 == k
    · simp only [ih]
      cases l.findIdx? (fun x => x.1 == k) <;> simp
    · simp

theorem put_idx_none {l : List (Int × Value)} {k : Int} {v : Value} (h : l.findIdx? (fun x => x.1 == k) = none) : putL l k v = l ++ [(k, v)] := by
  induction l with
  | nil => rfl
  | cons x l ih =>
    simp only [List.findIdx?_cons] at h
    cases hx : x.1 == k
    · rw [hx] at h
      have hx' : ¬ x.1 = k := by simpa using hx
      simp only [putL, if_neg hx', List.cons_append]
      rw [ih (by simpa using h)]
    · rw [hx] at h; simp at h
theorem put_idx_some {l : List (Int × Value)} {k : Int} {v : Value} {n : Nat} (h : l.findIdx? (fun x => x.1 == k) = some n) : putL l k v = l.set n (k, v) ∧ ∃ x, l[n]? = some x ∧ x.1 = k := by
  induction l generalizing n with
  | nil => simp at h
  | cons x l ih =>
    simp only [List.findIdx?_cons] at h
    cases hx : x.1 == k
    · rw [hx] at h
      have hx' : ¬ x.1 = k := by simpa using hx
      simp at h
      obtain ⟨m, hm, rfl⟩ := h
      obtain ⟨h1, y, h2, h3⟩ := ih hm
      exact ⟨by simp only [putL, if_neg hx', h1, List.set_cons_succ], y, by simpa using h2, h3⟩
    · rw [hx] at h
      simp at h
      subst h
      have hx' : x.1 = k := by simpa using hx
      exact ⟨by simp [putL, hx'], x, by simp, hx'⟩

theorem run_findKey {P : Program} {kt : TypeId} (hk : P.underlying kt = some (.int .i64)) (k : Int) (l : List (Int × Value)) (es : List MapEntry) (w : World) (h : es.map (fun e => (e.key, e.val)) = l.map (fun x => (Value.int .i64 x.1, x.2))) :
    (Instr.findKey kt (.int .i64 k) es).run P w = .ok ((l.findIdx? (fun x => x.1 == k)).bind (fun n => (l[n]?).map (fun x => (n, x.2)))) w := by
  have := findNow_int k l es 0 h
  simp [Instr.findKey, run_underlying hk, this]

theorem run_checkKey_int {P : Program} {kt : TypeId} (hk : P.underlying kt = some (.int .i64)) (k : Int) (b : Bool) (n : Nat) (w : World) : (Instr.checkKey b (n + 1) kt (.int .i64 k)).run P w = .ok () w := by
  simp [Instr.checkKey, run_underlying hk]
theorem run_keyStays_int {P : Program} (k : Int) (w : World) : (Instr.keyThatStays (.int .i64 k) (.int .i64 k)).run P w = .ok (.int .i64 k) w := by
  simp [Instr.keyThatStays, Instr.sameBits]

theorem run_mapUpdate_at {P : Program} (w : World) (t kt et : TypeId) (ht : P.underlying t = some (.map kt et)) (hk : P.underlying kt = some (.int .i64)) (b : Nat) (l : List (Int × Value)) (h : MapAt w b l) (k : Int) (v : Value) :
    ∃ w', (Instr.mapUpdate t (.map (some b)) (.int .i64 k) v).run P w = .ok () w' ∧ MapAt w' b (putL l k v) ∧ w.grownBy w' (some b) := by
  obtain ⟨es, c, hb, hl⟩ := h
  have hlt := own_lt hb
  have hf := run_findKey hk k l es.toList w hl
  have hlen : es.size = l.length := by have := congrArg List.length hl; simpa using this
  cases hi : l.findIdx? (fun x => x.1 == k) with
  | none =>
    rw [hi] at hf
    refine ⟨{ w with heap := w.heap.setIfInBounds b (.map (es.push { key := .int .i64 k, val := v, born := c }) (c + 1)) }, ?_, ⟨es.push { key := .int .i64 k, val := v, born := c }, c + 1, (by simp [hlt]), ?_⟩, ⟨rfl, rfl, rfl, by simp, fun i _ hne => ?_⟩⟩
    · simp [Instr.mapUpdate, run_underlying ht, MapKept.run_getObj_map hb, run_checkKey_int hk k false 9999, hf, MapKept.run_setObj_map _ hb, Result.andThen]
    · rw [put_idx_none hi]
      simp [hl]
    · have : b ≠ i := fun e => hne (by rw [e])
      simp [Array.getElem?_setIfInBounds_ne this]
  | some n =>
    obtain ⟨h1, x, h2, h3⟩ := put_idx_some (v := v) hi
    rw [hi] at hf
    simp only [Option.bind_some, h2, Option.map_some] at hf
    have hn : n < es.size := by
      rw [hlen]
      rcases Nat.lt_or_ge n l.length with q | q
      · exact q
      · rw [List.getElem?_eq_none q] at h2; cases h2
    have hkey : (es[n]).key = .int .i64 k := by
      have := congrArg (fun q => q[n]?) hl
      simp only [List.getElem?_map, h2, Option.map_some] at this
      rw [List.getElem?_eq_getElem (by simpa using hn)] at this
      simp at this
      rw [this.1, h3]
    refine ⟨{ w with heap := w.heap.setIfInBounds b (.map (es.modify n fun e => { e with key := .int .i64 k, val := v }) c) }, ?_, ⟨es.modify n fun e => { e with key := .int .i64 k, val := v }, c, (by simp [hlt]), ?_⟩, ⟨rfl, rfl, rfl, by simp, fun i _ hne => ?_⟩⟩
    · simp [Instr.mapUpdate, run_underlying ht, MapKept.run_getObj_map hb, run_checkKey_int hk k false 9999, hf, MapKept.run_setObj_map _ hb, Result.andThen, hn, hkey, run_keyStays_int]
    · rw [h1]
      apply List.ext_getElem?
      intro j
      have hj := congrArg (fun q => q[j]?) hl
      simp only [List.getElem?_map, Array.getElem?_toList] at hj ⊢
      by_cases e : n = j
      · subst e
        have hnl : n < l.length := by omega
        simp [hn, hnl, Array.getElem_modify_self]
      · rw [List.getElem?_set_ne e, ← hj]
        simp [Array.getElem?_modify, e]
    · have : b ≠ i := fun e => hne (by rw [e])
      simp [Array.getElem?_setIfInBounds_ne this]

theorem run_lookup_ok {P : Program} (w : World) (t kt et : TypeId) (ht : P.underlying t = some (.map kt et)) (hk : P.underlying kt = some (.int .i64)) (b : Nat) (l : List (Int × Value)) (h : MapAt w b l) (k : Int) (v : Value) (hv : getL l k = some v) :
    (Instr.lookup t (.map (some b)) (.int .i64 k) true).run P w = .ok (.tuple #[v, .bool true]) w := by
  obtain ⟨es, c, hb, hl⟩ := h
  have hf := run_findKey hk k l es.toList w hl
  rw [getL_idx] at hv
  cases hi : l.findIdx? (fun x => x.1 == k) with
  | none => rw [hi] at hv; cases hv
  | some n =>
    rw [hi] at hv hf
    simp only [Option.bind_some] at hv hf
    cases hn : l[n]? with
    | none => rw [hn] at hv; cases hv
    | some x =>
      rw [hn] at hv hf
      simp at hv
      simp [Instr.lookup, run_underlying ht, MapKept.run_getObj_map hb, run_checkKey_int hk k _ 9999, hf, hv, Result.andThen]
theorem run_lookup_not {P : Program} (w : World) (t kt et : TypeId) (z : Value) (ht : P.underlying t = some (.map kt et)) (hk : P.underlying kt = some (.int .i64)) (hz : ∀ w, (zeroValue et).run P w = .ok z w) (b : Nat) (l : List (Int × Value)) (h : MapAt w b l) (k : Int) (hv : getL l k = none) :
    (Instr.lookup t (.map (some b)) (.int .i64 k) true).run P w = .ok (.tuple #[z, .bool false]) w := by
  obtain ⟨es, c, hb, hl⟩ := h
  have hf := run_findKey hk k l es.toList w hl
  rw [getL_idx] at hv
  have hf' : (Instr.findKey kt (.int .i64 k) es.toList).run P w = .ok none w := by
    rw [hf]
    congr 1
    cases hi : l.findIdx? (fun x => x.1 == k) with
    | none => rfl
    | some n =>
      rw [hi] at hv
      simp only [Option.bind_some, Option.map_eq_none_iff] at hv
      simp [hv]
  simp [Instr.lookup, run_underlying ht, MapKept.run_getObj_map hb, run_checkKey_int hk k _ 9999, hf', hz, Result.andThen]
end Go.Proofs.Ytbpilgflejdhaaa
