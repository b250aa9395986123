/- How the form's readings of data give cells: slices, ints. No program in sight. -/
import Derived.Test.YtomkjfhepfinhaaMem
import Derived.Deep.Slices
import Derived.Lib.SmallJoins
import Derived.OpenShut
import Derived.WideKeyArgs
import Derived.Deep.OwnRows
namespace Go.Proofs.Ytomkjfhepfinhaa
open Go.RowKit Go.ChangeShapes Go.WideShapes Go.Deep

section
variable {H : Type} {enc : TypeId × Value → H} {P : Program} {w : World} {base : Nat} {held : Bool}

/-- A slice's elements, cell by cell. -/
theorem rd_slice {t e : TypeId} {sz n : Nat} {v : Value} {y : DataW H × List MemPlace} (ht : P.underlying t = some (.slice e)) (hc : P.cellsOf e = sz) (hsz : 0 < sz) (h : DataW.trod enc P w base (fun _ => true) held n t [v] = some y) :
    ∃ A len cap, v = .slice A len cap ∧ len ≤ 9223372036854775807 ∧ (A = none → len = 0) ∧ ∀ i, i < len → ∃ b off m cs z, A = some ⟨b, off, none⟩ ∧ b < w.heap.size ∧ cs.length = sz ∧ (∀ j, j < sz → w.cell? ⟨b, off + i * sz + j, none⟩ = cs[j]?) ∧
      DataW.trod enc P w base (fun _ => true) held m e cs = some z := by
  rcases open_slice ht h with ⟨h0, _⟩ | ⟨a, len, cap, m, n', D, Pl, h0, hb, hl, hm, hmm, _, hx⟩
  · injection h0 with h0
    exact ⟨none, 0, 0, h0, by omega, fun _ => rfl, fun i hi => by omega⟩
  · injection h0 with h0
    have hmx : maxLen = 9223372036854775807 := rfl
    refine ⟨some a, len, cap, h0, by omega, (fun h => by cases h), fun i hi => ?_⟩
    simp only [if_true] at hmm
    obtain ⟨cs, h1, h2⟩ := hx i (by omega)
    obtain ⟨_, hlen, hcell⟩ := World.cells?_some h1
    rw [hc] at hlen hcell
    have hc0 := hcell 0 hsz
    rw [List.getElem?_eq_getElem (by omega)] at hc0
    obtain ⟨b, off, spot⟩ := a
    have hadd : ∀ (x y : Nat), ((⟨b, off, spot⟩ : Addr).add x).add y = (⟨b, off, spot⟩ : Addr).add (x + y) := fun x y => add_of_add _ _ _
    have hsp : spot = none := by
      obtain ⟨cs0, g1, _⟩ := hx 0 (by omega)
      obtain ⟨_, glen, gcell⟩ := World.cells?_some g1
      rw [hc] at glen gcell
      have g0 := gcell 0 hsz
      rw [List.getElem?_eq_getElem (by omega)] at g0
      have := World.cell?_spot g0
      simpa [hadd, Addr.add] using this
    subst hsp
    have hform : ∀ x, (⟨b, off, none⟩ : Addr).add x = ⟨b, off + x, none⟩ := fun x => by
      unfold Addr.add
      by_cases hx0 : x = 0 <;> simp [hx0]
    refine ⟨b, off, n', cs, _, rfl, ?_, hlen, fun j hj => ?_, h2⟩
    · have := World.block_lt_of_cell? w _ hc0
      rw [hadd, hform] at this
      exact this
    · have := hcell j hj
      rw [hadd, hform] at this
      rw [← this, Nat.add_assoc]

theorem rd_int {t : TypeId} {n : Nat} {cs : List Value} {y : DataW H × List MemPlace} (ht : P.underlying t = some (.int .i64)) (h : DataW.trod enc P w base (fun _ => true) held n t cs = some y) : ∃ i : Int, cs = [.int .i64 i] ∧ -9223372036854775808 ≤ i ∧ i ≤ 9223372036854775807 := by
  obtain ⟨i, h1, _, h3⟩ := DataW.trod_int ht h
  refine ⟨i, h1, ?_⟩
  simpa [Lit.wf, IntKind.min, IntKind.max, IntKind.signed, IntKind.bits] using h3

def I64 (x : Int) : Prop := -9223372036854775808 ≤ x ∧ x ≤ 9223372036854775807

theorem rd_ints {t e : TypeId} {n : Nat} {v : Value} {y : DataW H × List MemPlace} (ht : P.underlying t = some (.slice e)) (he : P.underlying e = some (.int .i64)) (hc : P.cellsOf e = 1) (h : DataW.trod enc P w base (fun _ => true) held n t [v] = some y) :
    ∃ A c, ∃ l : List Int, v = .slice A l.length c ∧ Ints w A l ∧ l.length ≤ 9223372036854775807 ∧ (A = none → l = []) ∧ ∀ x ∈ l, I64 x := by
  obtain ⟨A, len, cap, rfl, hl, hn, hx⟩ := rd_slice ht hc (by omega) h
  have key : ∀ i, i < len → ∃ x : Int, (∃ b off, A = some ⟨b, off, none⟩ ∧ b < w.heap.size ∧ w.cell? ⟨b, off + i, none⟩ = some (.int .i64 x)) ∧ I64 x := by
    intro i hi
    obtain ⟨b, off, m, cs, z, hA, hb, hlen, hcell, ht'⟩ := hx i hi
    obtain ⟨x, rfl, h1, h2⟩ := rd_int he ht'
    have := hcell 0 (by omega)
    rw [Nat.mul_one, Nat.add_zero] at this
    exact ⟨x, ⟨b, off, hA, hb, this⟩, h1, h2⟩
  obtain ⟨f, hf⟩ := choose_lt key
  have hlen : ((List.range len).map f).length = len := by simp
  refine ⟨A, cap, (List.range len).map f, by rw [hlen], fun k hk => ?_, by omega, fun hA => by rw [hn hA]; rfl, fun x hx' => ?_⟩
  · rw [hlen] at hk
    obtain ⟨⟨b, off, h1, h2, h3⟩, _⟩ := hf k hk
    exact ⟨b, off, h1, h2, by rw [h3]; simp [List.getD, hk]⟩
  · obtain ⟨k, hk, rfl⟩ := List.mem_map.1 hx'
    exact (hf k (by simpa using hk)).2

/-- A world that only has more. -/
theorem since_of_ext {W W' : World} (h : Ext W W') : W.Since W.heap.size W' := ⟨h.os, h.tape, h.output, h.size, fun k hk => h.block k hk⟩
/-- An argument reads as before in a world that only has more. -/
theorem stays {t : TypeId} (hl : laidOutB P = true) (hr : P.readableRec t = true) (hrow : t < P.types.size) {W W' : World} {sp' : Nat → Bool} {v : Value} {d : DataW H} {ps : List MemPlace}
    (h : DataW.Trod enc P W 0 (fun _ => true) true t v d ps) (hE : Ext W W') (hlt : ∀ p ∈ ps, p.block < W.heap.size) (hs : ∀ p ∈ ps, sp' p.block = true) : DataW.Trod enc P W' 0 sp' true t v d ps :=
  WideElems.Trod_stays hl hr hrow h (fun p hp => (since_of_ext hE).sameAt (hlt p hp)) hs
end
end Go.Proofs.Ytomkjfhepfinhaa
