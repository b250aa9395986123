/- Exams: slices.Clone of spans; what a survey is, and how it lies in memory. -/
import Derived.Test.YtbpilgflejdhaaaExH
namespace Go.Proofs.Ytbpilgflejdhaaa
open Go.RowKit

def spanCells (l : List (Int × Int)) : List Value := l.flatMap fun s => [.int .i64 s.1, .int .i64 s.2]
theorem spanCells_length (l : List (Int × Int)) : (spanCells l).length = l.length * 2 := by
  induction l with
  | nil => rfl
  | cons a l ih => simp [spanCells] at ih ⊢; omega
theorem spanCells_get (l : List (Int × Int)) (k : Nat) : (spanCells l)[k * 2]? = (l[k]?).map (fun s => Value.int .i64 s.1) ∧ (spanCells l)[k * 2 + 1]? = (l[k]?).map (fun s => Value.int .i64 s.2) := by
  induction l generalizing k with
  | nil => simp [spanCells]
  | cons a l ih =>
    cases k with
    | zero => simp [spanCells]
    | succ k =>
      have := ih k
      simp only [spanCells, List.flatMap_cons] at this ⊢
      rw [show (k + 1) * 2 = k * 2 + 2 by omega, show k * 2 + 2 + 1 = k * 2 + 1 + 2 by omega]
      simpa using this
theorem spanCells_one (l : List (Int × Int)) : ∀ u ∈ spanCells l, u.oneCell' = true := by
  intro u hu
  simp [spanCells] at hu
  obtain ⟨a, b, _, rfl | rfl⟩ := hu <;> rfl
theorem spanCells_snoc (l : List (Int × Int)) (s : Int × Int) : spanCells (l ++ [s]) = spanCells l ++ [.int .i64 s.1, .int .i64 s.2] := by
  simp [spanCells]

/-- A slice of spans. -/
def Spans (w : World) (A : Option Addr) (l : List (Int × Int)) : Prop :=
  ∀ k, k < l.length → ∃ b off, A = some ⟨b, off, none⟩ ∧ b < w.heap.size ∧ w.cell? ⟨b, off + k * 2, none⟩ = some (.int .i64 (l.getD k (0, 0)).1) ∧ w.cell? ⟨b, off + k * 2 + 1, none⟩ = some (.int .i64 (l.getD k (0, 0)).2)
theorem Spans.ext {w w' : World} {A : Option Addr} {l : List (Int × Int)} (h : Spans w A l) (e : Ext w w') : Spans w' A l := fun k hk => by
  obtain ⟨b, off, hA, hb, h1, h2⟩ := h k hk
  exact ⟨b, off, hA, Nat.lt_of_lt_of_le hb e.size, (e.cellOf (p := ⟨b, _, none⟩) hb).trans h1, (e.cellOf (p := ⟨b, _, none⟩) hb).trans h2⟩
theorem Spans.get {w : World} {A : Option Addr} {l : List (Int × Int)} (h : Spans w A l) {k : Nat} (hk : k < l.length) :
    ∃ b off x y, A = some ⟨b, off, none⟩ ∧ b < w.heap.size ∧ w.cell? ⟨b, off + k * 2, none⟩ = some (.int .i64 x) ∧ w.cell? ⟨b, off + k * 2 + 1, none⟩ = some (.int .i64 y) ∧ Hid (l.getD k (0, 0) = (x, y)) := by
  obtain ⟨b, off, h1, h2, h3, h4⟩ := h k hk
  exact ⟨b, off, _, _, h1, h2, h3, h4, rfl⟩
theorem Spans.of_own {w : World} {base n c : Nat} {e : TypeId} {A : Option Addr} {l : List (Int × Int)} (h : w.ownsRow base e 2 (.slice A n c) n (spanCells l)) : n = l.length ∧ Spans w A l := by
  have hl : n = l.length := by have := h.1; rw [spanCells_length] at this; omega
  refine ⟨hl, fun k hk => ?_⟩
  obtain ⟨b, off, hA, hb, hc⟩ := (Sl.of_own h).2 (by omega)
  have hg := spanCells_get l k
  rw [List.getElem?_eq_getElem hk] at hg
  refine ⟨b, off, hA, hb, ?_, ?_⟩
  · have := hc _ _ hg.1
    rw [this]; simp [List.getD, hk]
  · have := hc _ _ hg.2
    rw [show off + k * 2 + 1 = off + (k * 2 + 1) by omega, this]; simp [List.getD, hk]
/-- The cells of spans, as the laws on append ask them. -/
theorem Spans.cells {w : World} {ad : Addr} {l : List (Int × Int)} (h : Spans w (some ad) l) : ∀ j u, (spanCells l)[j]? = some u → w.cell? (ad.add j) = some u := by
  intro j u hu
  have hj : j < l.length * 2 := by
    rw [← spanCells_length]
    rcases Nat.lt_or_ge j (spanCells l).length with h | h
    · exact h
    · rw [List.getElem?_eq_none h] at hu; cases hu
  obtain ⟨b, off, hA, hb, h1, h2⟩ := h (j / 2) (by omega)
  injection hA with hA
  subst hA
  have hg := spanCells_get l (j / 2)
  have hlt : j / 2 < l.length := by omega
  rw [List.getElem?_eq_getElem hlt] at hg
  have hadd : (⟨b, off, none⟩ : Addr).add j = ⟨b, off + j, none⟩ := by
    unfold Addr.add
    by_cases h0 : j = 0 <;> simp [h0]
  rw [hadd]
  by_cases hp : j % 2 = 0
  · have e : j / 2 * 2 = j := by omega
    rw [e] at hg h1
    rw [hg.1] at hu
    rw [h1]; simpa [List.getD, hlt] using hu
  · have e : j / 2 * 2 + 1 = j := by omega
    rw [e] at hg
    rw [show off + j / 2 * 2 + 1 = off + j by omega] at h2
    rw [hg.2] at hu
    rw [h2]; simpa [List.getD, hlt] using hu

theorem span_info : (Try.prog.info? 35).map (fun i => (i.zero, i.size, i.bytes)) = some (some (.agg #[.int .i64 0, .int .i64 0]), 2, 16) := by kernel_rfl

theorem own_empty (w : World) (base : Nat) (e : TypeId) (size : Nat) (hb : base ≤ w.heap.size) : (w.alloc (.cells #[] e)).ownsRow base e size (.slice (some ⟨w.heap.size, 0, none⟩) 0 0) 0 [] :=
  ⟨by simp, .inr ⟨w.heap.size, 0, #[], rfl, hb, heap_alloc_new w _, Nat.le_refl _, by simp [maxLen], by simp, by simp⟩⟩

set_option maxHeartbeats 1000000 in
theorem cloneSpans (A : Option Addr) (c : Nat) (l : List (Int × Int)) (w : World) (h : Spans w A l) (hl : l.length ≤ 65536) (hnil : A = none → l = []) :
    Calls Try.prog 78 #[.slice A l.length c] w fun e w' => ∃ v, e = .returned v ∧ w'.ownsRow w.heap.size 35 2 v l.length (spanCells l) ∧ Ext w w' := by
  obtain ⟨i0, hi0, hz0, hz1, hz2⟩ := info_parts span_info
  have heq := fun w' : World => Lib.run_eql_slice_nil (P := Try.prog) w' 58 35 A l.length c 0 0 Try.underlying58
  rcases A with _ | ad
  · have hl0 := hnil rfl
    subst hl0
    clear hnil h heq hz0 hi0 hz1 hz2
    have heq := fun w' : World => Lib.run_eql_slice_nil (P := Try.prog) w' 58 35 none 0 c 0 0 Try.underlying58
    simp only [Option.isNone_none] at heq
    go_enter Try.func78, Try.ntmps78
    go_wp2
    go_ret
    exact ⟨_, rfl, World.ownsRow_nil _ _ _ _, Ext.refl _⟩
  · have hc := (h.ext (Ext.of_alloc w (.cells #[] 35))).cells
    have HO := Lib.hid (spanCells_one l)
    have HL := Lib.hid (spanCells_length l)
    have HC := Lib.hid hc
    have HE := Lib.hid (Ext.of_alloc w (.cells #[] 35))
    have HW := Lib.hid (own_empty w w.heap.size 35 2 (Nat.le_refl _))
    clear hc hnil h
    generalize spanCells l = cs at *
    go_enter Try.func78, Try.ntmps78
    go_wp2_with (at_builtin; refine wpList_append_own _ rfl _ _ 58 rfl w.heap.size 35 i0 _ 2 16 Try.underlying58 hi0 hz0 hz1 hz2 rfl (by decide) _ _ _ rfl HW.out ad l.length c cs rfl HL.out HC.out HO.out (by simp [maxLen]; omega) (by omega) (by simp) ?_; intro v' w1 hown hgrow _)
    go_ret
    refine ⟨_, rfl, by simpa using hown, ?_⟩
    have hg : Below w.heap.size w w1 := Below.grown (HE.out) hgrow (by simp) (fun k hk => by injection hk with hk; exact Nat.le_of_eq hk)
    exact hg
end Go.Proofs.Ytbpilgflejdhaaa
