/- From handed data to abstract values; from a reading of a law to what its row asks / Secrets: how sheets, places and wider masks read. -/
import Derived.Test.YtlffjnmbpoemnaaBk6
import Derived.Test.YtlffjnmbpoemnaaBk17
import Derived.Test.YtlffjnmbpoemnaaBk7
set_option linter.unusedSimpArgs false
set_option linter.unusedVariables false
namespace Go.Proofs.Ytlffjnmbpoemnaa
open Go.RowKit Go.ChangeShapes Go.WideShapes Go.Deep

def nobody : Nat → Prop := fun _ => False
/-- Cells that are as a table says. -/
def CellsAre (w : World) (cs : List Value) (sz : Nat) (c : Nat → AV) : Prop := cs.length = sz ∧ ∀ o, o < sz → ∃ u, cs[o]? = some u ∧ u.oneCell' = true ∧ rep nobody w (c o) g0 u
theorem law_calls {P : Program} {f : FuncId} {xs : List AV} (H : ACall P f xs [] (fun r h => r = .bool true ∧ h = [])) {w : World} {vs : Array Value} (hs : vs.size = xs.length) (hr : ∀ (i : Nat) (x : AV), xs[i]? = some x → rep nobody w x g0 (vs.getD i undef)) :
    Calls P f vs w fun e w' => e = .returned (.bool true) ∧ Ext w w' := by
  have noM : ∀ b, MM nobody g0 [] b → False := fun b hb => by
    rcases hb with hb | ⟨d, cap, ⟨x, hx, _⟩, _⟩
    · exact hb
    · simp at hx
  refine (H.2 nobody g0 w vs (HOK.nil w (fun _ h => h.elim)) hs fun i x hx => rep_mono (Chg.refl _ w) (fun b _ hb => (noM b hb).elim) _ (GM.le_refl _) (hr i x hx)).mono ?_
  rintro e w' ⟨v, r, h', g', rfl, T, hv, rfl, _⟩
  have : v = .bool true := hv
  subst this
  exact ⟨rfl, T.chg.os, T.chg.tape, T.chg.output, T.chg.size, fun b hb => T.chg.block b hb (fun hm => noM b (.inr hm))⟩
theorem CellsAre.agg {w : World} {cs : List Value} {sz : Nat} {c : Nat → AV} (h : CellsAre w cs sz c) : rep nobody w (.agg sz c) g0 (.agg cs.toArray) :=
  ⟨_, rfl, by simp [h.1], fun i hi => by obtain ⟨u, h1, h2, h3⟩ := h.2 i hi; exact ⟨u, by simpa using h1, h2, h3⟩⟩
theorem CellsAre.val {w : World} {v : Value} {cs : List Value} {c : Nat → AV} (h : CellsAre w cs 1 c) (hv : cs = [v]) : rep nobody w (c 0) g0 v := by
  subst hv
  obtain ⟨u, h1, _, h3⟩ := h.2 0 (by omega)
  simp at h1
  rw [h1]; exact h3
theorem CellsAre.sub {w : World} {cs : List Value} {off k : Nat} {c : Nat → AV} (h : CellsAre w ((cs.drop off).take k) k c) {o : Nat} (ho : o < k) : ∃ u, cs[off + o]? = some u ∧ u.oneCell' = true ∧ rep nobody w (c o) g0 u := by
  obtain ⟨u, h1, h2⟩ := h.2 o ho
  rw [List.getElem?_take] at h1
  simp only [ho, if_true, List.getElem?_drop] at h1
  exact ⟨u, h1, h2⟩
theorem CellsAre.one {w : World} {v : Value} {x : AV} (h1 : v.oneCell' = true) (h : rep nobody w x g0 v) : CellsAre w [v] 1 (fun _ => x) :=
  ⟨rfl, fun o ho => by obtain rfl : o = 0 := (by omega)
                       exact ⟨v, rfl, h1, h⟩⟩
section
variable {H : Type} {enc : TypeId × Value → H} {P : Program} {w : World} {base : Nat} {held : Bool}
theorem rdr_int {t : TypeId} {n : Nat} {cs : List Value} {y : DataW H × List MemPlace} (ht : P.underlying t = some (.int .i64)) (h : DataW.trod enc P w base (fun _ => true) held n t cs = some y) : ∃ i : Int, I64 i ∧ CellsAre w cs 1 (fun _ => .int .i64 i) := by
  obtain ⟨i, rfl, hi⟩ := rd_int ht h
  exact ⟨i, hi, .one rfl rfl⟩
theorem rdr_slice {α : Type} {t e : TypeId} {sz : Nat} (c : α → Nat → AV) (Q : α → Prop) (d : α) (ht : P.underlying t = some (.slice e)) (hc : P.cellsOf e = sz) (hsz : 0 < sz) (rd : ∀ {n : Nat} {cs : List Value} {y : DataW H × List MemPlace}, DataW.trod enc P w base (fun _ => true) held n e cs = some y → ∃ x, Q x ∧ CellsAre w cs sz (c x))
    {n : Nat} {cs : List Value} {y : DataW H × List MemPlace} (h : DataW.trod enc P w base (fun _ => true) held n t cs = some y) :
    ∃ (z : Bool) (l : List α), (l.length ≤ 9223372036854775807 ∧ ∀ x ∈ l, Q x) ∧ CellsAre w cs 1 (fun _ => .sl z false l.length sz (fun k => c (l.getD k d))) := by
  have hmx : maxLen = 9223372036854775807 := rfl
  have h' := h
  rcases open_slice ht h with ⟨rfl, _⟩ | ⟨a, len, cap, m, n', D, Pl, rfl, hb, hl, hm, hmm, _, hx⟩
  · refine ⟨true, [], ⟨by simp, fun x hx => by cases hx⟩, .one rfl ⟨none, 0, rfl, by simp, by simp, fun h => (by cases h), by simp, fun k hk => absurd hk (Nat.not_lt_zero k)⟩⟩
  · obtain ⟨A, len', cap', h0, hl', hn, hxx⟩ := rd_slice ht hc hsz h'
    injection h0 with e1 e2 e3
    subst e1; subst e2; subst e3
    have key : ∀ i, i < len → ∃ x : α, Q x ∧ ∃ b off, (some a : Option Addr) = some ⟨b, off, none⟩ ∧ b < w.heap.size ∧ ∀ o, o < sz → ∃ u, w.cell? ⟨b, off + i * sz + o, none⟩ = some u ∧ u.oneCell' = true ∧ rep nobody w (c x o) g0 u := fun i hi => by
      obtain ⟨b, off, m, cs, z, hA, hb, hlen, hcell, ht'⟩ := hxx i hi
      obtain ⟨x, hq, hcs⟩ := rd ht'
      refine ⟨x, hq, b, off, hA, hb, fun o ho => ?_⟩
      obtain ⟨u, h1, h2⟩ := hcs.2 o ho
      exact ⟨u, (hcell o ho).trans h1, h2⟩
    obtain ⟨f, hf⟩ : ∃ f : Nat → α, ∀ i, i < len → Q (f i) ∧ ∃ b off, (some a : Option Addr) = some ⟨b, off, none⟩ ∧ b < w.heap.size ∧ ∀ o, o < sz → ∃ u, w.cell? ⟨b, off + i * sz + o, none⟩ = some u ∧ u.oneCell' = true ∧ rep nobody w (c (f i) o) g0 u := by
      refine ⟨fun i => open Classical in if hi : i < len then (key i hi).choose else d, fun i hi => ?_⟩
      simp only [hi, dif_pos]
      exact (key i hi).choose_spec
    have hlen : ((List.range len).map f).length = len := by simp
    refine ⟨false, (List.range len).map f, ⟨by rw [hlen]; omega, fun x hx => ?_⟩, ?_⟩
    · obtain ⟨k, hk, rfl⟩ := List.mem_map.1 hx
      exact (hf k (by simpa using hk)).1
    · refine .one rfl ⟨some a, cap, by rw [hlen], by simp, by simp, fun h => (by cases h), by rw [hlen]; exact hl, fun k hk o ho => ?_⟩
      rw [hlen] at hk
      obtain ⟨_, b, off, h1, h2, h3⟩ := hf k hk
      obtain ⟨u, h4, h5, h6⟩ := h3 o ho
      have hg : ((List.range len).map f).getD k d = f k := by simp [List.getD, hk]
      exact ⟨b, off, u, h1, h2, fun h => h, h4, h5, by show rep nobody w (c (((List.range len).map f).getD k d) o) g0 u; rw [hg]; exact h6⟩
theorem rdr_field {t : TypeId} {fs : Array Field} {n : Nat} {cs : List Value} {y : DataW H × List MemPlace} (ht : P.underlying t = some (.struct fs)) (h : DataW.trod enc P w base (fun _ => true) held n t cs = some y) : cs.length = P.cellsOf t ∧ ∀ (k : Nat) (f : Field), fs[k]? = some f → ∃ m x, DataW.trod enc P w base (fun _ => true) held m f.type ((cs.drop f.offset).take (P.cellsOf f.type)) = some x := by
  obtain ⟨xs, m, _, rfl, hl, hlen, hf⟩ := DataW.trod_struct ht h
  refine ⟨hl, fun k f hk => ?_⟩
  have hk' : k < fs.size := by
    rcases Nat.lt_or_ge k fs.size with h | h
    · exact h
    · rw [Array.getElem?_eq_none h] at hk; cases hk
  have := hf k f hk
  rw [List.getElem?_eq_getElem (by omega)] at this
  exact ⟨m, _, this⟩
/-- Each field reads. -/
def FRd (enc : TypeId × Value → H) (P : Program) (w : World) (base : Nat) (held : Bool) (cs : List Value) : List Field → Prop
  | [] => True
  | f :: fs => (∃ m x, DataW.trod enc P w base (fun _ => true) held m f.type ((cs.drop f.offset).take (P.cellsOf f.type)) = some x) ∧ FRd enc P w base held cs fs
theorem FRd.of {cs : List Value} : ∀ {l : List Field}, (∀ f ∈ l, ∃ m x, DataW.trod enc P w base (fun _ => true) held m f.type ((cs.drop f.offset).take (P.cellsOf f.type)) = some x) → FRd enc P w base held cs l
  | [], _ => trivial
  | _ :: _, h => ⟨h _ List.mem_cons_self, FRd.of fun f hf => h f (List.mem_cons_of_mem _ hf)⟩
theorem rdr_fields {t : TypeId} {fs : Array Field} {n : Nat} {cs : List Value} {y : DataW H × List MemPlace} (ht : P.underlying t = some (.struct fs)) (h : DataW.trod enc P w base (fun _ => true) held n t cs = some y) : cs.length = P.cellsOf t ∧ FRd enc P w base held cs fs.toList := by
  obtain ⟨h1, h2⟩ := rdr_field ht h
  refine ⟨h1, FRd.of fun f hf => ?_⟩
  obtain ⟨k, hk, rfl⟩ := List.getElem_of_mem hf
  exact h2 k _ (by simp)
end
end Go.Proofs.Ytlffjnmbpoemnaa

namespace Go.Proofs.Ytlffjnmbpoemnaa
open Go.RowKit Go.ChangeShapes Go.WideShapes Go.Deep

section
variable {H : Type} {enc : TypeId × Value → H} {w : World} {base : Nat} {held : Bool}
theorem csz : Try.prog.cellsOf 3 = 1 ∧ Try.prog.cellsOf 23 = 1 ∧ Try.prog.cellsOf 22 = 1 ∧ Try.prog.cellsOf 25 = 3 ∧ Try.prog.cellsOf 27 = 3 ∧ Try.prog.cellsOf 45 = 4 ∧ Try.prog.cellsOf 51 = 4 ∧ Try.prog.cellsOf 64 = 4 := by
  refine ⟨?_, ?_, ?_, ?_, ?_, ?_, ?_, ?_⟩ <;> kernel_rfl
theorem rt_int {n : Nat} {cs : List Value} {y : DataW H × List MemPlace} (h : DataW.trod enc Try.prog w base (fun _ => true) held n 3 cs = some y) : ∃ i : Int, I64 i ∧ CellsAre w cs 1 (fun _ => AI i) := rdr_int Try.underlying3 h
theorem rt_ints {n : Nat} {cs : List Value} {y : DataW H × List MemPlace} (h : DataW.trod enc Try.prog w base (fun _ => true) held n 23 cs = some y) : ∃ (z : Bool) (l : List Int), (l.length ≤ 9223372036854775807 ∧ ∀ x ∈ l, I64 x) ∧ CellsAre w cs 1 (fun _ => aInts z false l) :=
  rdr_slice (fun (x : Int) _ => AI x) I64 0 Try.underlying23 csz.1 (by omega) rt_int h
theorem rt_row {n : Nat} {cs : List Value} {y : DataW H × List MemPlace} (h : DataW.trod enc Try.prog w base (fun _ => true) held n 23 cs = some y) : ∃ x : Bool × List Int, x.2.length ≤ 9223372036854775807 ∧ CellsAre w cs 1 (fun _ => aInts x.1 false x.2) := by
  obtain ⟨z, l, hl, c⟩ := rt_ints h
  exact ⟨(z, l), hl.1, c⟩
theorem rt_rows {n : Nat} {cs : List Value} {y : DataW H × List MemPlace} (h : DataW.trod enc Try.prog w base (fun _ => true) held n 22 cs = some y) : ∃ (z : Bool) (rz : Nat → Bool) (l : List (List Int)), l.length ≤ 9223372036854775807 ∧ CellsAre w cs 1 (fun _ => aRows z false rz (fun _ => false) l) := by
  obtain ⟨z, l, hl, c⟩ := rdr_slice (fun (x : Bool × List Int) _ => aInts x.1 false x.2) (fun x => x.2.length ≤ 9223372036854775807) (true, []) Try.underlying22 csz.2.1 (by omega) rt_row h
  have hb : ∀ k, (l.map Prod.snd).getD k [] = (l.getD k (true, [])).2 := fun k => by
    simp only [List.getD, List.getElem?_map]
    cases l[k]? <;> rfl
  refine ⟨z, fun k => (l.getD k (true, [])).1, l.map Prod.snd, by simpa using hl.1, ?_⟩
  simp only [aRows, List.length_map, hb]
  exact c
theorem rt_sheet {n : Nat} {cs : List Value} {y : DataW H × List MemPlace} (h : DataW.trod enc Try.prog w base (fun _ => true) held n 25 cs = some y) : ∃ (f : ShF) (s : Sheet), True ∧ CellsAre w cs 3 (cSh f s) := by
  obtain ⟨hl, ⟨_, _, h0⟩, ⟨_, _, h1⟩, ⟨_, _, h2⟩, _⟩ := rdr_fields Try.underlying25 h
  simp only [csz.1, csz.2.1, csz.2.2.1] at h0 h1 h2
  obtain ⟨z0, rz, a, _, c0⟩ := rt_rows h0
  obtain ⟨z1, b, _, c1⟩ := rt_ints h1
  obtain ⟨c, _, c2⟩ := rt_int h2
  refine ⟨⟨z0, false, rz, fun _ => false, z1, false⟩, ⟨a, b, c⟩, trivial, by rw [hl]; exact csz.2.2.2.1, fun o ho => ?_⟩
  rcases (show o = 0 ∨ o = 1 ∨ o = 2 by omega) with rfl | rfl | rfl
  · exact c0.sub (o := 0) (by omega)
  · exact c1.sub (o := 0) (by omega)
  · exact c2.sub (o := 0) (by omega)
structure Plc where
  r : Int
  c : Int
  a : Int
theorem rt_place {n : Nat} {cs : List Value} {y : DataW H × List MemPlace} (h : DataW.trod enc Try.prog w base (fun _ => true) held n 27 cs = some y) : ∃ x : Plc, (I64 x.r ∧ I64 x.c ∧ I64 x.a) ∧ CellsAre w cs 3 (ofL [AI x.r, AI x.c, AI x.a]) := by
  obtain ⟨hl, ⟨_, _, h0⟩, ⟨_, _, h1⟩, ⟨_, _, h2⟩, _⟩ := rdr_fields Try.underlying27 h
  simp only [csz.1] at h0 h1 h2
  obtain ⟨a, ha, c0⟩ := rt_int h0
  obtain ⟨b, hb, c1⟩ := rt_int h1
  obtain ⟨c, hc, c2⟩ := rt_int h2
  refine ⟨⟨a, b, c⟩, ⟨ha, hb, hc⟩, by rw [hl]; exact csz.2.2.2.2.1, fun o ho => ?_⟩
  rcases (show o = 0 ∨ o = 1 ∨ o = 2 by omega) with rfl | rfl | rfl
  · exact c0.sub (o := 0) (by omega)
  · exact c1.sub (o := 0) (by omega)
  · exact c2.sub (o := 0) (by omega)
structure Wid where
  z : Bool
  m : List Int
  p : Plc
structure Kno where
  z : Bool
  rz : Nat → Bool
  l : List (List Int)
  p : Plc
theorem rt_known {n : Nat} {cs : List Value} {y : DataW H × List MemPlace} (h : DataW.trod enc Try.prog w base (fun _ => true) held n 51 cs = some y) : ∃ x : Kno, (x.l.length ≤ 9223372036854775807 ∧ I64 x.p.r ∧ I64 x.p.c ∧ I64 x.p.a) ∧ CellsAre w cs 4 (ofL [aRows x.z false x.rz (fun _ => false) x.l, AI x.p.r, AI x.p.c, AI x.p.a]) := by
  obtain ⟨hl, ⟨_, _, h0⟩, ⟨_, _, h1⟩, _⟩ := rdr_fields Try.underlying51 h
  simp only [csz.2.2.1, csz.2.2.2.2.1] at h0 h1
  obtain ⟨z, rz, a, ha, c0⟩ := rt_rows h0
  obtain ⟨p, hp, c1⟩ := rt_place h1
  refine ⟨⟨z, rz, a, p⟩, ⟨ha, hp⟩, by rw [hl]; exact csz.2.2.2.2.2.2.1, fun o ho => ?_⟩
  rcases (show o = 0 ∨ o = 1 ∨ o = 2 ∨ o = 3 by omega) with rfl | rfl | rfl | rfl
  · exact c0.sub (o := 0) (by omega)
  · exact c1.sub (o := 0) (by omega)
  · exact c1.sub (o := 1) (by omega)
  · exact c1.sub (o := 2) (by omega)
end
end Go.Proofs.Ytlffjnmbpoemnaa
