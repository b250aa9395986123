/- From handed data to abstract values; from a reading of a law to what its row asks / Relay: how studios, answers, asks and eases read. / Relay: Copy. / Relay: the statement RelayUrgent. / Relay: the statement RelayBounded. / Relay: the statement RelayLater. -/
import Derived.Test.YtnghcfmloljagaaBa6
import Derived.Test.YtnghcfmloljagaaBa10
set_option linter.unusedSimpArgs false
set_option linter.unusedVariables false
namespace Go.Proofs.Ytnghcfmloljagaa
open Go.RowKit Go.ChangeShapes Go.WideShapes Go.Deep

def nobody : Nat → Prop := fun _ => False
/-- Cells that are as a table says. -/
def CellsAre (w : World) (cs : List Value) (sz : Nat) (c : Nat → AV) : Prop := cs.length = sz ∧ ∀ o, o < sz → ∃ u, cs[o]? = some u ∧ u.oneCell' = true ∧ rep nobody w (c o) g0 u
theorem law_calls {P : Program} {f : FuncId} {xs : List AV} (H : ACall P f xs [] (fun r h => r = .bool true ∧ h = [])) {w : World} {vs : Array Value} (hs : vs.size = xs.length) (hr : ∀ (i : Nat) (x : AV), xs[i]? = some x → rep nobody w x g0 (vs.getD i undef)) :
    Calls P f vs w fun e w' => e = .returned (.bool true) ∧ Ext w w' := by
  have noM : ∀ b, MM nobody g0 [] b → False := fun b hb => by
    rcases hb with hb | ⟨d, cap, ⟨x, hx, _⟩, _⟩
    · exact hb
    · simp at hx
  refine (H.2 nobody g0 w vs (HOK.nil w (fun _ h => h.elim)) hs fun i x hx => rep_mono (Chg.refl _ w) (fun b _ hb => (noM b hb).elim) _ (GM.le_refl _) (hr i x hx)).mono ?_
  rintro e w' ⟨v, r, h', g', rfl, T, hv, rfl, _⟩
  have : v = .bool true := hv
  subst this
  exact ⟨rfl, T.chg.os, T.chg.tape, T.chg.output, T.chg.size, fun b hb => T.chg.block b hb (fun hm => noM b (.inr hm))⟩
theorem CellsAre.agg {w : World} {cs : List Value} {sz : Nat} {c : Nat → AV} (h : CellsAre w cs sz c) : rep nobody w (.agg sz c) g0 (.agg cs.toArray) :=
  ⟨_, rfl, by simp [h.1], fun i hi => by obtain ⟨u, h1, h2, h3⟩ := h.2 i hi; exact ⟨u, by simpa using h1, h2, h3⟩⟩
theorem CellsAre.val {w : World} {v : Value} {cs : List Value} {c : Nat → AV} (h : CellsAre w cs 1 c) (hv : cs = [v]) : rep nobody w (c 0) g0 v := by
  subst hv
  obtain ⟨u, h1, _, h3⟩ := h.2 0 (by omega)
  simp at h1
  rw [h1]; exact h3
theorem CellsAre.sub {w : World} {cs : List Value} {off k : Nat} {c : Nat → AV} (h : CellsAre w ((cs.drop off).take k) k c) {o : Nat} (ho : o < k) : ∃ u, cs[off + o]? = some u ∧ u.oneCell' = true ∧ rep nobody w (c o) g0 u := by
  obtain ⟨u, h1, h2⟩ := h.2 o ho
  rw [List.getElem?_take] at h1
  simp only [ho, if_true, List.getElem?_drop] at h1
  exact ⟨u, h1, h2⟩
theorem CellsAre.one {w : World} {v : Value} {x : AV} (h1 : v.oneCell' = true) (h : rep nobody w x g0 v) : CellsAre w [v] 1 (fun _ => x) :=
  ⟨rfl, fun o ho => by obtain rfl : o = 0 := (by omega)
                       exact ⟨v, rfl, h1, h⟩⟩
section
variable {H : Type} {enc : TypeId × Value → H} {P : Program} {w : World} {base : Nat} {held : Bool}
theorem rdr_int {t : TypeId} {n : Nat} {cs : List Value} {y : DataW H × List MemPlace} (ht : P.underlying t = some (.int .i64)) (h : DataW.trod enc P w base (fun _ => true) held n t cs = some y) : ∃ i : Int, I64 i ∧ CellsAre w cs 1 (fun _ => .int .i64 i) := by
  obtain ⟨i, rfl, hi⟩ := rd_int ht h
  exact ⟨i, hi, .one rfl rfl⟩
theorem rdr_slice {α : Type} {t e : TypeId} {sz : Nat} (c : α → Nat → AV) (Q : α → Prop) (d : α) (ht : P.underlying t = some (.slice e)) (hc : P.cellsOf e = sz) (hsz : 0 < sz) (rd : ∀ {n : Nat} {cs : List Value} {y : DataW H × List MemPlace}, DataW.trod enc P w base (fun _ => true) held n e cs = some y → ∃ x, Q x ∧ CellsAre w cs sz (c x))
    {n : Nat} {cs : List Value} {y : DataW H × List MemPlace} (h : DataW.trod enc P w base (fun _ => true) held n t cs = some y) :
    ∃ (z : Bool) (l : List α), (l.length ≤ 9223372036854775807 ∧ ∀ x ∈ l, Q x) ∧ CellsAre w cs 1 (fun _ => .sl z false l.length sz (fun k => c (l.getD k d))) := by
  have hmx : maxLen = 9223372036854775807 := rfl
  have h' := h
  rcases open_slice ht h with ⟨rfl, _⟩ | ⟨a, len, cap, m, n', D, Pl, rfl, hb, hl, hm, hmm, _, hx⟩
  · refine ⟨true, [], ⟨by simp, fun x hx => by cases hx⟩, .one rfl ⟨none, 0, rfl, by simp, by simp, fun h => (by cases h), by simp, fun k hk => absurd hk (Nat.not_lt_zero k)⟩⟩
  · obtain ⟨A, len', cap', h0, hl', hn, hxx⟩ := rd_slice ht hc hsz h'
    injection h0 with e1 e2 e3
    subst e1; subst e2; subst e3
    have key : ∀ i, i < len → ∃ x : α, Q x ∧ ∃ b off, (some a : Option Addr) = some ⟨b, off, none⟩ ∧ b < w.heap.size ∧ ∀ o, o < sz → ∃ u, w.cell? ⟨b, off + i * sz + o, none⟩ = some u ∧ u.oneCell' = true ∧ rep nobody w (c x o) g0 u := fun i hi => by
      obtain ⟨b, off, m, cs, z, hA, hb, hlen, hcell, ht'⟩ := hxx i hi
      obtain ⟨x, hq, hcs⟩ := rd ht'
      refine ⟨x, hq, b, off, hA, hb, fun o ho => ?_⟩
      obtain ⟨u, h1, h2⟩ := hcs.2 o ho
      exact ⟨u, (hcell o ho).trans h1, h2⟩
    obtain ⟨f, hf⟩ : ∃ f : Nat → α, ∀ i, i < len → Q (f i) ∧ ∃ b off, (some a : Option Addr) = some ⟨b, off, none⟩ ∧ b < w.heap.size ∧ ∀ o, o < sz → ∃ u, w.cell? ⟨b, off + i * sz + o, none⟩ = some u ∧ u.oneCell' = true ∧ rep nobody w (c (f i) o) g0 u := by
      refine ⟨fun i => open Classical in if hi : i < len then (key i hi).choose else d, fun i hi => ?_⟩
      simp only [hi, dif_pos]
      exact (key i hi).choose_spec
    have hlen : ((List.range len).map f).length = len := by simp
    refine ⟨false, (List.range len).map f, ⟨by rw [hlen]; omega, fun x hx => ?_⟩, ?_⟩
    · obtain ⟨k, hk, rfl⟩ := List.mem_map.1 hx
      exact (hf k (by simpa using hk)).1
    · refine .one rfl ⟨some a, cap, by rw [hlen], by simp, by simp, fun h => (by cases h), by rw [hlen]; exact hl, fun k hk o ho => ?_⟩
      rw [hlen] at hk
      obtain ⟨_, b, off, h1, h2, h3⟩ := hf k hk
      obtain ⟨u, h4, h5, h6⟩ := h3 o ho
      have hg : ((List.range len).map f).getD k d = f k := by simp [List.getD, hk]
      exact ⟨b, off, u, h1, h2, fun h => h, h4, h5, by show rep nobody w (c (((List.range len).map f).getD k d) o) g0 u; rw [hg]; exact h6⟩
theorem rdr_field {t : TypeId} {fs : Array Field} {n : Nat} {cs : List Value} {y : DataW H × List MemPlace} (ht : P.underlying t = some (.struct fs)) (h : DataW.trod enc P w base (fun _ => true) held n t cs = some y) : cs.length = P.cellsOf t ∧ ∀ (k : Nat) (f : Field), fs[k]? = some f → ∃ m x, DataW.trod enc P w base (fun _ => true) held m f.type ((cs.drop f.offset).take (P.cellsOf f.type)) = some x := by
  obtain ⟨xs, m, _, rfl, hl, hlen, hf⟩ := DataW.trod_struct ht h
  refine ⟨hl, fun k f hk => ?_⟩
  have hk' : k < fs.size := by
    rcases Nat.lt_or_ge k fs.size with h | h
    · exact h
    · rw [Array.getElem?_eq_none h] at hk; cases hk
  have := hf k f hk
  rw [List.getElem?_eq_getElem (by omega)] at this
  exact ⟨m, _, this⟩
/-- Each field reads. -/
def FRd (enc : TypeId × Value → H) (P : Program) (w : World) (base : Nat) (held : Bool) (cs : List Value) : List Field → Prop
  | [] => True
  | f :: fs => (∃ m x, DataW.trod enc P w base (fun _ => true) held m f.type ((cs.drop f.offset).take (P.cellsOf f.type)) = some x) ∧ FRd enc P w base held cs fs
theorem FRd.of {cs : List Value} : ∀ {l : List Field}, (∀ f ∈ l, ∃ m x, DataW.trod enc P w base (fun _ => true) held m f.type ((cs.drop f.offset).take (P.cellsOf f.type)) = some x) → FRd enc P w base held cs l
  | [], _ => trivial
  | _ :: _, h => ⟨h _ List.mem_cons_self, FRd.of fun f hf => h f (List.mem_cons_of_mem _ hf)⟩
theorem rdr_fields {t : TypeId} {fs : Array Field} {n : Nat} {cs : List Value} {y : DataW H × List MemPlace} (ht : P.underlying t = some (.struct fs)) (h : DataW.trod enc P w base (fun _ => true) held n t cs = some y) : cs.length = P.cellsOf t ∧ FRd enc P w base held cs fs.toList := by
  obtain ⟨h1, h2⟩ := rdr_field ht h
  refine ⟨h1, FRd.of fun f hf => ?_⟩
  obtain ⟨k, hk, rfl⟩ := List.getElem_of_mem hf
  exact h2 k _ (by simp)
end
end Go.Proofs.Ytnghcfmloljagaa

namespace Go.Proofs.Ytnghcfmloljagaa
open Go.RowKit Go.ChangeShapes Go.WideShapes Go.Deep

theorem in64_anr {l : List Anr} (h : ∀ x ∈ l, I64 x.t ∧ I64 x.g) : ∀ c, c < l.length → in64 (l.getD c na).t ∧ in64 (l.getD c na).g := fun c hc => by
  have := h (l.getD c na) (by simp [List.getD, List.getElem?_eq_getElem hc])
  exact this
section
variable {H : Type} {enc : TypeId × Value → H} {w : World} {base : Nat} {held : Bool}
theorem csz : Try.prog.cellsOf 3 = 1 ∧ Try.prog.cellsOf 4 = 1 ∧ Try.prog.cellsOf 36 = 3 ∧ Try.prog.cellsOf 22 = 1 ∧ Try.prog.cellsOf 30 = 3 ∧ Try.prog.cellsOf 23 = 1 ∧ Try.prog.cellsOf 25 = 3 ∧ Try.prog.cellsOf 53 = 2 ∧ Try.prog.cellsOf 31 = 1 ∧ Try.prog.cellsOf 40 = 2 ∧ Try.prog.cellsOf 38 = 7 := by
  refine ⟨?_, ?_, ?_, ?_, ?_, ?_, ?_, ?_, ?_, ?_, ?_⟩ <;> kernel_rfl
theorem rt_int {n : Nat} {cs : List Value} {y : DataW H × List MemPlace} (h : DataW.trod enc Try.prog w base (fun _ => true) held n 3 cs = some y) : ∃ i : Int, I64 i ∧ CellsAre w cs 1 (fun _ => AI i) := rdr_int Try.underlying3 h
theorem rt_bool {n : Nat} {cs : List Value} {y : DataW H × List MemPlace} (h : DataW.trod enc Try.prog w base (fun _ => true) held n 4 cs = some y) : ∃ b : Bool, CellsAre w cs 1 (fun _ => .bool b) := by
  obtain ⟨b, rfl, _⟩ := DataW.trod_bool Try.underlying4 h
  exact ⟨b, .one rfl rfl⟩
theorem rt_signer {n : Nat} {cs : List Value} {y : DataW H × List MemPlace} (h : DataW.trod enc Try.prog w base (fun _ => true) held n 36 cs = some y) : ∃ x : Sgn, (I64 x.tongues ∧ I64 x.from_ ∧ I64 x.until_) ∧ CellsAre w cs 3 (cSgn x) := by
  obtain ⟨hl, ⟨_, _, h0⟩, ⟨_, _, h1⟩, ⟨_, _, h2⟩, _⟩ := rdr_fields Try.underlying36 h
  simp only [csz.1] at h0 h1 h2
  obtain ⟨a, ha, c0⟩ := rt_int h0
  obtain ⟨b, hb, c1⟩ := rt_int h1
  obtain ⟨c, hc, c2⟩ := rt_int h2
  refine ⟨⟨a, b, c⟩, ⟨ha, hb, hc⟩, by rw [hl]; exact csz.2.2.1, fun o ho => ?_⟩
  rcases (show o = 0 ∨ o = 1 ∨ o = 2 by omega) with rfl | rfl | rfl
  · exact c0.sub (o := 0) (by omega)
  · exact c1.sub (o := 0) (by omega)
  · exact c2.sub (o := 0) (by omega)
theorem rt_ring {n : Nat} {cs : List Value} {y : DataW H × List MemPlace} (h : DataW.trod enc Try.prog w base (fun _ => true) held n 30 cs = some y) : ∃ x : Rng, (I64 x.tongue ∧ I64 x.at_) ∧ CellsAre w cs 3 (cRng x) := by
  obtain ⟨hl, ⟨_, _, h0⟩, ⟨_, _, h1⟩, ⟨_, _, h2⟩, _⟩ := rdr_fields Try.underlying30 h
  simp only [csz.1, csz.2.1] at h0 h1 h2
  obtain ⟨a, ha, c0⟩ := rt_int h0
  obtain ⟨b, hb, c1⟩ := rt_int h1
  obtain ⟨c, c2⟩ := rt_bool h2
  refine ⟨⟨a, b, c⟩, ⟨ha, hb⟩, by rw [hl]; exact csz.2.2.2.2.1, fun o ho => ?_⟩
  rcases (show o = 0 ∨ o = 1 ∨ o = 2 by omega) with rfl | rfl | rfl
  · exact c0.sub (o := 0) (by omega)
  · exact c1.sub (o := 0) (by omega)
  · exact c2.sub (o := 0) (by omega)
theorem rt_answer {n : Nat} {cs : List Value} {y : DataW H × List MemPlace} (h : DataW.trod enc Try.prog w base (fun _ => true) held n 53 cs = some y) : ∃ x : Anr, (I64 x.t ∧ I64 x.g) ∧ CellsAre w cs 2 (cAn x) := by
  obtain ⟨hl, ⟨_, _, h0⟩, ⟨_, _, h1⟩, _⟩ := rdr_fields Try.underlying53 h
  simp only [csz.1] at h0 h1
  obtain ⟨a, ha, c0⟩ := rt_int h0
  obtain ⟨b, hb, c1⟩ := rt_int h1
  refine ⟨⟨a, b⟩, ⟨ha, hb⟩, by rw [hl]; exact csz.2.2.2.2.2.2.2.1, fun o ho => ?_⟩
  rcases (show o = 0 ∨ o = 1 by omega) with rfl | rfl
  · exact c0.sub (o := 0) (by omega)
  · exact c1.sub (o := 0) (by omega)
theorem rt_signers {n : Nat} {cs : List Value} {y : DataW H × List MemPlace} (h : DataW.trod enc Try.prog w base (fun _ => true) held n 22 cs = some y) : ∃ (z : Bool) (l : List Sgn), (l.length ≤ 9223372036854775807 ∧ ∀ x ∈ l, I64 x.tongues ∧ I64 x.from_ ∧ I64 x.until_) ∧ CellsAre w cs 1 (fun _ => aSgns z false l) :=
  rdr_slice cSgn (fun x => I64 x.tongues ∧ I64 x.from_ ∧ I64 x.until_) sg0 Try.underlying22 csz.2.2.1 (by omega) rt_signer h
theorem rt_rings {n : Nat} {cs : List Value} {y : DataW H × List MemPlace} (h : DataW.trod enc Try.prog w base (fun _ => true) held n 23 cs = some y) : ∃ (z : Bool) (l : List Rng), (l.length ≤ 9223372036854775807 ∧ ∀ x ∈ l, I64 x.tongue ∧ I64 x.at_) ∧ CellsAre w cs 1 (fun _ => aRngs z false l) :=
  rdr_slice cRng (fun x => I64 x.tongue ∧ I64 x.at_) rg0 Try.underlying23 csz.2.2.2.2.1 (by omega) rt_ring h
theorem rt_answers {n : Nat} {cs : List Value} {y : DataW H × List MemPlace} (h : DataW.trod enc Try.prog w base (fun _ => true) held n 31 cs = some y) : ∃ (z : Bool) (l : List Anr), (l.length ≤ 9223372036854775807 ∧ ∀ x ∈ l, I64 x.t ∧ I64 x.g) ∧ CellsAre w cs 1 (fun _ => aAns z false l) :=
  rdr_slice cAn (fun x => I64 x.t ∧ I64 x.g) na Try.underlying31 csz.2.2.2.2.2.2.2.1 (by omega) rt_answer h
theorem rt_studio {n : Nat} {cs : List Value} {y : DataW H × List MemPlace} (h : DataW.trod enc Try.prog w base (fun _ => true) held n 25 cs = some y) : ∃ (f : StF) (s : Std), Mach s ∧ CellsAre w cs 3 (cStd f s) := by
  obtain ⟨hl, ⟨_, _, h0⟩, ⟨_, _, h1⟩, ⟨_, _, h2⟩, _⟩ := rdr_fields Try.underlying25 h
  simp only [csz.1, csz.2.2.2.1, csz.2.2.2.2.2.1] at h0 h1 h2
  obtain ⟨a, _, c0⟩ := rt_int h0
  obtain ⟨z1, b, ⟨hb, _⟩, c1⟩ := rt_signers h1
  obtain ⟨z2, c, ⟨hc, _⟩, c2⟩ := rt_rings h2
  refine ⟨⟨z1, false, z2, false⟩, ⟨a, b, c⟩, ⟨hb, hc⟩, by rw [hl]; exact csz.2.2.2.2.2.2.1, fun o ho => ?_⟩
  rcases (show o = 0 ∨ o = 1 ∨ o = 2 by omega) with rfl | rfl | rfl
  · exact c0.sub (o := 0) (by omega)
  · exact c1.sub (o := 0) (by omega)
  · exact c2.sub (o := 0) (by omega)
theorem rt_ask {n : Nat} {cs : List Value} {y : DataW H × List MemPlace} (h : DataW.trod enc Try.prog w base (fun _ => true) held n 40 cs = some y) : ∃ x : Int × Bool, I64 x.1 ∧ CellsAre w cs 2 (ofL [AI x.1, .bool x.2]) := by
  obtain ⟨hl, ⟨_, _, h0⟩, ⟨_, _, h1⟩, _⟩ := rdr_fields Try.underlying40 h
  simp only [csz.1, csz.2.1] at h0 h1
  obtain ⟨a, ha, c0⟩ := rt_int h0
  obtain ⟨b, c1⟩ := rt_bool h1
  refine ⟨(a, b), ha, by rw [hl]; exact csz.2.2.2.2.2.2.2.2.2.1, fun o ho => ?_⟩
  rcases (show o = 0 ∨ o = 1 by omega) with rfl | rfl
  · exact c0.sub (o := 0) (by omega)
  · exact c1.sub (o := 0) (by omega)
structure EaseT where
  sg : Int
  t : Int
  b : Int
  l : Int
  m : Sgn
theorem rt_ease {n : Nat} {cs : List Value} {y : DataW H × List MemPlace} (h : DataW.trod enc Try.prog w base (fun _ => true) held n 38 cs = some y) : ∃ x : EaseT, True ∧ CellsAre w cs 7 (ofL [AI x.sg, AI x.t, AI x.b, AI x.l, AI x.m.tongues, AI x.m.from_, AI x.m.until_]) := by
  obtain ⟨hl, ⟨_, _, h0⟩, ⟨_, _, h1⟩, ⟨_, _, h2⟩, ⟨_, _, h3⟩, ⟨_, _, h4⟩, _⟩ := rdr_fields Try.underlying38 h
  simp only [csz.1, csz.2.2.1] at h0 h1 h2 h3 h4
  obtain ⟨a, _, c0⟩ := rt_int h0
  obtain ⟨b, _, c1⟩ := rt_int h1
  obtain ⟨c, _, c2⟩ := rt_int h2
  obtain ⟨d, _, c3⟩ := rt_int h3
  obtain ⟨m, _, c4⟩ := rt_signer h4
  refine ⟨⟨a, b, c, d, m⟩, trivial, by rw [hl]; exact csz.2.2.2.2.2.2.2.2.2.2, fun o ho => ?_⟩
  rcases (show o = 0 ∨ o = 1 ∨ o = 2 ∨ o = 3 ∨ o = 4 ∨ o = 5 ∨ o = 6 by omega) with rfl | rfl | rfl | rfl | rfl | rfl | rfl
  · exact c0.sub (o := 0) (by omega)
  · exact c1.sub (o := 0) (by omega)
  · exact c2.sub (o := 0) (by omega)
  · exact c3.sub (o := 0) (by omega)
  · exact c4.sub (o := 0) (by omega)
  · exact c4.sub (o := 1) (by omega)
  · exact c4.sub (o := 2) (by omega)
end
end Go.Proofs.Ytnghcfmloljagaa

namespace Go.Proofs.Ytnghcfmloljagaa
open Go.RowKit

/-- The flags of a copy. -/
def flC (s : Std) : StF := ⟨false, decide (s.sg.length = 0), false, decide (s.rg.length = 0)⟩
set_option maxHeartbeats 4000000
set_option maxRecDepth 100000
theorem copy_ab (f : StF) (s : Std) (ha : 0 < s.sg.length ∧ s.sg.length ≤ 1000) (hb : 0 < s.rg.length ∧ s.rg.length ≤ 1000) : ACall Try.prog 15 [aStd f s] [] (fun v h => v = .agg 3 (ofL [AI s.times, .own 0 s.sg.length, .own 1 s.rg.length]) ∧ h = [rowG s.sg.length s.sg, rowR s.rg.length s.rg]) := by
  obtain ⟨a, hA⟩ : ∃ a, s.sg.length = a + 1 := ⟨s.sg.length - 1, by omega⟩
  obtain ⟨b, hB⟩ : ∃ b, s.rg.length = b + 1 := ⟨s.rg.length - 1, by omega⟩
  (refine fcall_of mixed Try.func15 rfl (by decide) (hs := { ord := [(1, [(0, []), (1, []), (2, []), (3, []), (4, []), (6, []), (7, []), (8, []), (5, [1, 8]), (9, [1]), (10, []), (11, [])])] }) ?k (ac := ?ac) ?c (rs := ?rs) ?r ?l ?H; (case k => kernel_rfl); (case c => (conv => (lhs; cbv))); (case r => (conv => (lhs; cbv))); (case l => exact Nat.le_of_ble_eq_true rfl))
  (repeat' ((try (conv => whnf)); first | (with_reducible first | refine FCond.tA ?_ | refine FCond.fA ?_) | ((with_reducible refine FCond.i (fun hq => ?_) (fun hq => ?_)) <;> (try simp only [zA, zE, zD, zJ, zB, zI, Int.not_le, Int.not_lt] at hq)) | (with_reducible first | refine Fits.in64 (by omega) ?_ | refine FIdx.nat (by omega) ?_ | refine FIdx.int (by omega) ?_ | refine FTo.nat (by omega) ?_ | refine FTo.int (by omega) ?_) | ((with_reducible refine Need.mk ?_ ?_); focus exact needA) | (with_reducible refine FApp.grow ?_) | (with_reducible refine FOr.pub ?_)))
  (try (conv => whnf))
  rw [hA]
  (repeat' ((try (conv => whnf)); first | (with_reducible first | refine FCond.tA ?_ | refine FCond.fA ?_) | ((with_reducible refine FCond.i (fun hq => ?_) (fun hq => ?_)) <;> (try simp only [zA, zE, zD, zJ, zB, zI, Int.not_le, Int.not_lt] at hq)) | (with_reducible first | refine Fits.in64 (by omega) ?_ | refine FIdx.nat (by omega) ?_ | refine FIdx.int (by omega) ?_ | refine FTo.nat (by omega) ?_ | refine FTo.int (by omega) ?_) | ((with_reducible refine Need.mk ?_ ?_); focus exact needA) | (with_reducible refine FApp.grow ?_) | (with_reducible refine FOr.pub ?_)))
  (try (conv => whnf))
  rw [hB]
  (repeat' ((try (conv => whnf)); first | (with_reducible first | refine FCond.tA ?_ | refine FCond.fA ?_) | ((with_reducible refine FCond.i (fun hq => ?_) (fun hq => ?_)) <;> (try simp only [zA, zE, zD, zJ, zB, zI, Int.not_le, Int.not_lt] at hq)) | (with_reducible first | refine Fits.in64 (by omega) ?_ | refine FIdx.nat (by omega) ?_ | refine FIdx.int (by omega) ?_ | refine FTo.nat (by omega) ?_ | refine FTo.int (by omega) ?_) | ((with_reducible refine Need.mk ?_ ?_); focus exact needA) | (with_reducible refine FApp.grow ?_) | (with_reducible refine FOr.pub ?_)))
  (try (conv => whnf))
  refine ⟨⟨.agg 3 (ofL [AI s.times, .own 0 (a + 1), .own 1 (b + 1)]), [rowG (a + 1) s.sg, rowR (b + 1) s.rg], [2, 3], ?_, Ln.aggN ⟨⟨⟨True.intro, Ln.A⟩, Ln.ownE rfl (by omega)⟩, Ln.ownE rfl (by omega)⟩, rfl, rfl⟩⟩
  exact Cut.of (Nat.le_of_ble_eq_true rfl) rfl rfl (CutL.turned rfl (LnB.rowE (by omega) fun k hk o ho => by simp [appc]) (CutL.turned rfl (LnB.rowE (by omega) fun k hk o ho => by simp [appc]) CutL.done))
theorem copy_a0 (f : StF) (s : Std) (ha : 0 < s.sg.length ∧ s.sg.length ≤ 1000) (hb : s.rg.length = 0) : ACall Try.prog 15 [aStd f s] [] (fun v h => v = .agg 3 (ofL [AI s.times, .own 0 s.sg.length, aRngs false true []]) ∧ h = [rowG s.sg.length s.sg]) := by
  obtain ⟨a, hA⟩ : ∃ a, s.sg.length = a + 1 := ⟨s.sg.length - 1, by omega⟩
  have hB := hb
  (refine fcall_of mixed Try.func15 rfl (by decide) (hs := { ord := [(1, [(0, []), (1, []), (2, []), (3, []), (4, []), (6, []), (7, []), (8, []), (5, [1, 8]), (9, [1]), (10, []), (11, [])])] }) ?k (ac := ?ac) ?c (rs := ?rs) ?r ?l ?H; (case k => kernel_rfl); (case c => (conv => (lhs; cbv))); (case r => (conv => (lhs; cbv))); (case l => exact Nat.le_of_ble_eq_true rfl))
  (repeat' ((try (conv => whnf)); first | (with_reducible first | refine FCond.tA ?_ | refine FCond.fA ?_) | ((with_reducible refine FCond.i (fun hq => ?_) (fun hq => ?_)) <;> (try simp only [zA, zE, zD, zJ, zB, zI, Int.not_le, Int.not_lt] at hq)) | (with_reducible first | refine Fits.in64 (by omega) ?_ | refine FIdx.nat (by omega) ?_ | refine FIdx.int (by omega) ?_ | refine FTo.nat (by omega) ?_ | refine FTo.int (by omega) ?_) | ((with_reducible refine Need.mk ?_ ?_); focus exact needA) | (with_reducible refine FApp.grow ?_) | (with_reducible refine FOr.pub ?_)))
  (try (conv => whnf))
  rw [hA]
  (repeat' ((try (conv => whnf)); first | (with_reducible first | refine FCond.tA ?_ | refine FCond.fA ?_) | ((with_reducible refine FCond.i (fun hq => ?_) (fun hq => ?_)) <;> (try simp only [zA, zE, zD, zJ, zB, zI, Int.not_le, Int.not_lt] at hq)) | (with_reducible first | refine Fits.in64 (by omega) ?_ | refine FIdx.nat (by omega) ?_ | refine FIdx.int (by omega) ?_ | refine FTo.nat (by omega) ?_ | refine FTo.int (by omega) ?_) | ((with_reducible refine Need.mk ?_ ?_); focus exact needA) | (with_reducible refine FApp.grow ?_) | (with_reducible refine FOr.pub ?_)))
  (try (conv => whnf))
  rw [hB]
  (repeat' ((try (conv => whnf)); first | (with_reducible first | refine FCond.tA ?_ | refine FCond.fA ?_) | ((with_reducible refine FCond.i (fun hq => ?_) (fun hq => ?_)) <;> (try simp only [zA, zE, zD, zJ, zB, zI, Int.not_le, Int.not_lt] at hq)) | (with_reducible first | refine Fits.in64 (by omega) ?_ | refine FIdx.nat (by omega) ?_ | refine FIdx.int (by omega) ?_ | refine FTo.nat (by omega) ?_ | refine FTo.int (by omega) ?_) | ((with_reducible refine Need.mk ?_ ?_); focus exact needA) | (with_reducible refine FApp.grow ?_) | (with_reducible refine FOr.pub ?_)))
  (try (conv => whnf))
  refine ⟨⟨.agg 3 (ofL [AI s.times, .own 0 (a + 1), aRngs false true []]), [rowG (a + 1) s.sg], [2], ?_, Ln.aggN ⟨⟨⟨True.intro, Ln.A⟩, Ln.ownE rfl (by omega)⟩, Ln.slz _ _ _ _ _ _ _ (by decide)⟩, rfl, rfl⟩⟩
  exact Cut.of (Nat.le_of_ble_eq_true rfl) rfl rfl (CutL.turned rfl (LnB.rowE (by omega) fun k hk o ho => by simp [appc]) CutL.done)
theorem copy_0b (f : StF) (s : Std) (ha : s.sg.length = 0) (hb : 0 < s.rg.length ∧ s.rg.length ≤ 1000) : ACall Try.prog 15 [aStd f s] [] (fun v h => v = aStd (flC s) s ∧ h = []) := by
  have hA := ha
  obtain ⟨b, hB⟩ : ∃ b, s.rg.length = b + 1 := ⟨s.rg.length - 1, by omega⟩
  (refine fcall_of mixed Try.func15 rfl (by decide) (hs := { ord := [(1, [(0, []), (1, []), (2, []), (3, []), (4, []), (6, []), (7, []), (8, []), (5, [1, 8]), (9, [1]), (10, []), (11, [])])] }) ?k (ac := ?ac) ?c (rs := ?rs) ?r ?l ?H; (case k => kernel_rfl); (case c => (conv => (lhs; cbv))); (case r => (conv => (lhs; cbv))); (case l => exact Nat.le_of_ble_eq_true rfl))
  (repeat' ((try (conv => whnf)); first | (with_reducible first | refine FCond.tA ?_ | refine FCond.fA ?_) | ((with_reducible refine FCond.i (fun hq => ?_) (fun hq => ?_)) <;> (try simp only [zA, zE, zD, zJ, zB, zI, Int.not_le, Int.not_lt] at hq)) | (with_reducible first | refine Fits.in64 (by omega) ?_ | refine FIdx.nat (by omega) ?_ | refine FIdx.int (by omega) ?_ | refine FTo.nat (by omega) ?_ | refine FTo.int (by omega) ?_) | ((with_reducible refine Need.mk ?_ ?_); focus exact needA) | (with_reducible refine FApp.grow ?_) | (with_reducible refine FOr.pub ?_)))
  (try (conv => whnf))
  rw [hA]
  (repeat' ((try (conv => whnf)); first | (with_reducible first | refine FCond.tA ?_ | refine FCond.fA ?_) | ((with_reducible refine FCond.i (fun hq => ?_) (fun hq => ?_)) <;> (try simp only [zA, zE, zD, zJ, zB, zI, Int.not_le, Int.not_lt] at hq)) | (with_reducible first | refine Fits.in64 (by omega) ?_ | refine FIdx.nat (by omega) ?_ | refine FIdx.int (by omega) ?_ | refine FTo.nat (by omega) ?_ | refine FTo.int (by omega) ?_) | ((with_reducible refine Need.mk ?_ ?_); focus exact needA) | (with_reducible refine FApp.grow ?_) | (with_reducible refine FOr.pub ?_)))
  (try (conv => whnf))
  rw [hB]
  (repeat' ((try (conv => whnf)); first | (with_reducible first | refine FCond.tA ?_ | refine FCond.fA ?_) | ((with_reducible refine FCond.i (fun hq => ?_) (fun hq => ?_)) <;> (try simp only [zA, zE, zD, zJ, zB, zI, Int.not_le, Int.not_lt] at hq)) | (with_reducible first | refine Fits.in64 (by omega) ?_ | refine FIdx.nat (by omega) ?_ | refine FIdx.int (by omega) ?_ | refine FTo.nat (by omega) ?_ | refine FTo.int (by omega) ?_) | ((with_reducible refine Need.mk ?_ ?_); focus exact needA) | (with_reducible refine FApp.grow ?_) | (with_reducible refine FOr.pub ?_)))
  (try (conv => whnf))
  refine ⟨⟨aStd (flC s) s, [], [], Cut.nil _, Ln.aggN ⟨⟨⟨True.intro, Ln.A⟩, Ln.slZ ha⟩, ?_⟩, rfl, rfl⟩⟩
  refine Ln.pubD (by omega) (goneB rfl) rfl (by omega) (by omega) (fun k hk o ho => ?_)
  simp [appc]
theorem copy_00 (f : StF) (s : Std) (ha : s.sg.length = 0) (hb : s.rg.length = 0) : ACall Try.prog 15 [aStd f s] [] (fun v h => v = aStd (flC s) s ∧ h = []) := by
  have hA := ha
  have hB := hb
  (refine fcall_of mixed Try.func15 rfl (by decide) (hs := { ord := [(1, [(0, []), (1, []), (2, []), (3, []), (4, []), (6, []), (7, []), (8, []), (5, [1, 8]), (9, [1]), (10, []), (11, [])])] }) ?k (ac := ?ac) ?c (rs := ?rs) ?r ?l ?H; (case k => kernel_rfl); (case c => (conv => (lhs; cbv))); (case r => (conv => (lhs; cbv))); (case l => exact Nat.le_of_ble_eq_true rfl))
  (repeat' ((try (conv => whnf)); first | (with_reducible first | refine FCond.tA ?_ | refine FCond.fA ?_) | ((with_reducible refine FCond.i (fun hq => ?_) (fun hq => ?_)) <;> (try simp only [zA, zE, zD, zJ, zB, zI, Int.not_le, Int.not_lt] at hq)) | (with_reducible first | refine Fits.in64 (by omega) ?_ | refine FIdx.nat (by omega) ?_ | refine FIdx.int (by omega) ?_ | refine FTo.nat (by omega) ?_ | refine FTo.int (by omega) ?_) | ((with_reducible refine Need.mk ?_ ?_); focus exact needA) | (with_reducible refine FApp.grow ?_) | (with_reducible refine FOr.pub ?_)))
  (try (conv => whnf))
  rw [hA]
  (repeat' ((try (conv => whnf)); first | (with_reducible first | refine FCond.tA ?_ | refine FCond.fA ?_) | ((with_reducible refine FCond.i (fun hq => ?_) (fun hq => ?_)) <;> (try simp only [zA, zE, zD, zJ, zB, zI, Int.not_le, Int.not_lt] at hq)) | (with_reducible first | refine Fits.in64 (by omega) ?_ | refine FIdx.nat (by omega) ?_ | refine FIdx.int (by omega) ?_ | refine FTo.nat (by omega) ?_ | refine FTo.int (by omega) ?_) | ((with_reducible refine Need.mk ?_ ?_); focus exact needA) | (with_reducible refine FApp.grow ?_) | (with_reducible refine FOr.pub ?_)))
  (try (conv => whnf))
  rw [hB]
  (repeat' ((try (conv => whnf)); first | (with_reducible first | refine FCond.tA ?_ | refine FCond.fA ?_) | ((with_reducible refine FCond.i (fun hq => ?_) (fun hq => ?_)) <;> (try simp only [zA, zE, zD, zJ, zB, zI, Int.not_le, Int.not_lt] at hq)) | (with_reducible first | refine Fits.in64 (by omega) ?_ | refine FIdx.nat (by omega) ?_ | refine FIdx.int (by omega) ?_ | refine FTo.nat (by omega) ?_ | refine FTo.int (by omega) ?_) | ((with_reducible refine Need.mk ?_ ?_); focus exact needA) | (with_reducible refine FApp.grow ?_) | (with_reducible refine FOr.pub ?_)))
  (try (conv => whnf))
  exact ⟨⟨aStd (flC s) s, [], [], Cut.nil _, Ln.aggN ⟨⟨⟨True.intro, Ln.A⟩, Ln.slZ ha⟩, Ln.slZ hb⟩, rfl, rfl⟩⟩
/-- The copy is a studio like the first one. -/
theorem copy_ok (f : StF) (s : Std) (hn : NearS s) : ACall Try.prog 15 [aStd f s] [] (fun v h => v = aStd (flC s) s ∧ h = []) := by
  have h1 := hn.n
  have h2 := hn.c
  rcases Nat.eq_zero_or_pos s.sg.length with ha | ha <;> rcases Nat.eq_zero_or_pos s.rg.length with hb | hb
  · exact copy_00 f s ha hb
  · exact copy_0b f s ha ⟨hb, h2⟩
  · refine ACall.wk (ACall.mono' _ ?_ (copy_a0 f s ⟨ha, h1⟩ hb))
    rintro _ _ ⟨rfl, rfl⟩
    exact ⟨_, [], [], Cut.nil _, Ln.aggN ⟨⟨⟨True.intro, Ln.A⟩, Ln.pubD ha (goneB rfl) rfl (Nat.le_refl _) rfl (fun _ _ _ _ => rfl)⟩, Ln.slZ hb⟩, rfl, rfl⟩
  · refine ACall.wk (ACall.mono' _ ?_ (copy_ab f s ⟨ha, h1⟩ ⟨hb, h2⟩))
    rintro _ _ ⟨rfl, rfl⟩
    exact ⟨_, [], [], Cut.nil _, Ln.aggN ⟨⟨⟨True.intro, Ln.A⟩, Ln.pubD ha (goneB rfl) rfl (Nat.le_refl _) rfl (fun _ _ _ _ => rfl)⟩, Ln.pubD hb (goneB rfl) rfl (Nat.le_refl _) rfl (fun _ _ _ _ => rfl)⟩, rfl, rfl⟩
end Go.Proofs.Ytnghcfmloljagaa

namespace Go.Proofs.Ytnghcfmloljagaa
open Go.RowKit

def oR (d : Nat) : List Rng → AV
  | [] => nilS
  | _ :: xs => .own d (xs.length + 1)
def hR (a b : AB) : List Rng → List AB
  | [] => [a, b]
  | x :: xs => [a, b, rowR (xs.length + 1) (x :: xs)]
theorem LnB.snocR {σ : Nat → Nat → Prop} {Bp : Nat → Prop} {H : List AB} {x r : Rng} {xs : List Rng} {z : Nat → Nat → AV} : LnB σ Bp H (.row (xs.length + 1 + 1) 3 (appc (xs.length + 1) (fun k => cRng ((x :: xs).getD k rg0)) (bslC z [(0, aRng r)]))) (rowR ((xs ++ [r]).length + 1) (x :: (xs ++ [r]))) := by
  refine LnB.rowE (by simp) fun k hk o ho => ?_
  have := wr_row (l := x :: xs) (r := r) (c := fun k => cRng ((x :: xs).getD k rg0)) (z := z) (fun _ _ _ _ => rfl) k (by simp at hk ⊢; omega) o ho
  exact this
theorem keepR_len (L : List Rng) (j : Nat) : (keepR L j).length ≤ j := by
  unfold keepR
  exact Nat.le_trans (List.length_filter_le _ _) (by simp; omega)
set_option maxHeartbeats 8000000
set_option maxRecDepth 100000
theorem urgentL_any (f : StF) (s : Std) (hM : Mach s) : ACall Try.prog 3 [aStd f s] [] (fun v h => v = .bool true ∧ h = []) := by
  have cV := valid_ok f s hM.n hM.c
  (refine fcall_of mixed Try.func3 rfl (by decide) (hs := { pub := [10] }) ?k (ac := ?ac) ?c (rs := ?rs) ?r ?l ?H; (case k => kernel_rfl); (case c => (conv => (lhs; cbv))); (case r => (conv => (lhs; cbv))); (case l => exact Nat.le_of_ble_eq_true rfl))
  cases hv : validS s
  · rw [hv] at cV
    (repeat' ((try (conv => whnf)); first | (with_reducible first | refine FCond.tA ?_ | refine FCond.fA ?_) | ((with_reducible refine FCond.i (fun hq => ?_) (fun hq => ?_)) <;> (try simp only [zA, zE, zD, zJ, zB, zI, Int.not_le, Int.not_lt] at hq)) | (with_reducible first | refine Fits.in64 (by omega) ?_ | refine FIdx.nat (by omega) ?_ | refine FIdx.int (by omega) ?_ | refine FTo.nat (by omega) ?_ | refine FTo.int (by omega) ?_) | ((with_reducible refine Need.mk ?_ ?_); focus exact needA) | (with_reducible refine FApp.grow ?_) | (refine FCall.pure (cV) ⟨Ln.sameB _ rfl, True.intro⟩ rfl ?_) | (refine FCall.pure works_ok True.intro rfl ?_) | (with_reducible refine FOr.pub ?_)))
    all_goals (try (conv => whnf))
    all_goals ((refine ⟨⟨_, [], [], Cut.nil _, Ln.sameB _ rfl, ?_, rfl⟩⟩); rfl)
  · rw [hv] at cV
    obtain ⟨hf, hk⟩ := valid_d hv
    have hn := near_of hf
    have hs := std_d hk
    have hka := al_ok hk
    have hna : NearS (al s) := ⟨hn.n, Nat.le_trans (List.length_filter_le _ _) hn.c⟩
    have cP := plan_yes f s hn hk
    have c12 : s.rg.length ≤ 12 := hs.c12
    have hbe := best_alone s
    have e1 : (bestW (al s)).u = (bestW s).u := by rw [hbe]
    have e2 : (bestW (al s)).o = 0 := by rw [hbe]
    (repeat' ((try (conv => whnf)); first | (with_reducible first | refine FCond.tA ?_ | refine FCond.fA ?_) | ((with_reducible refine FCond.i (fun hq => ?_) (fun hq => ?_)) <;> (try simp only [zA, zE, zD, zJ, zB, zI, Int.not_le, Int.not_lt] at hq)) | (with_reducible first | refine Fits.in64 (by omega) ?_ | refine FIdx.nat (by omega) ?_ | refine FIdx.int (by omega) ?_ | refine FTo.nat (by omega) ?_ | refine FTo.int (by omega) ?_) | ((with_reducible refine Need.mk ?_ ?_); focus exact needA) | (with_reducible refine FApp.grow ?_) | (refine FCall.pure (cV) ⟨Ln.sameB _ rfl, True.intro⟩ rfl ?_) | (refine FCall.pure ((copy_ok f s hn)) ⟨Ln.sameB _ rfl, True.intro⟩ rfl ?_) | (with_reducible refine FOr.pub ?_)))
    all_goals (try (conv => whnf))
    refine FLoop.of (ACalls.mono _) (X := Nat × List Rng) (fun x => [(1, .ptr 0 0), (3, .ptr 1 0), (4, AI x.1)]) (fun x => hR (.box 3 (cStd f s)) (.box 3 (ofL [AI s.times, aSgns (flC s).zs (flC s).es s.sg, oR 2 x.2])) x.2) (fun x => x.1 ≤ s.rg.length ∧ x.2 = keepR s.rg x.1) (fun x => s.rg.length - x.1) (0, []) ⟨⟨Nat.zero_le _, rfl⟩, [0, 1], Cut.A, allA⟩ ?_
    rintro ⟨i, l⟩ ⟨hi, hl⟩
    simp only at hi hl
    by_cases hlt : i < s.rg.length
    · have hst := keepR_step hlt
      rw [← hl] at hst
      have hll := keepR_len s.rg i
      rw [← hl] at hll
      cases hu : (s.rg.getD i rg0).urg
      · rw [hu, if_neg (by decide)] at hst
        rcases l with _ | ⟨x, xs⟩
        · (repeat' ((try (conv => whnf)); first | (with_reducible first | refine FCond.tA ?_ | refine FCond.fA ?_) | ((with_reducible refine FCond.i (fun hq => ?_) (fun hq => ?_)) <;> (try simp only [zA, zE, zD, zJ, zB, zI, Int.not_le, Int.not_lt] at hq)) | (with_reducible first | refine Fits.in64 (by omega) ?_ | refine FIdx.nat (by omega) ?_ | refine FIdx.int (by omega) ?_ | refine FTo.nat (by omega) ?_ | refine FTo.int (by omega) ?_) | ((with_reducible refine Need.mk ?_ ?_); focus exact needA) | (with_reducible refine FApp.grow ?_) | (with_reducible refine FOr.pub ?_)))
          all_goals (try (conv => whnf))
          (exact ⟨⟨(i + 1, []), ⟨hlt, hst.symm⟩, by show _ < _; simp only; omega, [0, 1], Cut.A, allA⟩⟩)
        · (repeat' ((try (conv => whnf)); first | (with_reducible first | refine FCond.tA ?_ | refine FCond.fA ?_) | ((with_reducible refine FCond.i (fun hq => ?_) (fun hq => ?_)) <;> (try simp only [zA, zE, zD, zJ, zB, zI, Int.not_le, Int.not_lt] at hq)) | (with_reducible first | refine Fits.in64 (by omega) ?_ | refine FIdx.nat (by omega) ?_ | refine FIdx.int (by omega) ?_ | refine FTo.nat (by omega) ?_ | refine FTo.int (by omega) ?_) | ((with_reducible refine Need.mk ?_ ?_); focus exact needA) | (with_reducible refine FApp.grow ?_) | (with_reducible refine FOr.pub ?_)))
          all_goals (try (conv => whnf))
          (exact ⟨⟨(i + 1, x :: xs), ⟨hlt, hst.symm⟩, by show _ < _; simp only; omega, [0, 1, 2], Cut.A, allA⟩⟩)
      · rw [hu, if_pos rfl] at hst
        rcases l with _ | ⟨x, xs⟩
        · (repeat' ((try (conv => whnf)); first | (with_reducible first | refine FCond.tA ?_ | refine FCond.fA ?_) | ((with_reducible refine FCond.i (fun hq => ?_) (fun hq => ?_)) <;> (try simp only [zA, zE, zD, zJ, zB, zI, Int.not_le, Int.not_lt] at hq)) | (with_reducible first | refine Fits.in64 (by omega) ?_ | refine FIdx.nat (by omega) ?_ | refine FIdx.int (by omega) ?_ | refine FTo.nat (by omega) ?_ | refine FTo.int (by omega) ?_) | ((with_reducible refine Need.mk ?_ ?_); focus exact needA) | (with_reducible refine FApp.grow ?_) | (with_reducible refine FOr.pub ?_)))
          all_goals (try (conv => whnf))
          (exact ⟨⟨(i + 1, [s.rg.getD i rg0]), ⟨hlt, hst.symm⟩, by show _ < _; simp only; omega, [0, 1, 2], (by (refine Cut.of (Nat.le_of_ble_eq_true rfl) rfl rfl ?_; repeat (first | exact CutL.done | (refine CutL.turned rfl (by first | exact LnB.rowS | exact LnB.app (fun k hk => absurd hk (Nat.not_lt_zero k)) (fun o ho => rfl) | exact LnB.A) ?_) | (refine CutL.gone (Nat.lt_of_lt_of_le (Nat.lt_succ_self _) (Nat.le_of_ble_eq_true rfl)) ?_)))), allA⟩⟩)
        · simp only [List.length_cons] at hll
          (repeat' ((try (conv => whnf)); first | (with_reducible first | refine FCond.tA ?_ | refine FCond.fA ?_) | ((with_reducible refine FCond.i (fun hq => ?_) (fun hq => ?_)) <;> (try simp only [zA, zE, zD, zJ, zB, zI, Int.not_le, Int.not_lt] at hq)) | (with_reducible first | refine Fits.in64 (by omega) ?_ | refine FIdx.nat (by omega) ?_ | refine FIdx.int (by omega) ?_ | refine FTo.nat (by omega) ?_ | refine FTo.int (by omega) ?_) | ((with_reducible refine Need.mk ?_ ?_); focus exact needA) | (with_reducible refine FApp.grow ?_) | (with_reducible refine FOr.pub ?_)))
          all_goals (try (conv => whnf))
          exact ⟨⟨(i + 1, x :: (xs ++ [s.rg.getD i rg0])), ⟨hlt, hst.symm⟩, by show _ < _; simp only; omega, [0, 1, 3], Cut.of (Nat.le_of_ble_eq_true rfl) rfl rfl (CutL.turned rfl LnB.A (CutL.turned rfl (LnB.boxN ⟨⟨⟨True.intro, Ln.A⟩, Ln.A⟩, Ln.ownE rfl (by simp)⟩) (CutL.turned rfl LnB.snocR CutL.done))), allA⟩⟩
    · obtain rfl : i = s.rg.length := by omega
      have hla : l = (al s).rg := by rw [hl, keepR_all]; rfl
      rcases l with _ | ⟨x, xs⟩
      · have cQ := plan_yes ⟨false, (flC s).es, true, true⟩ (al s) hna hka
        rw [e1, e2] at cQ
        have hl0 : (al s).rg = [] := hla.symm
        (repeat' ((try (conv => whnf)); first | (with_reducible first | refine FCond.tA ?_ | refine FCond.fA ?_) | ((with_reducible refine FCond.i (fun hq => ?_) (fun hq => ?_)) <;> (try simp only [zA, zE, zD, zJ, zB, zI, Int.not_le, Int.not_lt] at hq)) | (with_reducible first | refine Fits.in64 (by omega) ?_ | refine FIdx.nat (by omega) ?_ | refine FIdx.int (by omega) ?_ | refine FTo.nat (by omega) ?_ | refine FTo.int (by omega) ?_) | ((with_reducible refine Need.mk ?_ ?_); focus exact needA) | (with_reducible refine FApp.grow ?_) | (with_reducible refine FOr.pub ?_)))
        all_goals (try (conv => whnf))
        refine FWk.of [(1, .ptr 0 0), (3, .ptr 1 0)] [.box 3 (cStd f s), .box 3 (cStd ⟨false, (flC s).es, true, true⟩ (al s))] [0, 1] (Cut.of (Nat.le_of_ble_eq_true rfl) rfl rfl (CutL.turned rfl LnB.A (CutL.turned rfl (LnB.boxN ⟨⟨⟨True.intro, Ln.A⟩, Ln.A⟩, by show Ln _ _ _ nilS (aRngs true true (al s).rg); rw [hl0]; exact Ln.slz _ _ _ _ _ _ _ (by decide)⟩) CutL.done))) allA ?_
        (repeat' ((try (conv => whnf)); first | (with_reducible first | refine FCond.tA ?_ | refine FCond.fA ?_) | ((with_reducible refine FCond.i (fun hq => ?_) (fun hq => ?_)) <;> (try simp only [zA, zE, zD, zJ, zB, zI, Int.not_le, Int.not_lt] at hq)) | (with_reducible first | refine Fits.in64 (by omega) ?_ | refine FIdx.nat (by omega) ?_ | refine FIdx.int (by omega) ?_ | refine FTo.nat (by omega) ?_ | refine FTo.int (by omega) ?_) | ((with_reducible refine Need.mk ?_ ?_); focus exact needA) | (with_reducible refine FApp.grow ?_) | (refine FCall.pure (cP) ⟨Ln.sameB _ rfl, True.intro⟩ rfl ?_) | (refine FCall.pure (cQ) ⟨Ln.sameB _ rfl, True.intro⟩ rfl ?_) | (refine FCall.pure works_ok True.intro rfl ?_) | (with_reducible refine FOr.pub ?_)))
        all_goals (try (conv => whnf))
        all_goals ((refine ⟨⟨_, [], [], Cut.nil _, Ln.sameB _ rfl, ?_, rfl⟩⟩); rfl)
      · have cQ := plan_yes ⟨false, (flC s).es, false, false⟩ (al s) hna hka
        rw [e1, e2] at cQ
        (repeat' ((try (conv => whnf)); first | (with_reducible first | refine FCond.tA ?_ | refine FCond.fA ?_) | ((with_reducible refine FCond.i (fun hq => ?_) (fun hq => ?_)) <;> (try simp only [zA, zE, zD, zJ, zB, zI, Int.not_le, Int.not_lt] at hq)) | (with_reducible first | refine Fits.in64 (by omega) ?_ | refine FIdx.nat (by omega) ?_ | refine FIdx.int (by omega) ?_ | refine FTo.nat (by omega) ?_ | refine FTo.int (by omega) ?_) | ((with_reducible refine Need.mk ?_ ?_); focus exact needA) | (with_reducible refine FApp.grow ?_) | (with_reducible refine FOr.pub ?_)))
        all_goals (try (conv => whnf))
        refine FWk.of [(1, .ptr 0 0), (3, .ptr 1 0)] [.box 3 (cStd f s), .box 3 (cStd ⟨false, (flC s).es, false, false⟩ (al s))] [0, 1] (Cut.of (Nat.le_of_ble_eq_true rfl) rfl rfl (CutL.turned rfl LnB.A (CutL.turned rfl (LnB.boxN ⟨⟨⟨True.intro, Ln.A⟩, Ln.A⟩, Ln.pubE (goneB rfl) rfl (Nat.le_refl _) (by rw [← hla]; rfl) (fun k hk o ho => by rw [← hla])⟩) CutL.done))) allA ?_
        (repeat' ((try (conv => whnf)); first | (with_reducible first | refine FCond.tA ?_ | refine FCond.fA ?_) | ((with_reducible refine FCond.i (fun hq => ?_) (fun hq => ?_)) <;> (try simp only [zA, zE, zD, zJ, zB, zI, Int.not_le, Int.not_lt] at hq)) | (with_reducible first | refine Fits.in64 (by omega) ?_ | refine FIdx.nat (by omega) ?_ | refine FIdx.int (by omega) ?_ | refine FTo.nat (by omega) ?_ | refine FTo.int (by omega) ?_) | ((with_reducible refine Need.mk ?_ ?_); focus exact needA) | (with_reducible refine FApp.grow ?_) | (refine FCall.pure (cP) ⟨Ln.sameB _ rfl, True.intro⟩ rfl ?_) | (refine FCall.pure (cQ) ⟨Ln.sameB _ rfl, True.intro⟩ rfl ?_) | (refine FCall.pure works_ok True.intro rfl ?_) | (with_reducible refine FOr.pub ?_)))
        all_goals (try (conv => whnf))
        all_goals ((refine ⟨⟨_, [], [], Cut.nil _, Ln.sameB _ rfl, ?_, rfl⟩⟩); rfl)
end Go.Proofs.Ytnghcfmloljagaa

namespace Go.Proofs.Ytnghcfmloljagaa
open Go.RowKit

theorem sumW_split (f : Nat → Wt) (c : Nat) : ∀ k, sumW f k = (sumW (fun j => if j = c then w0 else f j) k).add (if c < k then f c else w0) := fun k => by
  have e := sumW_one c (f c) k
  rw [← e, ← sumW_add]
  refine sumW_congr fun j _ => ?_
  by_cases h : j = c
  · subst h; rw [if_pos rfl, if_pos rfl, w0_add]
  · rw [if_neg h, if_neg h, add_w0]
/-- One call finds another spot. -/
theorem isM_move {s : Std} {D : Nat × Nat → Prop} {S c : Nat} {a : Asg} {p : Nat × Nat} (h : IsM s D S a) (hc : c < s.C) (hD : D p) (hp : canA s p.1 p.2 c = true) (hn : ∀ k, k ≠ c → a k ≠ some p) : IsM s D (S ||| 2 ^ c) (a.put c (some p)) := by
  refine ⟨fun k => ?_, fun k q hq => ?_, fun k k' q h1 h2 => ?_⟩
  · unfold Asg.put
    by_cases hk : k = c
    · subst hk; rw [if_pos rfl, or_test]; simp [hc]
    · rw [if_neg hk, h.dom k, Nat.testBit_or, Nat.testBit_two_pow, decide_eq_false (fun e : c = k => hk e.symm), Bool.or_false]
  · unfold Asg.put at hq
    by_cases hk : k = c
    · subst hk; rw [if_pos rfl] at hq; injection hq with hq; subst hq; exact ⟨hD, hp⟩
    · rw [if_neg hk] at hq; exact h.can k q hq
  · unfold Asg.put at h1 h2
    by_cases hk : k = c
    · by_cases hk' : k' = c
      · rw [hk, hk']
      · rw [if_pos hk] at h1; rw [if_neg hk'] at h2
        injection h1 with h1
        subst h1
        exact (hn k' hk' h2).elim
    · rw [if_neg hk] at h1
      by_cases hk' : k' = c
      · rw [if_pos hk'] at h2
        injection h2 with h2
        subst h2
        exact (hn k hk h1).elim
      · rw [if_neg hk'] at h2; exact h.inj k k' q h1 h2
theorem w_lt {r : Rng} {t t' : Int} (h : t < t') : ∀ x : Wt, (x.add (r.w t)).lt (x.add (r.w t')) = true := fun x => by
  rw [lt_iff]
  simp only [add_u, add_o]
  cases hr : r.urg
  · rw [(w_oth hr t).1, (w_oth hr t).2, (w_oth hr t').1, (w_oth hr t').2]; omega
  · rw [(w_urg hr t).1, (w_urg hr t).2, (w_urg hr t').1, (w_urg hr t').2]; omega
theorem until_none (s : Std) : untilT s (enc none).t = s.times := if_pos (by decide)
theorem until_some (s : Std) (p : Nat × Nat) : untilT s (enc (some p)).t = (p.2 : Int) := if_neg (by show ¬ (p.2 : Int) < 0; omega)
open Classical in
/-- THE WAIT IS BOUNDED: a signer who is there to the end has a spot. -/
theorem bounded {s : Std} (hs : StdOk s) {c i : Nat} (hc : c < s.C) (hi : i < s.n) (hcan : canA s i (s.R c).at_ c = true) (hu : (s.S i).until_ = s.times) : untilT s ((bestL s).getD c na).t - (s.R c).at_ < (s.C : Int) := by
  obtain ⟨⟨S, hM⟩, ht, hb⟩ := best_ok s
  have rr := hs.rg c hc
  have tt := hs.t
  have hcd := canA_d hcan
  unfold bestL
  rw [encL_get hc]
  have hbit : (s.S i).tongues.toNat.testBit (s.R c).tongue.toNat = true := by
    unfold canA at hcan
    simp only [Bool.and_eq_true] at hcan
    exact hcan.2
  have ge : ∀ t : Int, (s.R c).at_ ≤ t → t < s.times → canA s i t c = true := fun t h1 h2 => by
    unfold canA
    simp only [Bool.and_eq_true, decide_eq_true_eq]
    exact ⟨⟨⟨by omega, by omega⟩, h1⟩, hbit⟩
  refine Classical.byContradiction fun hn => ?_
  obtain ⟨U, hU⟩ : ∃ U, U = untilT s (enc (bestA s c)).t := ⟨_, rfl⟩
  rw [← hU] at hn
  have hUt : U ≤ s.times := by
    rw [hU]
    cases ha : bestA s c with
    | none => rw [until_none]; omega
    | some p =>
      have := (hM.can c p ha).1.2
      rw [until_some]; omega
  have hw : total s (bestA s) = (sumW (fun j => if j = c then w0 else (match bestA s j with | some p => (s.R j).w p.2 | none => (s.R j).w s.times)) s.C).add ((s.R c).w U) := by
    unfold total
    rw [sumW_split _ c, if_pos hc]
    congr 1
    rw [hU]
    cases ha : bestA s c with
    | none => rw [until_none]
    | some p => rw [until_some]
  -- the spots of the signer from the call's time on
  have hfree : ∃ k, k < s.C ∧ ∀ j, j ≠ c → bestA s j ≠ some (i, (s.R c).at_.toNat + k) := by
    refine Classical.byContradiction fun hno => ?_
    have hall : ∀ k, k < s.C → ∃ j, j ≠ c ∧ bestA s j = some (i, (s.R c).at_.toNat + k) := fun k hk => by
      refine Classical.byContradiction fun h => hno ⟨k, hk, fun j hj e => h ⟨j, hj, e⟩⟩
    let φ : Nat → Nat := fun k => if h : ∃ j, j ≠ c ∧ bestA s j = some (i, (s.R c).at_.toNat + k) then h.choose else 0
    have hφ : ∀ k, k < s.C → φ k ≠ c ∧ bestA s (φ k) = some (i, (s.R c).at_.toNat + k) := fun k hk => by
      have h := hall k hk
      simp only [φ]
      rw [dif_pos h]
      exact h.choose_spec
    have h1 := pig (l1 := (List.range s.C).map φ) (l2 := (List.range s.C).erase c) (nodup_map List.nodup_range (fun x hx y hy e => by
      have a1 := (hφ x (List.mem_range.1 hx)).2
      have a2 := (hφ y (List.mem_range.1 hy)).2
      rw [e, a2] at a1
      injection a1 with a1
      injection a1 with _ a1
      omega)) (fun j hj => by
      obtain ⟨k, hk, rfl⟩ := List.mem_map.1 hj
      have a := hφ k (List.mem_range.1 hk)
      exact (List.mem_erase_of_ne a.1).2 (List.mem_range.2 (isM_some hM a.2).1))
    rw [List.length_map, List.length_range, List.length_erase_of_mem (List.mem_range.2 hc), List.length_range] at h1
    omega
  obtain ⟨k, hk, hf⟩ := hfree
  have hlt : (s.R c).at_ + k < U := by omega
  have hM2 := isM_move hM hc (p := (i, (s.R c).at_.toNat + k)) ⟨hi, by simp only; omega⟩ (ge _ (by simp only; omega) (by simp only; omega)) hf
  have h2 := hb _ _ hM2
  rw [← ht, hw] at h2
  have e : total s ((bestA s).put c (some (i, (s.R c).at_.toNat + k))) = (sumW (fun j => if j = c then w0 else (match bestA s j with | some p => (s.R j).w p.2 | none => (s.R j).w s.times)) s.C).add ((s.R c).w ((s.R c).at_ + k)) := by
    unfold total
    rw [sumW_split _ c, if_pos hc]
    congr 1
    · refine sumW_congr fun j _ => ?_
      by_cases hj : j = c
      · rw [if_pos hj, if_pos hj]
      · rw [if_neg hj, if_neg hj]
        unfold Asg.put
        rw [if_neg hj]
        cases bestA s j <;> rfl
    · unfold Asg.put
      rw [if_pos rfl]
      simp only
      congr 1
      omega
  rw [e, w_lt hlt] at h2
  cases h2
def thereK (s : Std) (c : Nat) : Nat → Bool
  | 0 => false
  | k + 1 => thereK s c k || (canA s k (s.R c).at_ c && decide ((s.S k).until_ = s.times))
theorem thereK_d {s : Std} {c : Nat} : ∀ {k : Nat}, thereK s c k = true → ∃ i, i < k ∧ canA s i (s.R c).at_ c = true ∧ (s.S i).until_ = s.times
  | 0, h => by cases h
  | k + 1, h => by
    simp only [thereK, Bool.or_eq_true, Bool.and_eq_true, decide_eq_true_eq] at h
    rcases h with h | h
    · obtain ⟨i, h1, h2⟩ := thereK_d h
      exact ⟨i, by omega, h2⟩
    · exact ⟨k, by omega, h⟩
set_option maxHeartbeats 8000000
set_option maxRecDepth 100000
theorem bounded_any (f : StF) (s : Std) (hM : Mach s) (call : Int) : ACall Try.prog 6 [aStd f s, AI call] [] (fun v h => v = .bool true ∧ h = []) := by
  have cV := valid_ok f s hM.n hM.c
  (refine fcall_of mixed Try.func6 rfl (by decide) (hs := { ord := [(11, [(0, []), (1, []), (2, []), (3, []), (4, []), (5, []), (6, []), (7, []), (8, []), (9, []), (11, []), (12, []), (13, []), (10, [12]), (14, []), (15, []), (16, []), (17, []), (18, []), (19, [])])] }) ?k (ac := ?ac) ?c (rs := ?rs) ?r ?l ?H; (case k => kernel_rfl); (case c => (conv => (lhs; cbv))); (case r => (conv => (lhs; cbv))); (case l => exact Nat.le_of_ble_eq_true rfl))
  cases hv : validS s
  · rw [hv] at cV
    (repeat' ((try (conv => whnf)); first | (with_reducible first | refine FCond.tA ?_ | refine FCond.fA ?_) | ((with_reducible refine FCond.i (fun hq => ?_) (fun hq => ?_)) <;> (try simp only [zA, zE, zD, zJ, zB, zI, Int.not_le, Int.not_lt] at hq)) | (with_reducible first | refine Fits.in64 (by omega) ?_ | refine FIdx.nat (by omega) ?_ | refine FIdx.int (by omega) ?_ | refine FTo.nat (by omega) ?_ | refine FTo.int (by omega) ?_) | ((with_reducible refine Need.mk ?_ ?_); focus exact needA) | (with_reducible refine FApp.grow ?_) | (refine FCall.pure (cV) ⟨Ln.sameB _ rfl, True.intro⟩ rfl ?_) | (refine FCall.pure works_ok True.intro rfl ?_) | (with_reducible refine FOr.pub ?_)))
    all_goals (try (conv => whnf))
    all_goals ((refine ⟨⟨_, [], [], Cut.nil _, Ln.sameB _ rfl, ?_, rfl⟩⟩); rfl)
  · rw [hv] at cV
    obtain ⟨hf, hk⟩ := valid_d hv
    have hn := near_of hf
    have hs := std_d hk
    have c12 : s.rg.length ≤ 12 := hs.c12
    have n4 : s.sg.length ≤ 4 := hs.n4
    have hnl : s.n = s.sg.length := rfl
    by_cases hr : 0 ≤ call ∧ call < s.rg.length
    · obtain ⟨c, rfl⟩ : ∃ c : Nat, call = c := ⟨call.toNat, by omega⟩
      have hc : c < s.C := by show c < s.rg.length; omega
      have hc' : c < s.rg.length := hc
      have cP := plan_yes f s hn hk
      have cA := areRight_ok f s hs false false (bestL s) (bestL_len hs)
      rw [right_d.2 (bestL_right s)] at cA
      have hbl : (bestL s).length = s.rg.length := (bestL_right s).len
      (repeat' ((try (conv => whnf)); first | (with_reducible first | refine FCond.tA ?_ | refine FCond.fA ?_) | ((with_reducible refine FCond.i (fun hq => ?_) (fun hq => ?_)) <;> (try simp only [zA, zE, zD, zJ, zB, zI, Int.not_le, Int.not_lt] at hq)) | (with_reducible first | refine Fits.in64 (by omega) ?_ | refine FIdx.nat (by omega) ?_ | refine FIdx.int (by omega) ?_ | refine FTo.nat (by omega) ?_ | refine FTo.int (by omega) ?_) | ((with_reducible refine Need.mk ?_ ?_); focus exact needA) | (with_reducible refine FApp.grow ?_) | (refine FCall.pure (cV) ⟨Ln.sameB _ rfl, True.intro⟩ rfl ?_) | (refine FCall.pure (cP) ⟨Ln.sameB _ rfl, True.intro⟩ rfl ?_) | (refine FCall.pure (cA) ⟨Ln.sameB _ rfl, Ln.sameB _ rfl, True.intro⟩ rfl ?_) | (with_reducible refine FOr.pub ?_)))
      all_goals (try (conv => whnf))
      refine FLoop.of (ACalls.mono _) (X := Nat) (fun i => [(1, AI c), (2, .ptr 0 0), (5, aAns false false (bestL s)), (9, .bool (thereK s c i)), (10, AI i)]) (fun i => [.box 3 (cStd f s)]) (fun i => i ≤ s.sg.length) (fun i => s.sg.length - i) 0 ⟨Nat.zero_le _, [0], Cut.A, allA⟩ ?_
      intro i hi
      by_cases hlt : i < s.sg.length
      · have cC := refCan_ok f s hs i c (s.R c).at_ hlt hc
        have hst : thereK s c (i + 1) = (thereK s c i || (canA s i (s.R c).at_ c && decide ((s.S i).until_ = s.times))) := rfl
        cases ht : thereK s c i
        · cases hcn : canA s i (s.R c).at_ c
          · rw [hcn] at cC
            rw [ht, hcn] at hst
            (repeat' ((try (conv => whnf)); first | (with_reducible first | refine FCond.tA ?_ | refine FCond.fA ?_) | ((with_reducible refine FCond.i (fun hq => ?_) (fun hq => ?_)) <;> (try simp only [zA, zE, zD, zJ, zB, zI, Int.not_le, Int.not_lt] at hq)) | (with_reducible first | refine Fits.in64 (by omega) ?_ | refine FIdx.nat (by omega) ?_ | refine FIdx.int (by omega) ?_ | refine FTo.nat (by omega) ?_ | refine FTo.int (by omega) ?_) | ((with_reducible refine Need.mk ?_ ?_); focus exact needA) | (with_reducible refine FApp.grow ?_) | (refine FCall.pure (cC) ⟨Ln.sameB _ rfl, Ln.sameB _ rfl, Ln.sameB _ rfl, Ln.sameB _ rfl, True.intro⟩ rfl ?_) | (with_reducible refine FOr.pub ?_)))
            all_goals (try (conv => whnf))
            exact ⟨⟨i + 1, hlt, by omega, [0], Cut.A, ⟨Ln.A, Ln.A, Ln.A, Ln.bool (by rw [hst]; rfl), Ln.A, True.intro⟩⟩⟩
          · rw [hcn] at cC
            rw [ht, hcn] at hst
            (repeat' ((try (conv => whnf)); first | (with_reducible first | refine FCond.tA ?_ | refine FCond.fA ?_) | ((with_reducible refine FCond.i (fun hq => ?_) (fun hq => ?_)) <;> (try simp only [zA, zE, zD, zJ, zB, zI, Int.not_le, Int.not_lt] at hq)) | (with_reducible first | refine Fits.in64 (by omega) ?_ | refine FIdx.nat (by omega) ?_ | refine FIdx.int (by omega) ?_ | refine FTo.nat (by omega) ?_ | refine FTo.int (by omega) ?_) | ((with_reducible refine Need.mk ?_ ?_); focus exact needA) | (with_reducible refine FApp.grow ?_) | (refine FCall.pure (cC) ⟨Ln.sameB _ rfl, Ln.sameB _ rfl, Ln.sameB _ rfl, Ln.sameB _ rfl, True.intro⟩ rfl ?_) | (with_reducible refine FOr.pub ?_)))
            all_goals (try (conv => whnf))
            exact ⟨⟨i + 1, hlt, by omega, [0], Cut.A, ⟨Ln.A, Ln.A, Ln.A, Ln.bool (by rw [hst]; rfl), Ln.A, True.intro⟩⟩⟩
        · rw [ht] at hst
          (repeat' ((try (conv => whnf)); first | (with_reducible first | refine FCond.tA ?_ | refine FCond.fA ?_) | ((with_reducible refine FCond.i (fun hq => ?_) (fun hq => ?_)) <;> (try simp only [zA, zE, zD, zJ, zB, zI, Int.not_le, Int.not_lt] at hq)) | (with_reducible first | refine Fits.in64 (by omega) ?_ | refine FIdx.nat (by omega) ?_ | refine FIdx.int (by omega) ?_ | refine FTo.nat (by omega) ?_ | refine FTo.int (by omega) ?_) | ((with_reducible refine Need.mk ?_ ?_); focus exact needA) | (with_reducible refine FApp.grow ?_) | (with_reducible refine FOr.pub ?_)))
          all_goals (try (conv => whnf))
          exact ⟨⟨i + 1, hlt, by omega, [0], Cut.A, ⟨Ln.A, Ln.A, Ln.A, Ln.bool (by rw [hst]; rfl), Ln.A, True.intro⟩⟩⟩
      · obtain rfl : i = s.sg.length := by omega
        have b := until_bd hs (bestL_right s) hc
        have t8 := hs.t8
        have tt := hs.t
        have cW := wait_ok f s hs c ((bestL s).getD c na).t (by omega) hc
        cases ht : thereK s c s.sg.length
        · (repeat' ((try (conv => whnf)); first | (with_reducible first | refine FCond.tA ?_ | refine FCond.fA ?_) | ((with_reducible refine FCond.i (fun hq => ?_) (fun hq => ?_)) <;> (try simp only [zA, zE, zD, zJ, zB, zI, Int.not_le, Int.not_lt] at hq)) | (with_reducible first | refine Fits.in64 (by omega) ?_ | refine FIdx.nat (by omega) ?_ | refine FIdx.int (by omega) ?_ | refine FTo.nat (by omega) ?_ | refine FTo.int (by omega) ?_) | ((with_reducible refine Need.mk ?_ ?_); focus exact needA) | (with_reducible refine FApp.grow ?_) | (refine FCall.pure (cW) ⟨Ln.sameB _ rfl, Ln.sameB _ rfl, Ln.sameB _ rfl, True.intro⟩ rfl ?_) | (refine FCall.pure works_ok True.intro rfl ?_) | (with_reducible refine FOr.pub ?_)))
          all_goals (try (conv => whnf))
          all_goals ((refine ⟨⟨_, [], [], Cut.nil _, Ln.sameB _ rfl, ?_, rfl⟩⟩); rfl)
        · obtain ⟨i, h1, h2, h3⟩ := thereK_d ht
          have hbd := bounded hs hc h1 h2 h3
          have hbd' : untilT s ((bestL s).getD c na).t - (s.R c).at_ < (s.rg.length : Int) := hbd
          (repeat' ((try (conv => whnf)); first | (with_reducible first | refine FCond.tA ?_ | refine FCond.fA ?_) | ((with_reducible refine FCond.i (fun hq => ?_) (fun hq => ?_)) <;> (try simp only [zA, zE, zD, zJ, zB, zI, Int.not_le, Int.not_lt] at hq)) | (with_reducible first | refine Fits.in64 (by omega) ?_ | refine FIdx.nat (by omega) ?_ | refine FIdx.int (by omega) ?_ | refine FTo.nat (by omega) ?_ | refine FTo.int (by omega) ?_) | ((with_reducible refine Need.mk ?_ ?_); focus exact needA) | (with_reducible refine FApp.grow ?_) | (refine FCall.pure (cW) ⟨Ln.sameB _ rfl, Ln.sameB _ rfl, Ln.sameB _ rfl, True.intro⟩ rfl ?_) | (refine FCall.pure works_ok True.intro rfl ?_) | (with_reducible refine FOr.pub ?_)))
          all_goals (try (conv => whnf))
          all_goals ((refine ⟨⟨_, [], [], Cut.nil _, Ln.sameB _ rfl, ?_, rfl⟩⟩); rfl)
    · by_cases h0 : call < 0
      · (repeat' ((try (conv => whnf)); first | (with_reducible first | refine FCond.tA ?_ | refine FCond.fA ?_) | ((with_reducible refine FCond.i (fun hq => ?_) (fun hq => ?_)) <;> (try simp only [zA, zE, zD, zJ, zB, zI, Int.not_le, Int.not_lt] at hq)) | (with_reducible first | refine Fits.in64 (by omega) ?_ | refine FIdx.nat (by omega) ?_ | refine FIdx.int (by omega) ?_ | refine FTo.nat (by omega) ?_ | refine FTo.int (by omega) ?_) | ((with_reducible refine Need.mk ?_ ?_); focus exact needA) | (with_reducible refine FApp.grow ?_) | (refine FCall.pure (cV) ⟨Ln.sameB _ rfl, True.intro⟩ rfl ?_) | (refine FCall.pure works_ok True.intro rfl ?_) | (with_reducible refine FOr.pub ?_)))
        all_goals (try (conv => whnf))
        all_goals ((refine ⟨⟨_, [], [], Cut.nil _, Ln.sameB _ rfl, ?_, rfl⟩⟩); rfl)
      · (repeat' ((try (conv => whnf)); first | (with_reducible first | refine FCond.tA ?_ | refine FCond.fA ?_) | ((with_reducible refine FCond.i (fun hq => ?_) (fun hq => ?_)) <;> (try simp only [zA, zE, zD, zJ, zB, zI, Int.not_le, Int.not_lt] at hq)) | (with_reducible first | refine Fits.in64 (by omega) ?_ | refine FIdx.nat (by omega) ?_ | refine FIdx.int (by omega) ?_ | refine FTo.nat (by omega) ?_ | refine FTo.int (by omega) ?_) | ((with_reducible refine Need.mk ?_ ?_); focus exact needA) | (with_reducible refine FApp.grow ?_) | (refine FCall.pure (cV) ⟨Ln.sameB _ rfl, True.intro⟩ rfl ?_) | (refine FCall.pure works_ok True.intro rfl ?_) | (with_reducible refine FOr.pub ?_)))
        all_goals (try (conv => whnf))
        all_goals ((refine ⟨⟨_, [], [], Cut.nil _, Ln.sameB _ rfl, ?_, rfl⟩⟩); rfl)
end Go.Proofs.Ytnghcfmloljagaa

namespace Go.Proofs.Ytnghcfmloljagaa
open Go.RowKit

theorem exists_max {P : Nat → Prop} : ∀ {B : Nat}, (∃ k, P k) → (∀ k, P k → k ≤ B) → ∃ k, P k ∧ ∀ j, P j → j ≤ k
  | 0, ⟨k, hk⟩, hb => ⟨k, hk, fun j hj => by have := hb j hj; omega⟩
  | B + 1, h, hb => by
    by_cases hB : P (B + 1)
    · exact ⟨B + 1, hB, hb⟩
    · exact exists_max (B := B) h fun k hk => by
        have := hb k hk
        rcases Nat.lt_or_ge k (B + 1) with h1 | h1
        · omega
        · exact (hB (show k = B + 1 by omega ▸ hk)).elim
theorem mostN_is (s : Std) (t : Nat) (u : Bool) : IsMost s t u (mostN s t u) := by
  obtain ⟨k, ⟨S, a, h1, h2⟩, h3⟩ := exists_max (P := fun k => ∃ S a, IsM s (upT s t) S a ∧ cntM s u S = k) (B := s.C) ⟨_, 0, fun _ => none, isM_empty s _, rfl⟩ (fun k ⟨S, a, _, h⟩ => by rw [← h]; exact cntB_le _ _)
  have h : IsMost s t u k := ⟨⟨S, a, h1, h2⟩, fun S a ha => h3 _ ⟨S, a, ha, rfl⟩⟩
  rw [mostN_eq h]; exact h
theorem mostN_C (s : Std) (t : Nat) (u : Bool) : mostN s t u ≤ s.C := by
  obtain ⟨S, a, _, h⟩ := (mostN_is s t u).is
  rw [← h]; exact cntB_le _ _
theorem mostN_time {s : Std} {t t' : Nat} (u : Bool) (h : t ≤ t') : mostN s t u ≤ mostN s t' u := by
  obtain ⟨S, a, h1, h2⟩ := (mostN_is s t u).is
  rw [← h2]
  exact (mostN_is s t' u).le S a (isM_mono h1 fun p hp => ⟨hp.1, Nat.le_trans hp.2 h⟩)
theorem mostN_all (s : Std) (t : Nat) : mostN s t true ≤ mostN s t false := by
  obtain ⟨S, a, h1, h2⟩ := (mostN_is s t true).is
  rw [← h2]
  refine Nat.le_trans (cntB_mono fun c hc h => ?_) ((mostN_is s t false).le S a h1)
  simp only [Bool.and_eq_true] at h ⊢
  refine ⟨h.1, ?_⟩
  unfold counts; simp
/-- How many spots a signer has on duty up to a time. -/
def dutyM (s : Std) (t i : Nat) : Nat := (min (s.S i).until_ ((t : Int) + 1) - (s.S i).from_).toNat
def dutyL (s : Std) (t : Nat) : Nat → List (Nat × Nat)
  | 0 => []
  | k + 1 => dutyL s t k ++ (List.range (dutyM s t k)).map fun d => (k, (s.S k).from_.toNat + d)
def dutyK (s : Std) (t : Nat) : Nat → Nat
  | 0 => 0
  | k + 1 => dutyK s t k + dutyM s t k
theorem dutyL_len (s : Std) (t : Nat) : ∀ k, (dutyL s t k).length = dutyK s t k
  | 0 => rfl
  | k + 1 => by simp only [dutyL, dutyK, List.length_append, List.length_map, List.length_range]; rw [dutyL_len s t k]
theorem dutyL_has {s : Std} (hs : StdOk s) {t : Nat} {p : Nat × Nat} {c : Nat} (h : canA s p.1 p.2 c = true) (ht : p.2 ≤ t) : ∀ {k : Nat}, p.1 < k → k ≤ s.n → p ∈ dutyL s t k
  | 0, h1, _ => by omega
  | k + 1, h1, h2 => by
    simp only [dutyL]
    by_cases e : p.1 = k
    · refine List.mem_append_right _ (List.mem_map.2 ⟨p.2 - (s.S k).from_.toNat, ?_, ?_⟩)
      · have hd := canA_d h
        have hg := hs.sg k (by omega)
        rw [e] at hd
        rw [List.mem_range]
        unfold dutyM
        omega
      · have hd := canA_d h
        rw [e] at hd
        have hg := hs.sg k (by omega)
        obtain ⟨a, b⟩ := p
        simp only at e hd ⊢
        rw [Prod.mk.injEq]
        exact ⟨e.symm, by omega⟩
    · exact List.mem_append_left _ (dutyL_has hs h ht (by omega) (by omega))
theorem mostN_duty {s : Std} (hs : StdOk s) (t : Nat) (u : Bool) : mostN s t u ≤ dutyK s t s.n := by
  obtain ⟨S, a, h1, h2⟩ := (mostN_is s t u).is
  rw [← h2, ← dutyL_len]
  exact cnt_spots h1 _ fun p c h1 h2 h3 => dutyL_has hs h3 h2 h1 (Nat.le_refl _)
theorem dutyK_le {s : Std} (hs : StdOk s) (t : Nat) : ∀ k, k ≤ s.n → dutyK s t k ≤ 8 * k
  | 0, _ => Nat.le_refl _
  | k + 1, hk => by
    have ih := dutyK_le hs t k (by omega)
    have hg := hs.sg k (by omega)
    have t8 := hs.t8
    have tt := hs.t
    have : dutyM s t k ≤ 8 := by unfold dutyM; omega
    simp only [dutyK]; omega
set_option maxHeartbeats 8000000
set_option maxRecDepth 100000
theorem checkTime_ok (f : StF) (s : Std) (hn : NearS s) (t : Int) : ACall Try.prog 17 [aStd f s, AI t] [] (fun r h => r = AI (checkT s t) ∧ h = []) := by
  have cC := refCheck_ok f s hn
  (refine fcall_of mixed Try.func17 rfl (by decide) (hs := {}) ?k (ac := ?ac) ?c (rs := ?rs) ?r ?l ?H; (case k => kernel_rfl); (case c => (conv => (lhs; cbv))); (case r => (conv => (lhs; cbv))); (case l => exact Nat.le_of_ble_eq_true rfl))
  cases hk : s.ok
  · rw [check_60 hk] at cC
    (repeat' ((try (conv => whnf)); first | (with_reducible first | refine FCond.tA ?_ | refine FCond.fA ?_) | ((with_reducible refine FCond.i (fun hq => ?_) (fun hq => ?_)) <;> (try simp only [zA, zE, zD, zJ, zB, zI, Int.not_le, Int.not_lt] at hq)) | (with_reducible first | refine Fits.in64 (by omega) ?_ | refine FIdx.nat (by omega) ?_ | refine FIdx.int (by omega) ?_ | refine FTo.nat (by omega) ?_ | refine FTo.int (by omega) ?_) | ((with_reducible refine Need.mk ?_ ?_); focus exact needA) | (with_reducible refine FApp.grow ?_) | (refine FCall.pure (cC) ⟨Ln.sameB _ rfl, True.intro⟩ rfl ?_) | (with_reducible refine FOr.pub ?_)))
    all_goals (try (conv => whnf))
    (refine ⟨⟨_, [], [], Cut.nil _, Ln.sameB _ rfl, ?_, rfl⟩⟩)
    unfold checkT; rw [hk]; rfl
  · rw [check_ok' hk] at cC
    have hs := std_d hk
    have tt := hs.t
    have t8 := hs.t8
    by_cases ht : 0 ≤ t ∧ t < s.times
    · (repeat' ((try (conv => whnf)); first | (with_reducible first | refine FCond.tA ?_ | refine FCond.fA ?_) | ((with_reducible refine FCond.i (fun hq => ?_) (fun hq => ?_)) <;> (try simp only [zA, zE, zD, zJ, zB, zI, Int.not_le, Int.not_lt] at hq)) | (with_reducible first | refine Fits.in64 (by omega) ?_ | refine FIdx.nat (by omega) ?_ | refine FIdx.int (by omega) ?_ | refine FTo.nat (by omega) ?_ | refine FTo.int (by omega) ?_) | ((with_reducible refine Need.mk ?_ ?_); focus exact needA) | (with_reducible refine FApp.grow ?_) | (refine FCall.pure (cC) ⟨Ln.sameB _ rfl, True.intro⟩ rfl ?_) | (refine FCall.pure ((within_ok _ _ _)) ⟨Ln.sameB _ rfl, Ln.sameB _ rfl, Ln.sameB _ rfl, True.intro⟩ rfl ?_) | (with_reducible refine FOr.pub ?_)))
      all_goals (try (conv => whnf))
      (refine ⟨⟨_, [], [], Cut.nil _, Ln.sameB _ rfl, ?_, rfl⟩⟩)
      unfold checkT; rw [hk, if_pos rfl, if_pos ht]
    · (repeat' ((try (conv => whnf)); first | (with_reducible first | refine FCond.tA ?_ | refine FCond.fA ?_) | ((with_reducible refine FCond.i (fun hq => ?_) (fun hq => ?_)) <;> (try simp only [zA, zE, zD, zJ, zB, zI, Int.not_le, Int.not_lt] at hq)) | (with_reducible first | refine Fits.in64 (by omega) ?_ | refine FIdx.nat (by omega) ?_ | refine FIdx.int (by omega) ?_ | refine FTo.nat (by omega) ?_ | refine FTo.int (by omega) ?_) | ((with_reducible refine Need.mk ?_ ?_); focus exact needA) | (with_reducible refine FApp.grow ?_) | (refine FCall.pure (cC) ⟨Ln.sameB _ rfl, True.intro⟩ rfl ?_) | (refine FCall.pure ((within_ok _ _ _)) ⟨Ln.sameB _ rfl, Ln.sameB _ rfl, Ln.sameB _ rfl, True.intro⟩ rfl ?_) | (with_reducible refine FOr.pub ?_)))
      all_goals (try (conv => whnf))
      (refine ⟨⟨_, [], [], Cut.nil _, Ln.sameB _ rfl, ?_, rfl⟩⟩)
      unfold checkT; rw [hk, if_pos rfl, if_neg ht]
theorem later_any (f : StF) (s : Std) (hM : Mach s) (time later : Int) : ACall Try.prog 7 [aStd f s, AI time, AI later] [] (fun v h => v = .bool true ∧ h = []) := by
  have cV := valid_ok f s hM.n hM.c
  (refine fcall_of mixed Try.func7 rfl (by decide) (hs := {}) ?k (ac := ?ac) ?c (rs := ?rs) ?r ?l ?H; (case k => kernel_rfl); (case c => (conv => (lhs; cbv))); (case r => (conv => (lhs; cbv))); (case l => exact Nat.le_of_ble_eq_true rfl))
  cases hv : validS s
  · rw [hv] at cV
    (repeat' ((try (conv => whnf)); first | (with_reducible first | refine FCond.tA ?_ | refine FCond.fA ?_) | ((with_reducible refine FCond.i (fun hq => ?_) (fun hq => ?_)) <;> (try simp only [zA, zE, zD, zJ, zB, zI, Int.not_le, Int.not_lt] at hq)) | (with_reducible first | refine Fits.in64 (by omega) ?_ | refine FIdx.nat (by omega) ?_ | refine FIdx.int (by omega) ?_ | refine FTo.nat (by omega) ?_ | refine FTo.int (by omega) ?_) | ((with_reducible refine Need.mk ?_ ?_); focus exact needA) | (with_reducible refine FApp.grow ?_) | (refine FCall.pure (cV) ⟨Ln.sameB _ rfl, True.intro⟩ rfl ?_) | (refine FCall.pure works_ok True.intro rfl ?_) | (with_reducible refine FOr.pub ?_)))
    all_goals (try (conv => whnf))
    all_goals ((refine ⟨⟨_, [], [], Cut.nil _, Ln.sameB _ rfl, ?_, rfl⟩⟩); rfl)
  · rw [hv] at cV
    obtain ⟨hf, hk⟩ := valid_d hv
    have hn := near_of hf
    have hs := std_d hk
    have tt := hs.t
    have t8 := hs.t8
    have c12 : s.rg.length ≤ 12 := hs.c12
    have n4 : s.sg.length ≤ 4 := hs.n4
    have hnl : s.n = s.sg.length := rfl
    have c1 := checkTime_ok f s hn time
    have c2 := checkTime_ok f s hn later
    have ct : ∀ t, checkT s t = if 0 ≤ t ∧ t < s.times then 0 else 1 := fun t => by unfold checkT; rw [if_pos hk]
    rw [ct] at c1 c2
    by_cases h1 : 0 ≤ time ∧ time < s.times
    · rw [if_pos h1] at c1
      by_cases h2 : 0 ≤ later ∧ later < s.times
      · rw [if_pos h2] at c2
        by_cases h3 : later < time
        · (repeat' ((try (conv => whnf)); first | (with_reducible first | refine FCond.tA ?_ | refine FCond.fA ?_) | ((with_reducible refine FCond.i (fun hq => ?_) (fun hq => ?_)) <;> (try simp only [zA, zE, zD, zJ, zB, zI, Int.not_le, Int.not_lt] at hq)) | (with_reducible first | refine Fits.in64 (by omega) ?_ | refine FIdx.nat (by omega) ?_ | refine FIdx.int (by omega) ?_ | refine FTo.nat (by omega) ?_ | refine FTo.int (by omega) ?_) | ((with_reducible refine Need.mk ?_ ?_); focus exact needA) | (with_reducible refine FApp.grow ?_) | (refine FCall.pure (cV) ⟨Ln.sameB _ rfl, True.intro⟩ rfl ?_) | (refine FCall.pure (c1) ⟨Ln.sameB _ rfl, Ln.sameB _ rfl, True.intro⟩ rfl ?_) | (refine FCall.pure (c2) ⟨Ln.sameB _ rfl, Ln.sameB _ rfl, True.intro⟩ rfl ?_) | (refine FCall.pure works_ok True.intro rfl ?_) | (with_reducible refine FOr.pub ?_)))
          all_goals (try (conv => whnf))
          all_goals ((refine ⟨⟨_, [], [], Cut.nil _, Ln.sameB _ rfl, ?_, rfl⟩⟩); rfl)
        · obtain ⟨t, rfl⟩ : ∃ t : Nat, time = t := ⟨time.toNat, by omega⟩
          obtain ⟨t', rfl⟩ : ∃ t : Nat, later = t := ⟨later.toNat, by omega⟩
          have m1 := most_yes f s hn hk t (by omega) false
          have m2 := most_yes f s hn hk t (by omega) true
          have m3 := most_yes f s hn hk t' (by omega) false
          have m4 := most_yes f s hn hk t' (by omega) true
          have q1 := mostN_all s t
          have q2 := mostN_time (s := s) (t := t) (t' := t') false (by omega)
          have q3 := mostN_time (s := s) (t := t) (t' := t') true (by omega)
          have q4 := mostN_all s t'
          have q5 : mostN s t false ≤ dutyK s t s.sg.length := mostN_duty hs t false
          have q6 : mostN s t' false ≤ s.rg.length := mostN_C s t' false
          (repeat' ((try (conv => whnf)); first | (with_reducible first | refine FCond.tA ?_ | refine FCond.fA ?_) | ((with_reducible refine FCond.i (fun hq => ?_) (fun hq => ?_)) <;> (try simp only [zA, zE, zD, zJ, zB, zI, Int.not_le, Int.not_lt] at hq)) | (with_reducible first | refine Fits.in64 (by omega) ?_ | refine FIdx.nat (by omega) ?_ | refine FIdx.int (by omega) ?_ | refine FTo.nat (by omega) ?_ | refine FTo.int (by omega) ?_) | ((with_reducible refine Need.mk ?_ ?_); focus exact needA) | (with_reducible refine FApp.grow ?_) | (refine FCall.pure (cV) ⟨Ln.sameB _ rfl, True.intro⟩ rfl ?_) | (refine FCall.pure (c1) ⟨Ln.sameB _ rfl, Ln.sameB _ rfl, True.intro⟩ rfl ?_) | (refine FCall.pure (c2) ⟨Ln.sameB _ rfl, Ln.sameB _ rfl, True.intro⟩ rfl ?_) | (refine FCall.pure (m1) ⟨Ln.sameB _ rfl, Ln.sameB _ rfl, Ln.sameB _ rfl, True.intro⟩ rfl ?_) | (refine FCall.pure (m2) ⟨Ln.sameB _ rfl, Ln.sameB _ rfl, Ln.sameB _ rfl, True.intro⟩ rfl ?_) | (refine FCall.pure (m3) ⟨Ln.sameB _ rfl, Ln.sameB _ rfl, Ln.sameB _ rfl, True.intro⟩ rfl ?_) | (refine FCall.pure (m4) ⟨Ln.sameB _ rfl, Ln.sameB _ rfl, Ln.sameB _ rfl, True.intro⟩ rfl ?_) | (with_reducible refine FOr.pub ?_)))
          all_goals (try (conv => whnf))
          refine FLoop.of (ACalls.mono _) (X := Nat) (fun i => [(1, AI t), (3, .ptr 0 0), (7, AI (mostN s t false : Nat)), (8, AI 0), (9, AI (mostN s t true : Nat)), (10, AI 0), (11, AI (mostN s t' false : Nat)), (12, AI 0), (13, AI (mostN s t' true : Nat)), (14, AI 0), (15, AI (dutyK s t i : Nat)), (16, AI i)]) (fun i => [.box 3 (cStd f s)]) (fun i => i ≤ s.sg.length) (fun i => s.sg.length - i) 0 ⟨Nat.zero_le _, [0], Cut.A, allA⟩ ?_
          intro i hi
          by_cases hlt : i < s.sg.length
          · have hg := hs.sg i hlt
            unfold Std.S at hg
            have hb := dutyK_le hs t i (by omega)
            have hst : dutyK s t (i + 1) = dutyK s t i + dutyM s t i := rfl
            have hm : ((dutyM s t i : Nat) : Int) = max 0 (min (s.sg.getD i sg0).until_ ((t : Int) + 1) - (s.sg.getD i sg0).from_) := by unfold dutyM Std.S; omega
            (repeat' ((try (conv => whnf)); first | (with_reducible first | refine FCond.tA ?_ | refine FCond.fA ?_) | ((with_reducible refine FCond.i (fun hq => ?_) (fun hq => ?_)) <;> (try simp only [zA, zE, zD, zJ, zB, zI, Int.not_le, Int.not_lt] at hq)) | (with_reducible first | refine Fits.in64 (by omega) ?_ | refine FIdx.nat (by omega) ?_ | refine FIdx.int (by omega) ?_ | refine FTo.nat (by omega) ?_ | refine FTo.int (by omega) ?_) | ((with_reducible refine Need.mk ?_ ?_); focus exact needA) | (with_reducible refine FApp.grow ?_) | (with_reducible refine FOr.pub ?_)))
            all_goals (try (conv => whnf))
            exact ⟨⟨i + 1, hlt, by omega, [0], Cut.A, ⟨Ln.A, Ln.A, Ln.A, Ln.A, Ln.A, Ln.A, Ln.A, Ln.A, Ln.A, Ln.A, Ln.int (by rw [hst]; omega), Ln.A, True.intro⟩⟩⟩
          · obtain rfl : i = s.sg.length := by omega
            (repeat' ((try (conv => whnf)); first | (with_reducible first | refine FCond.tA ?_ | refine FCond.fA ?_) | ((with_reducible refine FCond.i (fun hq => ?_) (fun hq => ?_)) <;> (try simp only [zA, zE, zD, zJ, zB, zI, Int.not_le, Int.not_lt] at hq)) | (with_reducible first | refine Fits.in64 (by omega) ?_ | refine FIdx.nat (by omega) ?_ | refine FIdx.int (by omega) ?_ | refine FTo.nat (by omega) ?_ | refine FTo.int (by omega) ?_) | ((with_reducible refine Need.mk ?_ ?_); focus exact needA) | (with_reducible refine FApp.grow ?_) | (refine FCall.pure works_ok True.intro rfl ?_) | (with_reducible refine FOr.pub ?_)))
            all_goals (try (conv => whnf))
            all_goals ((refine ⟨⟨_, [], [], Cut.nil _, Ln.sameB _ rfl, ?_, rfl⟩⟩); rfl)
      · rw [if_neg h2] at c2
        (repeat' ((try (conv => whnf)); first | (with_reducible first | refine FCond.tA ?_ | refine FCond.fA ?_) | ((with_reducible refine FCond.i (fun hq => ?_) (fun hq => ?_)) <;> (try simp only [zA, zE, zD, zJ, zB, zI, Int.not_le, Int.not_lt] at hq)) | (with_reducible first | refine Fits.in64 (by omega) ?_ | refine FIdx.nat (by omega) ?_ | refine FIdx.int (by omega) ?_ | refine FTo.nat (by omega) ?_ | refine FTo.int (by omega) ?_) | ((with_reducible refine Need.mk ?_ ?_); focus exact needA) | (with_reducible refine FApp.grow ?_) | (refine FCall.pure (cV) ⟨Ln.sameB _ rfl, True.intro⟩ rfl ?_) | (refine FCall.pure (c1) ⟨Ln.sameB _ rfl, Ln.sameB _ rfl, True.intro⟩ rfl ?_) | (refine FCall.pure (c2) ⟨Ln.sameB _ rfl, Ln.sameB _ rfl, True.intro⟩ rfl ?_) | (refine FCall.pure works_ok True.intro rfl ?_) | (with_reducible refine FOr.pub ?_)))
        all_goals (try (conv => whnf))
        all_goals ((refine ⟨⟨_, [], [], Cut.nil _, Ln.sameB _ rfl, ?_, rfl⟩⟩); rfl)
    · rw [if_neg h1] at c1
      (repeat' ((try (conv => whnf)); first | (with_reducible first | refine FCond.tA ?_ | refine FCond.fA ?_) | ((with_reducible refine FCond.i (fun hq => ?_) (fun hq => ?_)) <;> (try simp only [zA, zE, zD, zJ, zB, zI, Int.not_le, Int.not_lt] at hq)) | (with_reducible first | refine Fits.in64 (by omega) ?_ | refine FIdx.nat (by omega) ?_ | refine FIdx.int (by omega) ?_ | refine FTo.nat (by omega) ?_ | refine FTo.int (by omega) ?_) | ((with_reducible refine Need.mk ?_ ?_); focus exact needA) | (with_reducible refine FApp.grow ?_) | (refine FCall.pure (cV) ⟨Ln.sameB _ rfl, True.intro⟩ rfl ?_) | (refine FCall.pure (c1) ⟨Ln.sameB _ rfl, Ln.sameB _ rfl, True.intro⟩ rfl ?_) | (refine FCall.pure (c2) ⟨Ln.sameB _ rfl, Ln.sameB _ rfl, True.intro⟩ rfl ?_) | (refine FCall.pure works_ok True.intro rfl ?_) | (with_reducible refine FOr.pub ?_)))
      all_goals (try (conv => whnf))
      all_goals ((refine ⟨⟨_, [], [], Cut.nil _, Ln.sameB _ rfl, ?_, rfl⟩⟩); rfl)
end Go.Proofs.Ytnghcfmloljagaa
