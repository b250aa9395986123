/- From handed data to abstract values; from a reading of a law to what its row asks / Teams: how crews and jobs read. / Teams: the statement TeamsCheapest. / Teams: the statement TeamsProof. / Teams: the statement TeamsChain. / Teams: the statement TeamsVital. -/
import Derived.Test.YtdipcdallenmkaaBa6
import Derived.Test.YtdipcdallenmkaaBa10
import Derived.Test.YtdipcdallenmkaaBa9
set_option linter.unusedSimpArgs false
set_option linter.unusedVariables false
namespace Go.Proofs.Ytdipcdallenmkaa
open Go.RowKit Go.ChangeShapes Go.WideShapes Go.Deep

def nobody : Nat → Prop := fun _ => False
/-- Cells that are as a table says. -/
def CellsAre (w : World) (cs : List Value) (sz : Nat) (c : Nat → AV) : Prop := cs.length = sz ∧ ∀ o, o < sz → ∃ u, cs[o]? = some u ∧ u.oneCell' = true ∧ rep nobody w (c o) g0 u
theorem law_calls {P : Program} {f : FuncId} {xs : List AV} (H : ACall P f xs [] (fun r h => r = .bool true ∧ h = [])) {w : World} {vs : Array Value} (hs : vs.size = xs.length) (hr : ∀ (i : Nat) (x : AV), xs[i]? = some x → rep nobody w x g0 (vs.getD i undef)) :
    Calls P f vs w fun e w' => e = .returned (.bool true) ∧ Ext w w' := by
  have noM : ∀ b, MM nobody g0 [] b → False := fun b hb => by
    rcases hb with hb | ⟨d, cap, ⟨x, hx, _⟩, _⟩
    · exact hb
    · simp at hx
  refine (H.2 nobody g0 w vs (HOK.nil w (fun _ h => h.elim)) hs fun i x hx => rep_mono (Chg.refl _ w) (fun b _ hb => (noM b hb).elim) _ (GM.le_refl _) (hr i x hx)).mono ?_
  rintro e w' ⟨v, r, h', g', rfl, T, hv, rfl, _⟩
  have : v = .bool true := hv
  subst this
  exact ⟨rfl, T.chg.os, T.chg.tape, T.chg.output, T.chg.size, fun b hb => T.chg.block b hb (fun hm => noM b (.inr hm))⟩
theorem CellsAre.agg {w : World} {cs : List Value} {sz : Nat} {c : Nat → AV} (h : CellsAre w cs sz c) : rep nobody w (.agg sz c) g0 (.agg cs.toArray) :=
  ⟨_, rfl, by simp [h.1], fun i hi => by obtain ⟨u, h1, h2, h3⟩ := h.2 i hi; exact ⟨u, by simpa using h1, h2, h3⟩⟩
theorem CellsAre.val {w : World} {v : Value} {cs : List Value} {c : Nat → AV} (h : CellsAre w cs 1 c) (hv : cs = [v]) : rep nobody w (c 0) g0 v := by
  subst hv
  obtain ⟨u, h1, _, h3⟩ := h.2 0 (by omega)
  simp at h1
  rw [h1]; exact h3
theorem CellsAre.sub {w : World} {cs : List Value} {off k : Nat} {c : Nat → AV} (h : CellsAre w ((cs.drop off).take k) k c) {o : Nat} (ho : o < k) : ∃ u, cs[off + o]? = some u ∧ u.oneCell' = true ∧ rep nobody w (c o) g0 u := by
  obtain ⟨u, h1, h2⟩ := h.2 o ho
  rw [List.getElem?_take] at h1
  simp only [ho, if_true, List.getElem?_drop] at h1
  exact ⟨u, h1, h2⟩
theorem CellsAre.one {w : World} {v : Value} {x : AV} (h1 : v.oneCell' = true) (h : rep nobody w x g0 v) : CellsAre w [v] 1 (fun _ => x) :=
  ⟨rfl, fun o ho => by obtain rfl : o = 0 := (by omega)
                       exact ⟨v, rfl, h1, h⟩⟩
section
variable {H : Type} {enc : TypeId × Value → H} {P : Program} {w : World} {base : Nat} {held : Bool}
theorem rdr_int {t : TypeId} {n : Nat} {cs : List Value} {y : DataW H × List MemPlace} (ht : P.underlying t = some (.int .i64)) (h : DataW.trod enc P w base (fun _ => true) held n t cs = some y) : ∃ i : Int, I64 i ∧ CellsAre w cs 1 (fun _ => .int .i64 i) := by
  obtain ⟨i, rfl, hi⟩ := rd_int ht h
  exact ⟨i, hi, .one rfl rfl⟩
theorem rdr_slice {α : Type} {t e : TypeId} {sz : Nat} (c : α → Nat → AV) (Q : α → Prop) (d : α) (ht : P.underlying t = some (.slice e)) (hc : P.cellsOf e = sz) (hsz : 0 < sz) (rd : ∀ {n : Nat} {cs : List Value} {y : DataW H × List MemPlace}, DataW.trod enc P w base (fun _ => true) held n e cs = some y → ∃ x, Q x ∧ CellsAre w cs sz (c x))
    {n : Nat} {cs : List Value} {y : DataW H × List MemPlace} (h : DataW.trod enc P w base (fun _ => true) held n t cs = some y) :
    ∃ (z : Bool) (l : List α), (l.length ≤ 9223372036854775807 ∧ ∀ x ∈ l, Q x) ∧ CellsAre w cs 1 (fun _ => .sl z false l.length sz (fun k => c (l.getD k d))) := by
  have hmx : maxLen = 9223372036854775807 := rfl
  have h' := h
  rcases open_slice ht h with ⟨rfl, _⟩ | ⟨a, len, cap, m, n', D, Pl, rfl, hb, hl, hm, hmm, _, hx⟩
  · refine ⟨true, [], ⟨by simp, fun x hx => by cases hx⟩, .one rfl ⟨none, 0, rfl, by simp, by simp, fun h => (by cases h), by simp, fun k hk => absurd hk (Nat.not_lt_zero k)⟩⟩
  · obtain ⟨A, len', cap', h0, hl', hn, hxx⟩ := rd_slice ht hc hsz h'
    injection h0 with e1 e2 e3
    subst e1; subst e2; subst e3
    have key : ∀ i, i < len → ∃ x : α, Q x ∧ ∃ b off, (some a : Option Addr) = some ⟨b, off, none⟩ ∧ b < w.heap.size ∧ ∀ o, o < sz → ∃ u, w.cell? ⟨b, off + i * sz + o, none⟩ = some u ∧ u.oneCell' = true ∧ rep nobody w (c x o) g0 u := fun i hi => by
      obtain ⟨b, off, m, cs, z, hA, hb, hlen, hcell, ht'⟩ := hxx i hi
      obtain ⟨x, hq, hcs⟩ := rd ht'
      refine ⟨x, hq, b, off, hA, hb, fun o ho => ?_⟩
      obtain ⟨u, h1, h2⟩ := hcs.2 o ho
      exact ⟨u, (hcell o ho).trans h1, h2⟩
    obtain ⟨f, hf⟩ : ∃ f : Nat → α, ∀ i, i < len → Q (f i) ∧ ∃ b off, (some a : Option Addr) = some ⟨b, off, none⟩ ∧ b < w.heap.size ∧ ∀ o, o < sz → ∃ u, w.cell? ⟨b, off + i * sz + o, none⟩ = some u ∧ u.oneCell' = true ∧ rep nobody w (c (f i) o) g0 u := by
      refine ⟨fun i => open Classical in if hi : i < len then (key i hi).choose else d, fun i hi => ?_⟩
      simp only [hi, dif_pos]
      exact (key i hi).choose_spec
    have hlen : ((List.range len).map f).length = len := by simp
    refine ⟨false, (List.range len).map f, ⟨by rw [hlen]; omega, fun x hx => ?_⟩, ?_⟩
    · obtain ⟨k, hk, rfl⟩ := List.mem_map.1 hx
      exact (hf k (by simpa using hk)).1
    · refine .one rfl ⟨some a, cap, by rw [hlen], by simp, by simp, fun h => (by cases h), by rw [hlen]; exact hl, fun k hk o ho => ?_⟩
      rw [hlen] at hk
      obtain ⟨_, b, off, h1, h2, h3⟩ := hf k hk
      obtain ⟨u, h4, h5, h6⟩ := h3 o ho
      have hg : ((List.range len).map f).getD k d = f k := by simp [List.getD, hk]
      exact ⟨b, off, u, h1, h2, fun h => h, h4, h5, by show rep nobody w (c (((List.range len).map f).getD k d) o) g0 u; rw [hg]; exact h6⟩
theorem rdr_field {t : TypeId} {fs : Array Field} {n : Nat} {cs : List Value} {y : DataW H × List MemPlace} (ht : P.underlying t = some (.struct fs)) (h : DataW.trod enc P w base (fun _ => true) held n t cs = some y) : cs.length = P.cellsOf t ∧ ∀ (k : Nat) (f : Field), fs[k]? = some f → ∃ m x, DataW.trod enc P w base (fun _ => true) held m f.type ((cs.drop f.offset).take (P.cellsOf f.type)) = some x := by
  obtain ⟨xs, m, _, rfl, hl, hlen, hf⟩ := DataW.trod_struct ht h
  refine ⟨hl, fun k f hk => ?_⟩
  have hk' : k < fs.size := by
    rcases Nat.lt_or_ge k fs.size with h | h
    · exact h
    · rw [Array.getElem?_eq_none h] at hk; cases hk
  have := hf k f hk
  rw [List.getElem?_eq_getElem (by omega)] at this
  exact ⟨m, _, this⟩
/-- Each field reads. -/
def FRd (enc : TypeId × Value → H) (P : Program) (w : World) (base : Nat) (held : Bool) (cs : List Value) : List Field → Prop
  | [] => True
  | f :: fs => (∃ m x, DataW.trod enc P w base (fun _ => true) held m f.type ((cs.drop f.offset).take (P.cellsOf f.type)) = some x) ∧ FRd enc P w base held cs fs
theorem FRd.of {cs : List Value} : ∀ {l : List Field}, (∀ f ∈ l, ∃ m x, DataW.trod enc P w base (fun _ => true) held m f.type ((cs.drop f.offset).take (P.cellsOf f.type)) = some x) → FRd enc P w base held cs l
  | [], _ => trivial
  | _ :: _, h => ⟨h _ List.mem_cons_self, FRd.of fun f hf => h f (List.mem_cons_of_mem _ hf)⟩
theorem rdr_fields {t : TypeId} {fs : Array Field} {n : Nat} {cs : List Value} {y : DataW H × List MemPlace} (ht : P.underlying t = some (.struct fs)) (h : DataW.trod enc P w base (fun _ => true) held n t cs = some y) : cs.length = P.cellsOf t ∧ FRd enc P w base held cs fs.toList := by
  obtain ⟨h1, h2⟩ := rdr_field ht h
  refine ⟨h1, FRd.of fun f hf => ?_⟩
  obtain ⟨k, hk, rfl⟩ := List.getElem_of_mem hf
  exact h2 k _ (by simp)
end
end Go.Proofs.Ytdipcdallenmkaa

namespace Go.Proofs.Ytdipcdallenmkaa
open Go.RowKit Go.ChangeShapes Go.WideShapes Go.Deep

section
variable {H : Type} {enc : TypeId × Value → H} {w : World} {base : Nat} {held : Bool}
theorem csz : Try.prog.cellsOf 3 = 1 ∧ Try.prog.cellsOf 28 = 1 ∧ Try.prog.cellsOf 4 = 1 ∧ Try.prog.cellsOf 30 = 6 ∧ Try.prog.cellsOf 22 = 1 ∧ Try.prog.cellsOf 54 = 3 ∧ Try.prog.cellsOf 23 = 1 ∧ Try.prog.cellsOf 25 = 3 ∧ Try.prog.cellsOf 27 = 6 := by
  refine ⟨?_, ?_, ?_, ?_, ?_, ?_, ?_, ?_, ?_⟩ <;> kernel_rfl
theorem rt_int {n : Nat} {cs : List Value} {y : DataW H × List MemPlace} (h : DataW.trod enc Try.prog w base (fun _ => true) held n 3 cs = some y) : ∃ i : Int, I64 i ∧ CellsAre w cs 1 (fun _ => AI i) := rdr_int Try.underlying3 h
theorem rt_bool {n : Nat} {cs : List Value} {y : DataW H × List MemPlace} (h : DataW.trod enc Try.prog w base (fun _ => true) held n 4 cs = some y) : ∃ b : Bool, CellsAre w cs 1 (fun _ => .bool b) := by
  obtain ⟨b, rfl, _⟩ := DataW.trod_bool Try.underlying4 h
  exact ⟨b, .one rfl rfl⟩
theorem rt_ints {n : Nat} {cs : List Value} {y : DataW H × List MemPlace} (h : DataW.trod enc Try.prog w base (fun _ => true) held n 28 cs = some y) : ∃ (z : Bool) (l : List Int), (l.length ≤ 9223372036854775807 ∧ ∀ x ∈ l, I64 x) ∧ CellsAre w cs 1 (fun _ => aInts z false l) :=
  rdr_slice (fun (x : Int) _ => AI x) I64 0 Try.underlying28 csz.1 (by omega) rt_int h
theorem rt_person {n : Nat} {cs : List Value} {y : DataW H × List MemPlace} (h : DataW.trod enc Try.prog w base (fun _ => true) held n 30 cs = some y) : ∃ x : PFl × Person, (I64 x.2.fields ∧ I64 x.2.clears ∧ I64 x.2.fee) ∧ CellsAre w cs 6 (cPerson x.1 x.2) := by
  obtain ⟨hl, ⟨_, _, h0⟩, ⟨_, _, h1⟩, ⟨_, _, h2⟩, ⟨_, _, h3⟩, ⟨_, _, h4⟩, ⟨_, _, h5⟩, _⟩ := rdr_fields Try.underlying30 h
  simp only [csz.1, csz.2.1, csz.2.2.1] at h0 h1 h2 h3 h4 h5
  obtain ⟨z0, a, _, c0⟩ := rt_ints h0
  obtain ⟨b, hb, c1⟩ := rt_int h1
  obtain ⟨c, hc, c2⟩ := rt_int h2
  obtain ⟨z3, d, _, c3⟩ := rt_ints h3
  obtain ⟨e, c4⟩ := rt_bool h4
  obtain ⟨f, hf, c5⟩ := rt_int h5
  refine ⟨(⟨z0, false, z3, false⟩, ⟨a, b, c, d, e, f⟩), ⟨hb, hc, hf⟩, by rw [hl]; exact csz.2.2.2.1, fun o ho => ?_⟩
  rcases (show o = 0 ∨ o = 1 ∨ o = 2 ∨ o = 3 ∨ o = 4 ∨ o = 5 by omega) with rfl | rfl | rfl | rfl | rfl | rfl
  · exact c0.sub (o := 0) (by omega)
  · exact c1.sub (o := 0) (by omega)
  · exact c2.sub (o := 0) (by omega)
  · exact c3.sub (o := 0) (by omega)
  · exact c4.sub (o := 0) (by omega)
  · exact c5.sub (o := 0) (by omega)
theorem rt_people {n : Nat} {cs : List Value} {y : DataW H × List MemPlace} (h : DataW.trod enc Try.prog w base (fun _ => true) held n 22 cs = some y) : ∃ (z : Bool) (pf : Nat → PFl) (l : List Person), (l.length ≤ 9223372036854775807 ∧ ∀ x ∈ l, I64 x.fields ∧ I64 x.clears ∧ I64 x.fee) ∧ CellsAre w cs 1 (fun _ => aPeople z false pf l) := by
  obtain ⟨z, l, ⟨h1, h2⟩, c⟩ := rdr_slice (fun (x : PFl × Person) => cPerson x.1 x.2) (fun x => I64 x.2.fields ∧ I64 x.2.clears ∧ I64 x.2.fee) (⟨true, true, true, true⟩, ps0) Try.underlying22 csz.2.2.2.1 (by omega) rt_person h
  have hb : ∀ k, (l.map Prod.snd).getD k ps0 = (l.getD k (⟨true, true, true, true⟩, ps0)).2 := fun k => by
    simp only [List.getD, List.getElem?_map]
    cases l[k]? <;> rfl
  refine ⟨z, fun k => (l.getD k (⟨true, true, true, true⟩, ps0)).1, l.map Prod.snd, ⟨by simpa using h1, fun x hx => ?_⟩, ?_⟩
  · obtain ⟨y, hy, rfl⟩ := List.mem_map.1 hx
    exact h2 y hy
  · simp only [aPeople, List.length_map, hb]
    exact c
theorem rt_law {n : Nat} {cs : List Value} {y : DataW H × List MemPlace} (h : DataW.trod enc Try.prog w base (fun _ => true) held n 54 cs = some y) : ∃ x : LawT, True ∧ CellsAre w cs 3 (cLaw x) := by
  obtain ⟨hl, ⟨_, _, h0⟩, ⟨_, _, h1⟩, ⟨_, _, h2⟩, _⟩ := rdr_fields Try.underlying54 h
  simp only [csz.1, csz.2.2.1] at h0 h1 h2
  obtain ⟨a, _, c0⟩ := rt_int h0
  obtain ⟨b, _, c1⟩ := rt_int h1
  obtain ⟨c, c2⟩ := rt_bool h2
  refine ⟨⟨a, b, c⟩, trivial, by rw [hl]; exact csz.2.2.2.2.2.1, fun o ho => ?_⟩
  rcases (show o = 0 ∨ o = 1 ∨ o = 2 by omega) with rfl | rfl | rfl
  · exact c0.sub (o := 0) (by omega)
  · exact c1.sub (o := 0) (by omega)
  · exact c2.sub (o := 0) (by omega)
theorem rt_laws {n : Nat} {cs : List Value} {y : DataW H × List MemPlace} (h : DataW.trod enc Try.prog w base (fun _ => true) held n 23 cs = some y) : ∃ (z : Bool) (l : List LawT), (l.length ≤ 9223372036854775807 ∧ ∀ x ∈ l, True) ∧ CellsAre w cs 1 (fun _ => aLaws z false l) :=
  rdr_slice cLaw (fun _ => True) lw0 Try.underlying23 csz.2.2.2.2.2.1 (by omega) rt_law h
theorem rt_crew {n : Nat} {cs : List Value} {y : DataW H × List MemPlace} (h : DataW.trod enc Try.prog w base (fun _ => true) held n 25 cs = some y) : ∃ (f : CFl) (c : Crew), (I64 c.langs ∧ ∀ x ∈ c.people, I64 x.fields ∧ I64 x.clears ∧ I64 x.fee) ∧ CellsAre w cs 3 (cCrew f c) := by
  obtain ⟨hl, ⟨_, _, h0⟩, ⟨_, _, h1⟩, ⟨_, _, h2⟩, _⟩ := rdr_fields Try.underlying25 h
  simp only [csz.1, csz.2.2.2.2.1, csz.2.2.2.2.2.2.1] at h0 h1 h2
  obtain ⟨a, ha, c0⟩ := rt_int h0
  obtain ⟨z1, pf, b, ⟨_, hb⟩, c1⟩ := rt_people h1
  obtain ⟨z2, c, _, c2⟩ := rt_laws h2
  refine ⟨⟨z1, false, z2, false, pf⟩, ⟨a, b, c⟩, ⟨ha, hb⟩, by rw [hl]; exact csz.2.2.2.2.2.2.2.1, fun o ho => ?_⟩
  rcases (show o = 0 ∨ o = 1 ∨ o = 2 by omega) with rfl | rfl | rfl
  · exact c0.sub (o := 0) (by omega)
  · exact c1.sub (o := 0) (by omega)
  · exact c2.sub (o := 0) (by omega)
theorem rt_job {n : Nat} {cs : List Value} {y : DataW H × List MemPlace} (h : DataW.trod enc Try.prog w base (fun _ => true) held n 27 cs = some y) : ∃ j : Job, (I64 j.fr ∧ I64 j.to ∧ I64 j.client ∧ I64 j.field ∧ I64 j.kind ∧ I64 j.size) ∧ CellsAre w cs 6 (cJob j) := by
  obtain ⟨hl, ⟨_, _, h0⟩, ⟨_, _, h1⟩, ⟨_, _, h2⟩, ⟨_, _, h3⟩, ⟨_, _, h4⟩, ⟨_, _, h5⟩, _⟩ := rdr_fields Try.underlying27 h
  simp only [csz.1] at h0 h1 h2 h3 h4 h5
  obtain ⟨a, ha, c0⟩ := rt_int h0
  obtain ⟨b, hb, c1⟩ := rt_int h1
  obtain ⟨c, hc, c2⟩ := rt_int h2
  obtain ⟨d, hd, c3⟩ := rt_int h3
  obtain ⟨e, he, c4⟩ := rt_int h4
  obtain ⟨f, hf, c5⟩ := rt_int h5
  refine ⟨⟨a, b, c, d, e, f⟩, ⟨ha, hb, hc, hd, he, hf⟩, by rw [hl]; exact csz.2.2.2.2.2.2.2.2, fun o ho => ?_⟩
  rcases (show o = 0 ∨ o = 1 ∨ o = 2 ∨ o = 3 ∨ o = 4 ∨ o = 5 by omega) with rfl | rfl | rfl | rfl | rfl | rfl
  · exact c0.sub (o := 0) (by omega)
  · exact c1.sub (o := 0) (by omega)
  · exact c2.sub (o := 0) (by omega)
  · exact c3.sub (o := 0) (by omega)
  · exact c4.sub (o := 0) (by omega)
  · exact c5.sub (o := 0) (by omega)
end
end Go.Proofs.Ytdipcdallenmkaa

namespace Go.Proofs.Ytdipcdallenmkaa
open Go.RowKit

theorem getD_mem {α : Type} {l : List α} {i : Nat} {d : α} (h : i < l.length) : l.getD i d ∈ l := by
  simp [List.getD, List.getElem?_eq_getElem h]
theorem setL_take {l : List Int} {i : Nat} (h : i < l.length) : setL (l.take (i + 1)) = setL (l.take i) ||| 2 ^ (l.getD i 0).toNat := by
  rw [List.take_add_one, ← setL_snoc]
  simp [List.getD, List.getElem?_eq_getElem h]
set_option maxHeartbeats 4000000
set_option maxRecDepth 100000
theorem cheap_any (f : CFl) (c : Crew) (j : Job) (o : Int) : ACall Try.prog 7 [aCrew f c, aJob j, AI o] [] (fun v h => v = .bool true ∧ h = []) := by
  have hcv := ready_ok f c j
  (refine fcall_of mixed Try.func7 rfl (by decide) (hs := {}) ?k (ac := ?ac) ?c (rs := ?rs) ?r ?l ?H; (case k => kernel_rfl); (case c => (conv => (lhs; cbv))); (case r => (conv => (lhs; cbv))); (case l => exact Nat.le_of_ble_eq_true rfl))
  cases hv : (!farT c && decide (checkT c j = 0))
  · rw [hv] at hcv
    (repeat' ((try (conv => whnf)); first | (with_reducible first | refine FCond.tA ?_ | refine FCond.fA ?_) | ((with_reducible refine FCond.i (fun hq => ?_) (fun hq => ?_)) <;> (try simp only [zA, zE, zD, zJ, zB, zI, Int.not_le, Int.not_lt] at hq)) | (with_reducible first | refine Fits.in64 (by omega) ?_ | refine FIdx.nat (by omega) ?_ | refine FIdx.int (by omega) ?_ | refine FTo.nat (by omega) ?_ | refine FTo.int (by omega) ?_) | ((with_reducible refine Need.mk ?_ ?_); focus exact needA) | (with_reducible refine FApp.grow ?_) | (refine FCall.pure (hcv) ⟨Ln.sameB _ rfl, Ln.sameB _ rfl, True.intro⟩ rfl ?_) | (refine FCall.pure works_ok True.intro rfl ?_)))
    all_goals (try (conv => whnf))
    all_goals ((refine ⟨⟨_, [], [], Cut.nil _, Ln.sameB _ rfl, ?_, rfl⟩⟩); rfl)
  rw [hv] at hcv
  simp only [Bool.and_eq_true, Bool.not_eq_true', decide_eq_true_eq] at hv
  obtain ⟨hn, h0⟩ := hv
  obtain ⟨hc, hj⟩ := checkT_0.1 h0
  obtain ⟨d1, d2, d3, d4, d5⟩ := crew_d hc
  have hp := pow_le d2
  have cT := pteam_ok f c j
  have cM := may_ok f c j
  have hml := may_len (c := c) (j := j)
  have hmE : mayE c j = mayL c j := by unfold mayE; rw [if_pos h0]
  rw [hmE, h0] at cM
  have hol : (outI (mayL c j)) = aInts (mayL c j).isEmpty (mayL c j).isEmpty (mayL c j) := rfl
  rcases best_two c j with ⟨b1, b2⟩ | ⟨b1, b2, b3, b4, b5⟩
  · have hE : teamE c j = (0, 0, 3) := by unfold teamE; rw [if_pos h0, if_pos b1]
    rw [hE] at cT
    (repeat' ((try (conv => whnf)); first | (with_reducible first | refine FCond.tA ?_ | refine FCond.fA ?_) | ((with_reducible refine FCond.i (fun hq => ?_) (fun hq => ?_)) <;> (try simp only [zA, zE, zD, zJ, zB, zI, Int.not_le, Int.not_lt] at hq)) | (with_reducible first | refine Fits.in64 (by omega) ?_ | refine FIdx.nat (by omega) ?_ | refine FIdx.int (by omega) ?_ | refine FTo.nat (by omega) ?_ | refine FTo.int (by omega) ?_) | ((with_reducible refine Need.mk ?_ ?_); focus exact needA) | (with_reducible refine FApp.grow ?_) | (refine FCall.pure (hcv) ⟨Ln.sameB _ rfl, Ln.sameB _ rfl, True.intro⟩ rfl ?_) | (refine FCall.pure (cT) ⟨Ln.sameB _ rfl, Ln.sameB _ rfl, True.intro⟩ rfl ?_) | (refine FCall.pure (cM) ⟨Ln.sameB _ rfl, Ln.sameB _ rfl, True.intro⟩ rfl ?_) | (refine FCall.pure works_ok True.intro rfl ?_) | (refine FCall.pure ((isTeam_ok _ _ _ d2)) ⟨Ln.sameB _ rfl, Ln.sameB _ rfl, True.intro⟩ rfl ?_)))
    all_goals (try (conv => whnf))
    · (refine ⟨⟨_, [], [], Cut.nil _, Ln.sameB _ rfl, ?_, rfl⟩⟩)
      rfl
    · have hq1 := hq
      simp only [isTeamT, inB, decide_eq_true_eq] at hq1
      obtain ⟨u, rfl⟩ : ∃ u : Nat, o = u := ⟨o.toNat, by omega⟩
      have hfu : fitsT c j u = false := by
        rcases Nat.eq_zero_or_pos u with e | e
        · subst e; simp [fitsT]
        · exact b2 u e (by omega)
      have cF := fits_ok f c j u hc hj (by omega)
      rw [hfu] at cF
      (repeat' ((try (conv => whnf)); first | (with_reducible first | refine FCond.tA ?_ | refine FCond.fA ?_) | ((with_reducible refine FCond.i (fun hq => ?_) (fun hq => ?_)) <;> (try simp only [zA, zE, zD, zJ, zB, zI, Int.not_le, Int.not_lt] at hq)) | (with_reducible first | refine Fits.in64 (by omega) ?_ | refine FIdx.nat (by omega) ?_ | refine FIdx.int (by omega) ?_ | refine FTo.nat (by omega) ?_ | refine FTo.int (by omega) ?_) | ((with_reducible refine Need.mk ?_ ?_); focus exact needA) | (with_reducible refine FApp.grow ?_) | (refine FCall.pure works_ok True.intro rfl ?_) | (refine FCall.pure (cF) ⟨Ln.sameB _ rfl, Ln.sameB _ rfl, Ln.sameB _ rfl, True.intro⟩ rfl ?_)))
      all_goals (try (conv => whnf))
      (refine ⟨⟨_, [], [], Cut.nil _, Ln.sameB _ rfl, ?_, rfl⟩⟩)
      rfl
  · have hE : teamE c j = (((bestT c j).1 : Int), (bestT c j).2, 0) := by unfold teamE; rw [if_pos h0, if_neg (by omega)]
    rw [hE] at cT
    generalize (bestT c j).1 = t at *
    generalize (bestT c j).2 = n at *
    obtain ⟨f1, f2⟩ := fits_b.1 b3
    have cB := broken_ok f c j t
    have hbE : brokenE c j t = (0, 0) := by unfold brokenE; rw [if_pos (checkTm_t h0 (isT_iff.2 b2)), Int.toNat_natCast, f2]; rfl
    rw [hbE] at cB
    have cI := isTeam_ok f c t d2
    rw [isT_iff.2 b2] at cI
    have cF := fee_ok f c t hc
    have hsd := team_in_may f2 b2
    have hmg : ∀ i, i < (mayL c j).length → 0 ≤ (mayL c j).getD i 0 ∧ (mayL c j).getD i 0 < c.people.length := fun i hi => by
      obtain ⟨k, h1, h2, _⟩ := may_mem.1 (getD_mem (d := 0) hi)
      omega
    have hset : ∀ i, setL ((mayL c j).take i) < 256 := fun i => by
      have := setL_lt (l := (mayL c j).take i) (n := c.people.length) (fun x hx => by
        obtain ⟨k, h1, h2, _⟩ := may_mem.1 (List.mem_of_mem_take hx)
        omega)
      omega
    (repeat' ((try (conv => whnf)); first | (with_reducible first | refine FCond.tA ?_ | refine FCond.fA ?_) | ((with_reducible refine FCond.i (fun hq => ?_) (fun hq => ?_)) <;> (try simp only [zA, zE, zD, zJ, zB, zI, Int.not_le, Int.not_lt] at hq)) | (with_reducible first | refine Fits.in64 (by omega) ?_ | refine FIdx.nat (by omega) ?_ | refine FIdx.int (by omega) ?_ | refine FTo.nat (by omega) ?_ | refine FTo.int (by omega) ?_) | ((with_reducible refine Need.mk ?_ ?_); focus exact needA) | (with_reducible refine FApp.grow ?_) | (refine FCall.pure (hcv) ⟨Ln.sameB _ rfl, Ln.sameB _ rfl, True.intro⟩ rfl ?_) | (refine FCall.pure (cT) ⟨Ln.sameB _ rfl, Ln.sameB _ rfl, True.intro⟩ rfl ?_) | (refine FCall.pure (cM) ⟨Ln.sameB _ rfl, Ln.sameB _ rfl, True.intro⟩ rfl ?_)))
    all_goals (try (conv => whnf))
    refine FLoop.of (ACalls.mono _) (X := Nat) (fun i => [(2, AI o), (3, .ptr 0 0), (4, .ptr 1 0), (7, AI t), (8, AI n), (9, AI 0), (10, outI (mayL c j)), (12, AI (setL ((mayL c j).take i))), (13, AI i)]) (fun _ => [.box 3 (cCrew f c), .box 6 (cJob j)]) (fun i => i ≤ (mayL c j).length) (fun i => (mayL c j).length - i) 0 ⟨Nat.zero_le _, [0, 1], Cut.A, allA⟩ ?_
    intro i hi
    by_cases hlt : i < (mayL c j).length
    · have hx := hmg i hlt
      have hs1 := hset i
      have hs2 := setL_take hlt
      have hpw : 2 ^ ((mayL c j).getD i 0).toNat < 512 := Nat.lt_of_lt_of_le (Nat.pow_lt_pow_right (by decide) (show _ < 9 by omega)) (by decide)
      (repeat' ((try (conv => whnf)); first | (with_reducible first | refine FCond.tA ?_ | refine FCond.fA ?_) | ((with_reducible refine FCond.i (fun hq => ?_) (fun hq => ?_)) <;> (try simp only [zA, zE, zD, zJ, zB, zI, Int.not_le, Int.not_lt] at hq)) | (with_reducible first | refine Fits.in64 (by omega) ?_ | refine FIdx.nat (by omega) ?_ | refine FIdx.int (by omega) ?_ | refine FTo.nat (by omega) ?_ | refine FTo.int (by omega) ?_) | ((with_reducible refine Need.mk ?_ ?_); focus exact needA) | (with_reducible first | refine FBit.hasT rfl (by assumption) ?_ | refine FBit.hasF rfl (by assumption) ?_ | refine FBit.shrN rfl (by omega) ?_ | refine FBit.half rfl ?_ | refine FBit.shl1 rfl (by omega) ?_ | refine Fits.inU (by omega) ?_ | refine FBit.shrNI rfl (by omega) ?_ | refine FBit.shrIN rfl (by omega) (by omega) ?_ | refine FBit.shrI rfl (by omega) (by omega) ?_ | refine FBit.shl1I rfl (by omega) ?_) | (with_reducible refine FBit.has rfl (fun hq => ?_) (fun hq => ?_)) | (with_reducible first | refine FBit.and1 rfl ?_ | refine FBit.andN rfl (by omega) (by omega) ?_ | refine FBit.orN rfl (by omega) (by omega) ?_ | refine FBit.andNotN rfl (by omega) (by omega) ?_) | (with_reducible refine FApp.grow ?_) | (refine FBit.orN rfl (by omega) (by omega) ?_)))
      all_goals (try (conv => whnf))
      (exact ⟨⟨(i + 1), hlt, by show _ < _; omega, [0, 1], Cut.A, allA⟩⟩)
    · obtain rfl : i = (mayL c j).length := by omega
      have hs1 := hset (mayL c j).length
      rw [List.take_length] at hs1 ⊢
      (repeat' ((try (conv => whnf)); first | (with_reducible first | refine FCond.tA ?_ | refine FCond.fA ?_) | ((with_reducible refine FCond.i (fun hq => ?_) (fun hq => ?_)) <;> (try simp only [zA, zE, zD, zJ, zB, zI, Int.not_le, Int.not_lt] at hq)) | (with_reducible first | refine Fits.in64 (by omega) ?_ | refine FIdx.nat (by omega) ?_ | refine FIdx.int (by omega) ?_ | refine FTo.nat (by omega) ?_ | refine FTo.int (by omega) ?_) | ((with_reducible refine Need.mk ?_ ?_); focus exact needA) | (with_reducible first | refine FBit.hasT rfl (by assumption) ?_ | refine FBit.hasF rfl (by assumption) ?_ | refine FBit.shrN rfl (by omega) ?_ | refine FBit.half rfl ?_ | refine FBit.shl1 rfl (by omega) ?_ | refine Fits.inU (by omega) ?_ | refine FBit.shrNI rfl (by omega) ?_ | refine FBit.shrIN rfl (by omega) (by omega) ?_ | refine FBit.shrI rfl (by omega) (by omega) ?_ | refine FBit.shl1I rfl (by omega) ?_) | (with_reducible refine FBit.has rfl (fun hq => ?_) (fun hq => ?_)) | (with_reducible first | refine FBit.and1 rfl ?_ | refine FBit.andN rfl (by omega) (by omega) ?_ | refine FBit.orN rfl (by omega) (by omega) ?_ | refine FBit.andNotN rfl (by omega) (by omega) ?_) | (with_reducible refine FApp.grow ?_) | (refine FCall.pure (cB) ⟨Ln.sameB _ rfl, Ln.sameB _ rfl, Ln.sameB _ rfl, True.intro⟩ rfl ?_) | (refine FCall.pure (cI) ⟨Ln.sameB _ rfl, Ln.sameB _ rfl, True.intro⟩ rfl ?_) | (refine FCall.pure (cF) ⟨Ln.sameB _ rfl, Ln.sameB _ rfl, True.intro⟩ rfl ?_) | (refine FBit.andNotN rfl (by omega) (by omega) ?_) | (refine FCall.pure ((isTeam_ok _ _ _ d2)) ⟨Ln.sameB _ rfl, Ln.sameB _ rfl, True.intro⟩ rfl ?_) | (refine FCall.pure works_ok True.intro rfl ?_)))
      all_goals (try (conv => whnf))
      · (refine ⟨⟨_, [], [], Cut.nil _, Ln.sameB _ rfl, ?_, rfl⟩⟩)
        rfl
      · have hq1 := hq
        simp only [isTeamT, inB, decide_eq_true_eq] at hq1
        obtain ⟨u, rfl⟩ : ∃ u : Nat, o = u := ⟨o.toNat, by omega⟩
        have hb5 : fitsT c j u = true → feeT c t < feeT c u ∨ (feeT c t = feeT c u ∧ t ≤ u) := fun h => b5 u (fits_b.1 h).1 (by omega) h
        have cFi := fits_ok f c j u hc hj (by omega)
        have cFu := fee_ok f c u hc
        cases hfu : fitsT c j u
        · rw [hfu] at cFi
          (repeat' ((try (conv => whnf)); first | (with_reducible first | refine FCond.tA ?_ | refine FCond.fA ?_) | ((with_reducible refine FCond.i (fun hq => ?_) (fun hq => ?_)) <;> (try simp only [zA, zE, zD, zJ, zB, zI, Int.not_le, Int.not_lt] at hq)) | (with_reducible first | refine Fits.in64 (by omega) ?_ | refine FIdx.nat (by omega) ?_ | refine FIdx.int (by omega) ?_ | refine FTo.nat (by omega) ?_ | refine FTo.int (by omega) ?_) | ((with_reducible refine Need.mk ?_ ?_); focus exact needA) | (with_reducible refine FApp.grow ?_) | (refine FCall.pure (cFi) ⟨Ln.sameB _ rfl, Ln.sameB _ rfl, Ln.sameB _ rfl, True.intro⟩ rfl ?_) | (refine FCall.pure works_ok True.intro rfl ?_)))
          all_goals (try (conv => whnf))
          (refine ⟨⟨_, [], [], Cut.nil _, Ln.sameB _ rfl, ?_, rfl⟩⟩)
          rfl
        · rw [hfu] at cFi
          have hb5 := hb5 hfu
          (repeat' ((try (conv => whnf)); first | (with_reducible first | refine FCond.tA ?_ | refine FCond.fA ?_) | ((with_reducible refine FCond.i (fun hq => ?_) (fun hq => ?_)) <;> (try simp only [zA, zE, zD, zJ, zB, zI, Int.not_le, Int.not_lt] at hq)) | (with_reducible first | refine Fits.in64 (by omega) ?_ | refine FIdx.nat (by omega) ?_ | refine FIdx.int (by omega) ?_ | refine FTo.nat (by omega) ?_ | refine FTo.int (by omega) ?_) | ((with_reducible refine Need.mk ?_ ?_); focus exact needA) | (with_reducible refine FApp.grow ?_) | (refine FCall.pure (cFi) ⟨Ln.sameB _ rfl, Ln.sameB _ rfl, Ln.sameB _ rfl, True.intro⟩ rfl ?_) | (refine FCall.pure (cFu) ⟨Ln.sameB _ rfl, Ln.sameB _ rfl, True.intro⟩ rfl ?_) | (refine FCall.pure works_ok True.intro rfl ?_)))
          all_goals (try (conv => whnf))
          all_goals ((refine ⟨⟨_, [], [], Cut.nil _, Ln.sameB _ rfl, ?_, rfl⟩⟩); rfl)
end Go.Proofs.Ytdipcdallenmkaa

namespace Go.Proofs.Ytdipcdallenmkaa
open Go.RowKit

set_option maxHeartbeats 4000000
set_option maxRecDepth 100000
theorem proof_any (f : CFl) (c : Crew) (j : Job) (m o : Int) : ACall Try.prog 4 [aCrew f c, aJob j, AI m, AI o] [] (fun v h => v = .bool true ∧ h = []) := by
  have hcv := ready_ok f c j
  (refine fcall_of mixed Try.func4 rfl (by decide) (hs := {}) ?k (ac := ?ac) ?c (rs := ?rs) ?r ?l ?H; (case k => kernel_rfl); (case c => (conv => (lhs; cbv))); (case r => (conv => (lhs; cbv))); (case l => exact Nat.le_of_ble_eq_true rfl))
  cases hv : (!farT c && decide (checkT c j = 0))
  · rw [hv] at hcv
    (repeat' ((try (conv => whnf)); first | (with_reducible first | refine FCond.tA ?_ | refine FCond.fA ?_) | ((with_reducible refine FCond.i (fun hq => ?_) (fun hq => ?_)) <;> (try simp only [zA, zE, zD, zJ, zB, zI, Int.not_le, Int.not_lt] at hq)) | (with_reducible first | refine Fits.in64 (by omega) ?_ | refine FIdx.nat (by omega) ?_ | refine FIdx.int (by omega) ?_ | refine FTo.nat (by omega) ?_ | refine FTo.int (by omega) ?_) | ((with_reducible refine Need.mk ?_ ?_); focus exact needA) | (with_reducible refine FApp.grow ?_) | (refine FCall.pure (hcv) ⟨Ln.sameB _ rfl, Ln.sameB _ rfl, True.intro⟩ rfl ?_) | (refine FCall.pure works_ok True.intro rfl ?_)))
    all_goals (try (conv => whnf))
    all_goals ((refine ⟨⟨_, [], [], Cut.nil _, Ln.sameB _ rfl, ?_, rfl⟩⟩); rfl)
  rw [hv] at hcv
  simp only [Bool.and_eq_true, Bool.not_eq_true', decide_eq_true_eq] at hv
  obtain ⟨hn, h0⟩ := hv
  obtain ⟨hc, hj⟩ := checkT_0.1 h0
  obtain ⟨d1, d2, d3, d4, d5⟩ := crew_d hc
  have hp := pow_le d2
  have cT := pteam_ok f c j
  have cW := pwhy_ok f c j
  rcases why_two c j with ⟨b1, b2⟩ | ⟨b1, b, b2, b3, b4, b5, b6⟩
  · have hE : teamE c j = (((bestT c j).1 : Int), (bestT c j).2, 0) := by unfold teamE; rw [if_pos h0, if_neg b1]
    have hW : whyE c j = (0, 3) := by unfold whyE; rw [if_pos h0, b2]
    rw [hE] at cT
    rw [hW] at cW
    (repeat' ((try (conv => whnf)); first | (with_reducible first | refine FCond.tA ?_ | refine FCond.fA ?_) | ((with_reducible refine FCond.i (fun hq => ?_) (fun hq => ?_)) <;> (try simp only [zA, zE, zD, zJ, zB, zI, Int.not_le, Int.not_lt] at hq)) | (with_reducible first | refine Fits.in64 (by omega) ?_ | refine FIdx.nat (by omega) ?_ | refine FIdx.int (by omega) ?_ | refine FTo.nat (by omega) ?_ | refine FTo.int (by omega) ?_) | ((with_reducible refine Need.mk ?_ ?_); focus exact needA) | (with_reducible refine FApp.grow ?_) | (refine FCall.pure (hcv) ⟨Ln.sameB _ rfl, Ln.sameB _ rfl, True.intro⟩ rfl ?_) | (refine FCall.pure (cT) ⟨Ln.sameB _ rfl, Ln.sameB _ rfl, True.intro⟩ rfl ?_) | (refine FCall.pure (cW) ⟨Ln.sameB _ rfl, Ln.sameB _ rfl, True.intro⟩ rfl ?_) | (refine FCall.pure works_ok True.intro rfl ?_)))
    all_goals (try (conv => whnf))
    all_goals ((refine ⟨⟨_, [], [], Cut.nil _, Ln.sameB _ rfl, ?_, rfl⟩⟩); rfl)
  · have hE : teamE c j = (0, 0, 3) := by unfold teamE; rw [if_pos h0, if_pos b1]
    have hW : whyE c j = ((b : Int), 0) := by unfold whyE; rw [if_pos h0, b2]
    rw [hE] at cT
    rw [hW] at cW
    have key : ∀ u : Nat, m = u → isTeamT c u = true → 0 < m → ACall Try.prog 17 [aCrew f c, aJob j, AI m] [] (fun r h => r = .tup 2 (ofL [AI (brokenT c j u : Nat), AI 0]) ∧ h = []) ∧ brokenT c j u &&& b ≠ 0 ∧ brokenT c j u < 64 := fun u e k hm => by
      have hu := isT_iff.1 k
      have := broken_ok f c j m
      have hbE : brokenE c j m = ((brokenT c j u : Int), 0) := by rw [e]; unfold brokenE; rw [if_pos (checkTm_t h0 k), Int.toNat_natCast]
      rw [hbE] at this
      exact ⟨this, b4 u (by omega) hu, broken_lt c j u⟩
    (repeat' ((try (conv => whnf)); first | (with_reducible first | refine FCond.tA ?_ | refine FCond.fA ?_) | ((with_reducible refine FCond.i (fun hq => ?_) (fun hq => ?_)) <;> (try simp only [zA, zE, zD, zJ, zB, zI, Int.not_le, Int.not_lt] at hq)) | (with_reducible first | refine Fits.in64 (by omega) ?_ | refine FIdx.nat (by omega) ?_ | refine FIdx.int (by omega) ?_ | refine FTo.nat (by omega) ?_ | refine FTo.int (by omega) ?_) | ((with_reducible refine Need.mk ?_ ?_); focus exact needA) | (with_reducible refine FApp.grow ?_) | (refine FCall.pure (hcv) ⟨Ln.sameB _ rfl, Ln.sameB _ rfl, True.intro⟩ rfl ?_) | (refine FCall.pure (cT) ⟨Ln.sameB _ rfl, Ln.sameB _ rfl, True.intro⟩ rfl ?_) | (refine FCall.pure (cW) ⟨Ln.sameB _ rfl, Ln.sameB _ rfl, True.intro⟩ rfl ?_) | (refine FCall.pure ((isTeam_ok _ _ _ d2)) ⟨Ln.sameB _ rfl, Ln.sameB _ rfl, True.intro⟩ rfl ?_)))
    all_goals (try (conv => whnf))
    obtain ⟨u, hu⟩ : ∃ u : Nat, m = u := ⟨m.toNat, by omega⟩
    subst hu
    obtain ⟨k1, k2, k3⟩ := key u rfl hq (by omega)
    (repeat' ((try (conv => whnf)); first | (with_reducible first | refine FCond.tA ?_ | refine FCond.fA ?_) | ((with_reducible refine FCond.i (fun hq => ?_) (fun hq => ?_)) <;> (try simp only [zA, zE, zD, zJ, zB, zI, Int.not_le, Int.not_lt] at hq)) | (with_reducible first | refine Fits.in64 (by omega) ?_ | refine FIdx.nat (by omega) ?_ | refine FIdx.int (by omega) ?_ | refine FTo.nat (by omega) ?_ | refine FTo.int (by omega) ?_) | ((with_reducible refine Need.mk ?_ ?_); focus exact needA) | (with_reducible first | refine FBit.hasT rfl (by assumption) ?_ | refine FBit.hasF rfl (by assumption) ?_ | refine FBit.shrN rfl (by omega) ?_ | refine FBit.half rfl ?_ | refine FBit.shl1 rfl (by omega) ?_ | refine Fits.inU (by omega) ?_ | refine FBit.shrNI rfl (by omega) ?_ | refine FBit.shrIN rfl (by omega) (by omega) ?_ | refine FBit.shrI rfl (by omega) (by omega) ?_ | refine FBit.shl1I rfl (by omega) ?_) | (with_reducible refine FBit.has rfl (fun hq => ?_) (fun hq => ?_)) | (with_reducible first | refine FBit.and1 rfl ?_ | refine FBit.andN rfl (by omega) (by omega) ?_ | refine FBit.orN rfl (by omega) (by omega) ?_ | refine FBit.andNotN rfl (by omega) (by omega) ?_) | (with_reducible refine FApp.grow ?_) | (refine FCall.pure (k1) ⟨Ln.sameB _ rfl, Ln.sameB _ rfl, Ln.sameB _ rfl, True.intro⟩ rfl ?_)))
    (try (conv => whnf))
    all_goals
      refine FLoop.of (ACalls.mono _) (X := Nat) (fun i => [(3, AI o), (4, .ptr 0 0), (5, .ptr 1 0), (12, AI b), (16, AI i)]) (fun _ => [.box 3 (cCrew f c), .box 6 (cJob j)]) (fun i => i ≤ 6) (fun i => 6 - i) 0 ⟨Nat.zero_le _, [0, 1], Cut.A, allA⟩ ?_
      intro i hi
      by_cases hlt : i < 6
      · have hsl := sdiff_lt (n := 6) (b := 2 ^ i) b3
        have hpw : 2 ^ i < 64 := Nat.lt_of_lt_of_le (Nat.pow_lt_pow_right (by decide) hlt) (by decide)
        cases hb : b.testBit i
        · (repeat' ((try (conv => whnf)); first | (with_reducible first | refine FCond.tA ?_ | refine FCond.fA ?_) | ((with_reducible refine FCond.i (fun hq => ?_) (fun hq => ?_)) <;> (try simp only [zA, zE, zD, zJ, zB, zI, Int.not_le, Int.not_lt] at hq)) | (with_reducible first | refine Fits.in64 (by omega) ?_ | refine FIdx.nat (by omega) ?_ | refine FIdx.int (by omega) ?_ | refine FTo.nat (by omega) ?_ | refine FTo.int (by omega) ?_) | ((with_reducible refine Need.mk ?_ ?_); focus exact needA) | (with_reducible first | refine FBit.hasT rfl (by assumption) ?_ | refine FBit.hasF rfl (by assumption) ?_ | refine FBit.shrN rfl (by omega) ?_ | refine FBit.half rfl ?_ | refine FBit.shl1 rfl (by omega) ?_ | refine Fits.inU (by omega) ?_ | refine FBit.shrNI rfl (by omega) ?_ | refine FBit.shrIN rfl (by omega) (by omega) ?_ | refine FBit.shrI rfl (by omega) (by omega) ?_ | refine FBit.shl1I rfl (by omega) ?_) | (with_reducible refine FBit.has rfl (fun hq => ?_) (fun hq => ?_)) | (with_reducible first | refine FBit.and1 rfl ?_ | refine FBit.andN rfl (by omega) (by omega) ?_ | refine FBit.orN rfl (by omega) (by omega) ?_ | refine FBit.andNotN rfl (by omega) (by omega) ?_) | (with_reducible refine FApp.grow ?_) | (refine FCall.pure ((has_ok b i (by omega))) ⟨Ln.sameB _ rfl, Ln.sameB _ rfl, True.intro⟩ rfl ?_)))
          (try (conv => whnf))
          (exact ⟨⟨(i + 1), hlt, by show _ < _; omega, [0, 1], Cut.A, allA⟩⟩)
        · have cK := kept_ok f c j (sdiff b (2 ^ i)) hc hj hsl
          rw [b5 i hlt hb] at cK
          (repeat' ((try (conv => whnf)); first | (with_reducible first | refine FCond.tA ?_ | refine FCond.fA ?_) | ((with_reducible refine FCond.i (fun hq => ?_) (fun hq => ?_)) <;> (try simp only [zA, zE, zD, zJ, zB, zI, Int.not_le, Int.not_lt] at hq)) | (with_reducible first | refine Fits.in64 (by omega) ?_ | refine FIdx.nat (by omega) ?_ | refine FIdx.int (by omega) ?_ | refine FTo.nat (by omega) ?_ | refine FTo.int (by omega) ?_) | ((with_reducible refine Need.mk ?_ ?_); focus exact needA) | (with_reducible first | refine FBit.hasT rfl (by assumption) ?_ | refine FBit.hasF rfl (by assumption) ?_ | refine FBit.shrN rfl (by omega) ?_ | refine FBit.half rfl ?_ | refine FBit.shl1 rfl (by omega) ?_ | refine Fits.inU (by omega) ?_ | refine FBit.shrNI rfl (by omega) ?_ | refine FBit.shrIN rfl (by omega) (by omega) ?_ | refine FBit.shrI rfl (by omega) (by omega) ?_ | refine FBit.shl1I rfl (by omega) ?_) | (with_reducible refine FBit.has rfl (fun hq => ?_) (fun hq => ?_)) | (with_reducible first | refine FBit.and1 rfl ?_ | refine FBit.andN rfl (by omega) (by omega) ?_ | refine FBit.orN rfl (by omega) (by omega) ?_ | refine FBit.andNotN rfl (by omega) (by omega) ?_) | (with_reducible refine FApp.grow ?_) | (refine FCall.pure ((has_ok b i (by omega))) ⟨Ln.sameB _ rfl, Ln.sameB _ rfl, True.intro⟩ rfl ?_) | (refine FBit.andNotN rfl (by omega) (by omega) ?_) | (refine FCall.pure (cK) ⟨Ln.sameB _ rfl, Ln.sameB _ rfl, Ln.sameB _ rfl, True.intro⟩ rfl ?_)))
          (try (conv => whnf))
          (exact ⟨⟨(i + 1), hlt, by show _ < _; omega, [0, 1], Cut.A, allA⟩⟩)
      · obtain rfl : i = 6 := by omega
        (repeat' ((try (conv => whnf)); first | (with_reducible first | refine FCond.tA ?_ | refine FCond.fA ?_) | ((with_reducible refine FCond.i (fun hq => ?_) (fun hq => ?_)) <;> (try simp only [zA, zE, zD, zJ, zB, zI, Int.not_le, Int.not_lt] at hq)) | (with_reducible first | refine Fits.in64 (by omega) ?_ | refine FIdx.nat (by omega) ?_ | refine FIdx.int (by omega) ?_ | refine FTo.nat (by omega) ?_ | refine FTo.int (by omega) ?_) | ((with_reducible refine Need.mk ?_ ?_); focus exact needA) | (with_reducible first | refine FBit.hasT rfl (by assumption) ?_ | refine FBit.hasF rfl (by assumption) ?_ | refine FBit.shrN rfl (by omega) ?_ | refine FBit.half rfl ?_ | refine FBit.shl1 rfl (by omega) ?_ | refine Fits.inU (by omega) ?_ | refine FBit.shrNI rfl (by omega) ?_ | refine FBit.shrIN rfl (by omega) (by omega) ?_ | refine FBit.shrI rfl (by omega) (by omega) ?_ | refine FBit.shl1I rfl (by omega) ?_) | (with_reducible refine FBit.has rfl (fun hq => ?_) (fun hq => ?_)) | (with_reducible first | refine FBit.and1 rfl ?_ | refine FBit.andN rfl (by omega) (by omega) ?_ | refine FBit.orN rfl (by omega) (by omega) ?_ | refine FBit.andNotN rfl (by omega) (by omega) ?_) | (with_reducible refine FApp.grow ?_) | (refine FCall.pure works_ok True.intro rfl ?_)))
        all_goals (try (conv => whnf))
        · (refine ⟨⟨_, [], [], Cut.nil _, Ln.sameB _ rfl, ?_, rfl⟩⟩)
          rfl
        · (refine ⟨⟨_, [], [], Cut.nil _, Ln.sameB _ rfl, ?_, rfl⟩⟩)
          rfl
        · obtain ⟨u, rfl⟩ : ∃ u : Nat, o = u := ⟨o.toNat, by omega⟩
          have cK := kept_ok f c j u hc hj (by omega)
          cases hk : keptT c j u
          · rw [hk] at cK
            have hb6 := b6 u (by omega) hk
            (repeat' ((try (conv => whnf)); first | (with_reducible first | refine FCond.tA ?_ | refine FCond.fA ?_) | ((with_reducible refine FCond.i (fun hq => ?_) (fun hq => ?_)) <;> (try simp only [zA, zE, zD, zJ, zB, zI, Int.not_le, Int.not_lt] at hq)) | (with_reducible first | refine Fits.in64 (by omega) ?_ | refine FIdx.nat (by omega) ?_ | refine FIdx.int (by omega) ?_ | refine FTo.nat (by omega) ?_ | refine FTo.int (by omega) ?_) | ((with_reducible refine Need.mk ?_ ?_); focus exact needA) | (with_reducible first | refine FBit.hasT rfl (by assumption) ?_ | refine FBit.hasF rfl (by assumption) ?_ | refine FBit.shrN rfl (by omega) ?_ | refine FBit.half rfl ?_ | refine FBit.shl1 rfl (by omega) ?_ | refine Fits.inU (by omega) ?_ | refine FBit.shrNI rfl (by omega) ?_ | refine FBit.shrIN rfl (by omega) (by omega) ?_ | refine FBit.shrI rfl (by omega) (by omega) ?_ | refine FBit.shl1I rfl (by omega) ?_) | (with_reducible refine FBit.has rfl (fun hq => ?_) (fun hq => ?_)) | (with_reducible first | refine FBit.and1 rfl ?_ | refine FBit.andN rfl (by omega) (by omega) ?_ | refine FBit.orN rfl (by omega) (by omega) ?_ | refine FBit.andNotN rfl (by omega) (by omega) ?_) | (with_reducible refine FApp.grow ?_) | (refine FCall.pure (cK) ⟨Ln.sameB _ rfl, Ln.sameB _ rfl, Ln.sameB _ rfl, True.intro⟩ rfl ?_) | (refine FCall.pure ((lsize_ok u (by omega))) ⟨Ln.sameB _ rfl, True.intro⟩ rfl ?_) | (refine FCall.pure ((lsize_ok b (by omega))) ⟨Ln.sameB _ rfl, True.intro⟩ rfl ?_) | (refine FCall.pure works_ok True.intro rfl ?_)))
            all_goals (try (conv => whnf))
            all_goals ((refine ⟨⟨_, [], [], Cut.nil _, Ln.sameB _ rfl, ?_, rfl⟩⟩); rfl)
          · rw [hk] at cK
            (repeat' ((try (conv => whnf)); first | (with_reducible first | refine FCond.tA ?_ | refine FCond.fA ?_) | ((with_reducible refine FCond.i (fun hq => ?_) (fun hq => ?_)) <;> (try simp only [zA, zE, zD, zJ, zB, zI, Int.not_le, Int.not_lt] at hq)) | (with_reducible first | refine Fits.in64 (by omega) ?_ | refine FIdx.nat (by omega) ?_ | refine FIdx.int (by omega) ?_ | refine FTo.nat (by omega) ?_ | refine FTo.int (by omega) ?_) | ((with_reducible refine Need.mk ?_ ?_); focus exact needA) | (with_reducible first | refine FBit.hasT rfl (by assumption) ?_ | refine FBit.hasF rfl (by assumption) ?_ | refine FBit.shrN rfl (by omega) ?_ | refine FBit.half rfl ?_ | refine FBit.shl1 rfl (by omega) ?_ | refine Fits.inU (by omega) ?_ | refine FBit.shrNI rfl (by omega) ?_ | refine FBit.shrIN rfl (by omega) (by omega) ?_ | refine FBit.shrI rfl (by omega) (by omega) ?_ | refine FBit.shl1I rfl (by omega) ?_) | (with_reducible refine FBit.has rfl (fun hq => ?_) (fun hq => ?_)) | (with_reducible first | refine FBit.and1 rfl ?_ | refine FBit.andN rfl (by omega) (by omega) ?_ | refine FBit.orN rfl (by omega) (by omega) ?_ | refine FBit.andNotN rfl (by omega) (by omega) ?_) | (with_reducible refine FApp.grow ?_) | (refine FCall.pure (cK) ⟨Ln.sameB _ rfl, Ln.sameB _ rfl, Ln.sameB _ rfl, True.intro⟩ rfl ?_) | (refine FCall.pure works_ok True.intro rfl ?_)))
            all_goals (try (conv => whnf))
            all_goals ((refine ⟨⟨_, [], [], Cut.nil _, Ln.sameB _ rfl, ?_, rfl⟩⟩); rfl)
end Go.Proofs.Ytdipcdallenmkaa

namespace Go.Proofs.Ytdipcdallenmkaa
open Go.RowKit

theorem nextT_spec {n : Nat} {R : Nat → Nat → Bool} {D : Nat → Int} {a : Nat} (h : ∃ x, x < n ∧ D x = D a - 1 ∧ R a x = true) : nextT n R D a < n ∧ D (nextT n R D a) = D a - 1 ∧ R a (nextT n R D a) = true := by
  unfold nextT
  cases hf : (List.range n).find? fun x => decide (D x = D a - 1) && R a x with
  | none =>
    rw [List.find?_eq_none] at hf
    obtain ⟨x, h1, h2, h3⟩ := h
    have := hf x (by simpa using h1)
    simp [h2, h3] at this
  | some y =>
    have h1 := List.mem_of_find?_eq_some hf
    have h2 := List.find?_some hf
    simp only [Bool.and_eq_true, decide_eq_true_eq] at h2
    exact ⟨by simpa using h1, h2.1, h2.2⟩
theorem chain_get {n : Nat} {R : Nat → Nat → Bool} (hs : ∀ a b, R a b = R b a) {t : Nat} : ∀ {k a : Nat}, a < n → dist n R t a = k → ∀ i, i ≤ k → ∃ x : Nat, ((a : Int) :: chainL n R (dist n R t) k a).getD i 0 = x ∧ x < n ∧ dist n R t x = ((k - i : Nat) : Int) ∧ (i < k → ∃ y : Nat, ((a : Int) :: chainL n R (dist n R t) k a).getD (i + 1) 0 = y ∧ y < n ∧ R x y = true)
  | 0, a, ha, hd, i, hi => by
    obtain rfl : i = 0 := by omega
    exact ⟨a, rfl, ha, hd, fun h => by omega⟩
  | k + 1, a, ha, hd, i, hi => by
    obtain ⟨n1, n2, n3⟩ := nextT_spec (next_ex (n := n) hs (t := t) (a := a) (by omega))
    have hd2 : dist n R t (nextT n R (dist n R t) a) = k := by rw [n2, hd, Int.natCast_add]; simp
    rcases i with _ | i
    · exact ⟨a, rfl, ha, hd, fun _ => ⟨_, rfl, n1, n3⟩⟩
    · obtain ⟨x, x1, x2, x3, x4⟩ := chain_get hs (k := k) n1 hd2 i (by omega)
      refine ⟨x, x1, x2, by rw [x3, Nat.add_sub_add_right k 1 i], fun h => ?_⟩
      obtain ⟨y, y1, y2, y3⟩ := x4 (by omega)
      exact ⟨y, y1, y2, y3⟩
def Job.swap (j : Job) : Job := ⟨j.to, j.fr, j.client, j.field, j.kind, j.size⟩
theorem swap_ok {c : Crew} {j : Job} (h : Job.ok c j = true) : Job.ok c j.swap = true := by
  unfold Job.ok Job.swap at *
  simp only [Bool.and_eq_true, decide_eq_true_eq] at *
  omega
theorem bit5 {v : Nat} (h : v < 8) {a b d : Bool} : (v ||| (if a then 8 else 0) ||| (if b then 16 else 0) ||| (if d then 32 else 0)).testBit 5 = d := by
  have : ∀ v : _root_.Fin 8, ∀ a b d : Bool, (v.val ||| (if a then 8 else 0) ||| (if b then 16 else 0) ||| (if d then 32 else 0)).testBit 5 = d := by decide +kernel
  exact this ⟨v, h⟩ a b d
theorem broken_bit5 (c : Crew) (j : Job) (s : Nat) : (brokenT c j s).testBit 5 = decide (dist c.langs.toNat (relT c s (lawOf c j).level) j.fr.toNat j.to.toNat < 0) := by
  have hv := solo_lt c j s
  rw [brokenT_eq (c := c) (j := j) (s := s) rfl rfl rfl rfl rfl rfl]
  exact bit5 hv
theorem rel_mono {c : Crew} {s s' : Nat} {l : Int} (h : ∀ k, s.testBit k = true → s'.testBit k = true) (a b : Nat) (hr : relT c s l a b = true) : relT c s' l a b = true := by
  unfold relT joinsT at *
  simp only [List.any_eq_true] at *
  obtain ⟨i, h1, h2⟩ := hr
  obtain ⟨k1, k2⟩ := mem_memb.1 h1
  exact ⟨i, mem_memb.2 ⟨k1, h i k2⟩, h2⟩
theorem or_lt8 {s q n : Nat} (hs : s < 2 ^ n) (hq : q < n) : s ||| 2 ^ q < 2 ^ n := Nat.or_lt_two_pow hs (Nat.pow_lt_pow_right (by decide) hq)
theorem chainE_yes {c : Crew} {j : Job} {s : Nat} (h0 : checkT c j = 0) (hs : s < 2 ^ c.people.length) (h : 0 ≤ backT c j s j.fr.toNat) : chainE c j s = (chainT c j s, 0) := by
  unfold chainE
  rw [if_pos (checkTm_t h0 (isT_iff.2 hs)), Int.toNat_natCast, if_neg (by omega)]
theorem chainE_no {c : Crew} {j : Job} {s : Nat} (h0 : checkT c j = 0) (hs : s < 2 ^ c.people.length) (h : backT c j s j.fr.toNat < 0) : chainE c j s = ([], 3) := by
  unfold chainE
  rw [if_pos (checkTm_t h0 (isT_iff.2 hs)), Int.toNat_natCast, if_pos h]
theorem chainT_len (c : Crew) (j : Job) (s : Nat) : (chainT c j s).length = (backT c j s j.fr.toNat).toNat + 1 := by
  unfold chainT; rw [List.length_cons, chainL_len2]
where chainL_len2 {n : Nat} {R : Nat → Nat → Bool} {D : Nat → Int} : ∀ {k a : Nat}, (chainL n R D k a).length = k
  | 0, _ => rfl
  | k + 1, a => by rw [chainL, List.length_cons, chainL_len2]
/-- What a chain is. -/
structure ChainOk (c : Crew) (j : Job) (s n a t : Nat) (W : List Int) : Prop where
  len2 : 2 ≤ W.length
  lenN : W.length ≤ n
  first : W.getD 0 0 = a
  last : ∀ i, i + 1 = W.length → W.getD i 0 = t
  step : ∀ i, i + 1 < W.length → ∃ x y : Nat, W.getD i 0 = x ∧ W.getD (i + 1) 0 = y ∧ x < n ∧ y < n ∧ joinsT c s (lawOf c j).level x y = true
theorem chain_facts {c : Crew} {j : Job} {s n a t : Nat} (hj : Job.ok c j = true) (hn : c.langs = n) (ha : j.fr = a) (ht : j.to = t) (h : 0 ≤ backT c j s j.fr.toNat) : ChainOk c j s n a t (chainT c j s) := by
  obtain ⟨j1, j2, j3, j4, j5, j6, j7⟩ := job_d hj
  have hnn : c.langs.toNat = n := by omega
  have haa : j.fr.toNat = a := by omega
  have htt : j.to.toNat = t := by omega
  have hlen := chainT_len c j s
  unfold backT at h hlen
  rw [hnn, haa, htt] at h hlen
  unfold relOf at h hlen
  have hW : chainT c j s = (a : Int) :: chainL n (relT c s (lawOf c j).level) (dist n (relT c s (lawOf c j).level) t) (dist n (relT c s (lawOf c j).level) t a).toNat a := by
    unfold chainT backT relOf
    rw [hnn, haa, htt, ha]
  rw [hW] at hlen ⊢
  generalize hR : relT c s (lawOf c j).level = R at *
  have hs : ∀ a b, R a b = R b a := fun x y => by rw [← hR]; exact rel_sym _ _ _ _ _
  obtain ⟨k, hk⟩ : ∃ k : Nat, dist n R t a = k := ⟨(dist n R t a).toNat, by omega⟩
  have hkn := dist_lt (R := R) (a := t) (b := a) (n := n) (by omega)
  have hk0 : dist n R t a ≠ 0 := fun e => by have := dist_zero e; omega
  rw [hk, Int.toNat_natCast] at hlen ⊢
  have hg := chain_get hs (n := n) (t := t) (k := k) (a := a) (by omega) hk
  refine ⟨by rw [hlen]; omega, by rw [hlen]; omega, rfl, fun i hi => ?_, fun i hi => ?_⟩
  · obtain ⟨x, x1, x2, x3, _⟩ := hg i (by omega)
    rw [x1]
    have : dist n R t x = 0 := by rw [x3, show k - i = 0 by omega]; rfl
    rw [← dist_zero this]
  · obtain ⟨x, x1, x2, x3, x4⟩ := hg i (by omega)
    obtain ⟨y, y1, y2, y3⟩ := x4 (by omega)
    exact ⟨x, y, x1, y1, x2, y2, by rw [← hR] at y3; exact y3⟩
theorem back_swap {c : Crew} {j : Job} {s : Nat} (hj : Job.ok c j = true) : backT c j.swap s j.swap.fr.toNat = backT c j s j.fr.toNat := by
  obtain ⟨j1, j2, j3, j4, j5, j6, j7⟩ := job_d hj
  show dist c.langs.toNat (relT c s (lawOf c j).level) j.fr.toNat j.to.toNat = dist c.langs.toNat (relT c s (lawOf c j).level) j.to.toNat j.fr.toNat
  exact dist_back (rel_sym c s _) (by omega) (by omega)
theorem back_more {c : Crew} {j : Job} {s s' : Nat} (h : ∀ k, s.testBit k = true → s'.testBit k = true) (h0 : 0 ≤ backT c j s j.fr.toNat) : 0 ≤ backT c j s' j.fr.toNat ∧ backT c j s' j.fr.toNat ≤ backT c j s j.fr.toNat :=
  dist_mono (fun a b hr => rel_mono h a b hr) h0
set_option maxHeartbeats 4000000
set_option maxRecDepth 100000
theorem chain_any (f : CFl) (c : Crew) (j : Job) (m o : Int) : ACall Try.prog 5 [aCrew f c, aJob j, AI m, AI o] [] (fun v h => v = .bool true ∧ h = []) := by
  have hcv := ready_ok f c j
  (refine fcall_of mixed Try.func5 rfl (by decide) (hs := { ord := [(17, [(0, []), (1, []), (2, []), (3, []), (4, []), (5, [3]), (6, []), (7, [])])] }) ?k (ac := ?ac) ?c (rs := ?rs) ?r ?l ?H; (case k => kernel_rfl); (case c => (conv => (lhs; cbv))); (case r => (conv => (lhs; cbv))); (case l => exact Nat.le_of_ble_eq_true rfl))
  cases hv : (!farT c && decide (checkT c j = 0))
  · rw [hv] at hcv
    (repeat' ((try (conv => whnf)); first | (with_reducible first | refine FCond.tA ?_ | refine FCond.fA ?_) | ((with_reducible refine FCond.i (fun hq => ?_) (fun hq => ?_)) <;> (try simp only [zA, zE, zD, zJ, zB, zI, Int.not_le, Int.not_lt] at hq)) | (with_reducible first | refine Fits.in64 (by omega) ?_ | refine FIdx.nat (by omega) ?_ | refine FIdx.int (by omega) ?_ | refine FTo.nat (by omega) ?_ | refine FTo.int (by omega) ?_) | ((with_reducible refine Need.mk ?_ ?_); focus exact needA) | (with_reducible refine FApp.grow ?_) | (refine FCall.pure (hcv) ⟨Ln.sameB _ rfl, Ln.sameB _ rfl, True.intro⟩ rfl ?_) | (refine FCall.pure works_ok True.intro rfl ?_)))
    all_goals (try (conv => whnf))
    all_goals ((refine ⟨⟨_, [], [], Cut.nil _, Ln.sameB _ rfl, ?_, rfl⟩⟩); rfl)
  rw [hv] at hcv
  simp only [Bool.and_eq_true, Bool.not_eq_true', decide_eq_true_eq] at hv
  obtain ⟨hnear, h0⟩ := hv
  obtain ⟨hc, hj⟩ := checkT_0.1 h0
  obtain ⟨d1, d2, d3, d4, d5⟩ := crew_d hc
  obtain ⟨j1, j2, j3, j4, j5, j6, j7⟩ := job_d hj
  have hp := pow_le d2
  have cI := isTeam_ok f c m d2
  cases ht : isTeamT c m
  · rw [ht] at cI
    (repeat' ((try (conv => whnf)); first | (with_reducible first | refine FCond.tA ?_ | refine FCond.fA ?_) | ((with_reducible refine FCond.i (fun hq => ?_) (fun hq => ?_)) <;> (try simp only [zA, zE, zD, zJ, zB, zI, Int.not_le, Int.not_lt] at hq)) | (with_reducible first | refine Fits.in64 (by omega) ?_ | refine FIdx.nat (by omega) ?_ | refine FIdx.int (by omega) ?_ | refine FTo.nat (by omega) ?_ | refine FTo.int (by omega) ?_) | ((with_reducible refine Need.mk ?_ ?_); focus exact needA) | (with_reducible refine FApp.grow ?_) | (refine FCall.pure (hcv) ⟨Ln.sameB _ rfl, Ln.sameB _ rfl, True.intro⟩ rfl ?_) | (refine FCall.pure (cI) ⟨Ln.sameB _ rfl, Ln.sameB _ rfl, True.intro⟩ rfl ?_) | (refine FCall.pure works_ok True.intro rfl ?_)))
    all_goals (try (conv => whnf))
    all_goals ((refine ⟨⟨_, [], [], Cut.nil _, Ln.sameB _ rfl, ?_, rfl⟩⟩); rfl)
  rw [ht] at cI
  obtain ⟨s, rfl⟩ : ∃ s : Nat, m = s := ⟨m.toNat, by simp only [isTeamT, inB, decide_eq_true_eq] at ht; omega⟩
  have hs := isT_iff.1 ht
  obtain ⟨n, hn⟩ : ∃ n : Nat, c.langs = n := ⟨c.langs.toNat, by omega⟩
  obtain ⟨a, ha⟩ : ∃ a : Nat, j.fr = a := ⟨j.fr.toNat, by omega⟩
  obtain ⟨t, htt⟩ : ∃ b : Nat, j.to = b := ⟨j.to.toNat, by omega⟩
  have cC := pchain_ok f c j s
  have cB := broken_ok f c j s
  have hbE : brokenE c j s = ((brokenT c j s : Int), 0) := by unfold brokenE; rw [if_pos (checkTm_t h0 ht), Int.toNat_natCast]
  rw [hbE] at cB
  have hb5 := broken_bit5 c j s
  have hsw : dist c.langs.toNat (relT c s (lawOf c j).level) j.fr.toNat j.to.toNat = backT c j s j.fr.toNat := dist_back (rel_sym c s _) (by omega) (by omega)
  rw [hsw, show (5 : Nat) = (5 : Int).toNat from rfl] at hb5
  by_cases hD : backT c j s j.fr.toNat < 0
  · rw [chainE_no h0 hs hD] at cC
    rw [decide_eq_true hD] at hb5
    (repeat' ((try (conv => whnf)); first | (with_reducible first | refine FCond.tA ?_ | refine FCond.fA ?_) | ((with_reducible refine FCond.i (fun hq => ?_) (fun hq => ?_)) <;> (try simp only [zA, zE, zD, zJ, zB, zI, Int.not_le, Int.not_lt] at hq)) | (with_reducible first | refine Fits.in64 (by omega) ?_ | refine FIdx.nat (by omega) ?_ | refine FIdx.int (by omega) ?_ | refine FTo.nat (by omega) ?_ | refine FTo.int (by omega) ?_) | ((with_reducible refine Need.mk ?_ ?_); focus exact needA) | (with_reducible first | refine FBit.hasT rfl (by assumption) ?_ | refine FBit.hasF rfl (by assumption) ?_ | refine FBit.shrN rfl (by omega) ?_ | refine FBit.half rfl ?_ | refine FBit.shl1 rfl (by omega) ?_ | refine Fits.inU (by omega) ?_ | refine FBit.shrNI rfl (by omega) ?_ | refine FBit.shrIN rfl (by omega) (by omega) ?_ | refine FBit.shrI rfl (by omega) (by omega) ?_ | refine FBit.shl1I rfl (by omega) ?_) | (with_reducible refine FBit.has rfl (fun hq => ?_) (fun hq => ?_)) | (with_reducible first | refine FBit.and1 rfl ?_ | refine FBit.andN rfl (by omega) (by omega) ?_ | refine FBit.orN rfl (by omega) (by omega) ?_ | refine FBit.andNotN rfl (by omega) (by omega) ?_) | (with_reducible refine FApp.grow ?_) | (refine FCall.pure (hcv) ⟨Ln.sameB _ rfl, Ln.sameB _ rfl, True.intro⟩ rfl ?_) | (refine FCall.pure (cI) ⟨Ln.sameB _ rfl, Ln.sameB _ rfl, True.intro⟩ rfl ?_) | (refine FCall.pure (cC) ⟨Ln.sameB _ rfl, Ln.sameB _ rfl, Ln.sameB _ rfl, True.intro⟩ rfl ?_) | (refine FCall.pure (cB) ⟨Ln.sameB _ rfl, Ln.sameB _ rfl, Ln.sameB _ rfl, True.intro⟩ rfl ?_) | (refine FCall.pure works_ok True.intro rfl ?_)))
    all_goals (try (conv => whnf))
    all_goals ((refine ⟨⟨_, [], [], Cut.nil _, Ln.sameB _ rfl, ?_, rfl⟩⟩); rfl)
  · have hD : 0 ≤ backT c j s j.fr.toNat := by omega
    rw [decide_eq_false (by omega)] at hb5
    rw [chainE_yes h0 hs hD] at cC
    obtain ⟨w1, w2, w3, w4, w5⟩ := chain_facts hj hn ha htt hD
    have hlen := chainT_len c j s
    have cS := pchain_ok f c j.swap s
    have h0s : checkT c j.swap = 0 := checkT_0.2 ⟨hc, swap_ok hj⟩
    have hbs := back_swap (s := s) hj
    rw [chainE_yes h0s hs (by rw [hbs]; exact hD)] at cS
    have hlenS := chainT_len c j.swap s
    rw [hbs, ← hlen] at hlenS
    have hwl := w4 ((chainT c j s).length - 1) (by omega)
    generalize chainT c j.swap s = W2 at *
    have hmore : ∀ q : Nat, q < c.people.length → ∃ W3 : List Int, W3.length ≤ (chainT c j s).length ∧ s ||| 2 ^ q < 256 ∧ 2 ^ q < 256 ∧ ACall Try.prog 21 [aCrew f c, aJob j, AI (s ||| 2 ^ q : Nat)] [] (fun r h => r = .tup 2 (ofL [outI W3, AI 0]) ∧ h = []) := fun q hq => by
      have hl := or_lt8 hs hq
      obtain ⟨m1, m2⟩ := back_more (s' := s ||| 2 ^ q) (fun k hk => by rw [Nat.testBit_or, hk]; rfl) hD
      have := pchain_ok f c j ((s ||| 2 ^ q : Nat) : Int)
      rw [chainE_yes h0 hl m1] at this
      refine ⟨chainT c j (s ||| 2 ^ q), by rw [chainT_len, hlen]; omega, by omega, ?_, this⟩
      have := Nat.pow_lt_pow_right (a := 2) (by decide) hq
      omega
    generalize chainT c j s = W at *
    have hoI : outI W = aInts false false W := outI_of (m := W.length - 1) (by omega)
    have cC : ACall Try.prog 21 [aCrew f c, aJob j, AI s] [] (fun r h => r = .tup 2 (ofL [aInts false false W, AI 0]) ∧ h = []) := by rw [← hoI]; exact cC
    have hl1 : ((W.length : Int) - 1).toNat = W.length - 1 := by omega
    rw [← hl1] at hwl
    have hz : (0 : Int).toNat = 0 := rfl
    (repeat' ((try (conv => whnf)); first | (with_reducible first | refine FCond.tA ?_ | refine FCond.fA ?_) | ((with_reducible refine FCond.i (fun hq => ?_) (fun hq => ?_)) <;> (try simp only [zA, zE, zD, zJ, zB, zI, Int.not_le, Int.not_lt] at hq)) | (with_reducible first | refine Fits.in64 (by omega) ?_ | refine FIdx.nat (by omega) ?_ | refine FIdx.int (by omega) ?_ | refine FTo.nat (by omega) ?_ | refine FTo.int (by omega) ?_) | ((with_reducible refine Need.mk ?_ ?_); focus exact needA) | (with_reducible first | refine FBit.hasT rfl (by assumption) ?_ | refine FBit.hasF rfl (by assumption) ?_ | refine FBit.shrN rfl (by omega) ?_ | refine FBit.half rfl ?_ | refine FBit.shl1 rfl (by omega) ?_ | refine Fits.inU (by omega) ?_ | refine FBit.shrNI rfl (by omega) ?_ | refine FBit.shrIN rfl (by omega) (by omega) ?_ | refine FBit.shrI rfl (by omega) (by omega) ?_ | refine FBit.shl1I rfl (by omega) ?_) | (with_reducible refine FBit.has rfl (fun hq => ?_) (fun hq => ?_)) | (with_reducible first | refine FBit.and1 rfl ?_ | refine FBit.andN rfl (by omega) (by omega) ?_ | refine FBit.orN rfl (by omega) (by omega) ?_ | refine FBit.andNotN rfl (by omega) (by omega) ?_) | (with_reducible refine FApp.grow ?_) | (refine FCall.pure (hcv) ⟨Ln.sameB _ rfl, Ln.sameB _ rfl, True.intro⟩ rfl ?_) | (refine FCall.pure (cI) ⟨Ln.sameB _ rfl, Ln.sameB _ rfl, True.intro⟩ rfl ?_) | (refine FCall.pure (cC) ⟨Ln.sameB _ rfl, Ln.sameB _ rfl, Ln.sameB _ rfl, True.intro⟩ rfl ?_) | (refine FCall.pure (cB) ⟨Ln.sameB _ rfl, Ln.sameB _ rfl, Ln.sameB _ rfl, True.intro⟩ rfl ?_)))
    all_goals (try (conv => whnf))
    refine FLoop.of (ACalls.mono _) (X := Nat) (fun i => [(2, AI s), (3, AI o), (4, .ptr 0 0), (5, .ptr 1 0), (9, aInts false false W), (13, AI ((i + 1 : Nat) : Int))]) (fun _ => [.box 3 (cCrew f c), .box 6 (cJob j)]) (fun i => i + 1 ≤ W.length) (fun i => W.length - i) 0 ⟨(by show 0 + 1 ≤ W.length; omega), [0, 1], Cut.A, allA⟩ ?_
    intro i hi
    by_cases hlt : i + 1 < W.length
    · obtain ⟨x, y, x1, x2, x3, x4, x5⟩ := w5 i hlt
      have hi1 : (((i + 1 : Nat) : Int) - 1).toNat = i := by omega
      rw [← hi1] at x1
      have cJ := joins_ok f c s (lawOf c j).level x y hc (by omega) (by omega)
      rw [x5, ← x1, ← x2] at cJ
      (repeat' ((try (conv => whnf)); first | (with_reducible first | refine FCond.tA ?_ | refine FCond.fA ?_) | ((with_reducible refine FCond.i (fun hq => ?_) (fun hq => ?_)) <;> (try simp only [zA, zE, zD, zJ, zB, zI, Int.not_le, Int.not_lt] at hq)) | (with_reducible first | refine Fits.in64 (by omega) ?_ | refine FIdx.nat (by omega) ?_ | refine FIdx.int (by omega) ?_ | refine FTo.nat (by omega) ?_ | refine FTo.int (by omega) ?_) | ((with_reducible refine Need.mk ?_ ?_); focus exact needA) | (with_reducible first | refine FBit.hasT rfl (by assumption) ?_ | refine FBit.hasF rfl (by assumption) ?_ | refine FBit.shrN rfl (by omega) ?_ | refine FBit.half rfl ?_ | refine FBit.shl1 rfl (by omega) ?_ | refine Fits.inU (by omega) ?_ | refine FBit.shrNI rfl (by omega) ?_ | refine FBit.shrIN rfl (by omega) (by omega) ?_ | refine FBit.shrI rfl (by omega) (by omega) ?_ | refine FBit.shl1I rfl (by omega) ?_) | (with_reducible refine FBit.has rfl (fun hq => ?_) (fun hq => ?_)) | (with_reducible first | refine FBit.and1 rfl ?_ | refine FBit.andN rfl (by omega) (by omega) ?_ | refine FBit.orN rfl (by omega) (by omega) ?_ | refine FBit.andNotN rfl (by omega) (by omega) ?_) | (with_reducible refine FApp.grow ?_) | (refine FCall.pure (cJ) ⟨Ln.sameB _ rfl, Ln.sameB _ rfl, Ln.sameB _ rfl, Ln.sameB _ rfl, Ln.sameB _ rfl, True.intro⟩ rfl ?_)))
      all_goals (try (conv => whnf))
      (exact ⟨⟨(i + 1), hlt, by show _ < _; omega, [0, 1], Cut.A, allA⟩⟩)
    · by_cases ho : 0 ≤ o ∧ o < c.people.length
      · obtain ⟨q, rfl⟩ : ∃ q : Nat, o = q := ⟨o.toNat, by omega⟩
        obtain ⟨W3, m1, m2, m3, cM⟩ := hmore q (by omega)
        clear hmore
        (repeat' ((try (conv => whnf)); first | (with_reducible first | refine FCond.tA ?_ | refine FCond.fA ?_) | ((with_reducible refine FCond.i (fun hq => ?_) (fun hq => ?_)) <;> (try simp only [zA, zE, zD, zJ, zB, zI, Int.not_le, Int.not_lt] at hq)) | (with_reducible first | refine Fits.in64 (by omega) ?_ | refine FIdx.nat (by omega) ?_ | refine FIdx.int (by omega) ?_ | refine FTo.nat (by omega) ?_ | refine FTo.int (by omega) ?_) | ((with_reducible refine Need.mk ?_ ?_); focus exact needA) | (with_reducible first | refine FBit.hasT rfl (by assumption) ?_ | refine FBit.hasF rfl (by assumption) ?_ | refine FBit.shrN rfl (by omega) ?_ | refine FBit.half rfl ?_ | refine FBit.shl1 rfl (by omega) ?_ | refine Fits.inU (by omega) ?_ | refine FBit.shrNI rfl (by omega) ?_ | refine FBit.shrIN rfl (by omega) (by omega) ?_ | refine FBit.shrI rfl (by omega) (by omega) ?_ | refine FBit.shl1I rfl (by omega) ?_) | (with_reducible refine FBit.has rfl (fun hq => ?_) (fun hq => ?_)) | (with_reducible first | refine FBit.and1 rfl ?_ | refine FBit.andN rfl (by omega) (by omega) ?_ | refine FBit.orN rfl (by omega) (by omega) ?_ | refine FBit.andNotN rfl (by omega) (by omega) ?_) | (with_reducible refine FApp.grow ?_) | (refine FCall.pure (cS) ⟨Ln.sameB _ rfl, Ln.sameB _ rfl, Ln.sameB _ rfl, True.intro⟩ rfl ?_) | (refine FBit.orN rfl (by omega) (by omega) ?_) | (refine FCall.pure (cM) ⟨Ln.sameB _ rfl, Ln.sameB _ rfl, Ln.sameB _ rfl, True.intro⟩ rfl ?_) | (refine FCall.pure works_ok True.intro rfl ?_)))
        all_goals (try (conv => whnf))
        all_goals ((refine ⟨⟨_, [], [], Cut.nil _, Ln.sameB _ rfl, ?_, rfl⟩⟩); rfl)
      · clear hmore
        (repeat' ((try (conv => whnf)); first | (with_reducible first | refine FCond.tA ?_ | refine FCond.fA ?_) | ((with_reducible refine FCond.i (fun hq => ?_) (fun hq => ?_)) <;> (try simp only [zA, zE, zD, zJ, zB, zI, Int.not_le, Int.not_lt] at hq)) | (with_reducible first | refine Fits.in64 (by omega) ?_ | refine FIdx.nat (by omega) ?_ | refine FIdx.int (by omega) ?_ | refine FTo.nat (by omega) ?_ | refine FTo.int (by omega) ?_) | ((with_reducible refine Need.mk ?_ ?_); focus exact needA) | (with_reducible first | refine FBit.hasT rfl (by assumption) ?_ | refine FBit.hasF rfl (by assumption) ?_ | refine FBit.shrN rfl (by omega) ?_ | refine FBit.half rfl ?_ | refine FBit.shl1 rfl (by omega) ?_ | refine Fits.inU (by omega) ?_ | refine FBit.shrNI rfl (by omega) ?_ | refine FBit.shrIN rfl (by omega) (by omega) ?_ | refine FBit.shrI rfl (by omega) (by omega) ?_ | refine FBit.shl1I rfl (by omega) ?_) | (with_reducible refine FBit.has rfl (fun hq => ?_) (fun hq => ?_)) | (with_reducible first | refine FBit.and1 rfl ?_ | refine FBit.andN rfl (by omega) (by omega) ?_ | refine FBit.orN rfl (by omega) (by omega) ?_ | refine FBit.andNotN rfl (by omega) (by omega) ?_) | (with_reducible refine FApp.grow ?_) | (refine FCall.pure (cS) ⟨Ln.sameB _ rfl, Ln.sameB _ rfl, Ln.sameB _ rfl, True.intro⟩ rfl ?_) | (refine FCall.pure works_ok True.intro rfl ?_)))
        all_goals (try (conv => whnf))
        all_goals ((refine ⟨⟨_, [], [], Cut.nil _, Ln.sameB _ rfl, ?_, rfl⟩⟩); rfl)
end Go.Proofs.Ytdipcdallenmkaa

namespace Go.Proofs.Ytdipcdallenmkaa
open Go.RowKit

def Person.tie (p : Person) (x : Int) : Person := ⟨p.levels, p.fields, p.clears, [x], p.deaf, p.fee⟩
/-- A crew in which a person has one tie. -/
def Crew.tie (c : Crew) (q : Nat) (x : Int) : Crew := ⟨c.langs, c.people.set q ((c.people.getD q ps0).tie x), c.laws⟩
theorem tie_len {c : Crew} {q : Nat} {x : Int} : (c.tie q x).people.length = c.people.length := by simp [Crew.tie]
theorem getD_set {l : List Person} {q k : Nat} {p : Person} (hq : q < l.length) : (l.set q p).getD k ps0 = if k = q then p else l.getD k ps0 := by
  simp only [List.getD, List.getElem?_set, hq, if_true]
  by_cases h : q = k
  · subst h; simp
  · rw [if_neg h, if_neg (fun e => h e.symm)]
theorem tie_get {c : Crew} {q k : Nat} {x : Int} (hq : q < c.people.length) : (c.tie q x).people.getD k ps0 = if k = q then (c.people.getD q ps0).tie x else c.people.getD k ps0 := getD_set hq
theorem tie_check {c : Crew} {j : Job} {q : Nat} (h0 : checkT c j = 0) (hq : q < c.people.length) : checkT (c.tie q j.client) j = 0 := by
  obtain ⟨hc, hj⟩ := checkT_0.1 h0
  obtain ⟨j1, j2, j3, j4, j5, j6, j7⟩ := job_d hj
  obtain ⟨d1, d2, d3, d4, d5⟩ := crew_d hc
  refine checkT_0.2 ⟨?_, hj⟩
  unfold Crew.ok at hc ⊢
  simp only [Bool.and_eq_true, tie_len] at hc ⊢
  obtain ⟨⟨⟨⟨a, b⟩, d⟩, e⟩, g⟩ := hc
  refine ⟨⟨⟨⟨a, b⟩, d⟩, ?_⟩, g⟩
  rw [List.all_eq_true] at e ⊢
  intro p hp
  rcases List.mem_or_eq_of_mem_set hp with hp | rfl
  · exact e p hp
  · have := d4 q hq
    unfold Person.ok at this ⊢
    simp only [Person.tie, Bool.and_eq_true] at this ⊢
    obtain ⟨⟨⟨⟨⟨⟨k1, k2⟩, k3⟩, k4⟩, _⟩, _⟩, k7⟩ := this
    exact ⟨⟨⟨⟨⟨⟨k1, k2⟩, k3⟩, k4⟩, by simp⟩, by simp [inB, j4.1, j4.2]⟩, k7⟩
theorem tie_memb {c : Crew} {q s : Nat} {x : Int} : memb (c.tie q x) s = memb c s := by unfold memb; rw [tie_len]
theorem tie_same {c : Crew} {q k : Nat} {x : Int} (hq : q < c.people.length) : ((c.tie q x).people.getD k ps0).levels = (c.people.getD k ps0).levels ∧ ((c.tie q x).people.getD k ps0).deaf = (c.people.getD k ps0).deaf := by
  rw [tie_get hq]
  by_cases h : k = q
  · subst h; rw [if_pos rfl]; exact ⟨rfl, rfl⟩
  · rw [if_neg h]; exact ⟨rfl, rfl⟩
theorem tie_may {c : Crew} {j : Job} {q k : Nat} (hq : q < c.people.length) : ((c.tie q j.client).people.getD k ps0).may j = if k = q then false else (c.people.getD k ps0).may j := by
  rw [tie_get hq]
  by_cases h : k = q
  · subst h
    rw [if_pos rfl, if_pos rfl]
    unfold Person.may tiedT Person.tie
    simp
  · rw [if_neg h, if_neg h]
theorem tie_fits {c : Crew} {j : Job} {q u : Nat} (hq : q < c.people.length) : fitsT (c.tie q j.client) j u = true ↔ fitsT c j u = true ∧ u.testBit q = false := by
  rw [fits_b, fits_b, broken_zero, broken_zero, solo_zero, solo_zero]
  have hr : relT (c.tie q j.client) u (lawOf (c.tie q j.client) j).level = relT c u (lawOf c j).level := by
    funext a b
    unfold relT joinsT
    rw [tie_memb]
    congr 1
    funext i
    rw [(tie_same hq).1]; rfl
  have hd : deafT (c.tie q j.client) u = deafT c u := by
    unfold deafT
    rw [tie_memb]
    congr 1
    funext i
    exact (tie_same hq).2
  rw [hr, hd, tie_len]
  have hl : lawOf (c.tie q j.client) j = lawOf c j := rfl
  have hg : (c.tie q j.client).langs = c.langs := rfl
  rw [hl, hg]
  constructor
  · rintro ⟨a, b, d⟩
    have hb : u.testBit q = false := by
      cases h : u.testBit q
      · rfl
      · have := b q hq h
        rw [tie_may hq, if_pos rfl] at this; cases this
    refine ⟨⟨a, fun k hk hkb => ?_, d⟩, hb⟩
    have := b k hk hkb
    rw [tie_may hq] at this
    by_cases e : k = q
    · subst e; rw [hb] at hkb; cases hkb
    · rwa [if_neg e] at this
  · rintro ⟨⟨a, b, d⟩, hb⟩
    refine ⟨a, fun k hk hkb => ?_, d⟩
    rw [tie_may hq]
    by_cases e : k = q
    · subst e; rw [hb] at hkb; cases hkb
    · rw [if_neg e]; exact b k hk hkb
/-- Without a vital person there is no team, without another one there is. -/
theorem vital_best {c : Crew} {j : Job} {q : Nat} (hq : q < c.people.length) : ((bestT (c.tie q j.client) j).1 = 0) ↔ (vitT c j).testBit q = true := by
  rw [vit_bit]
  have hl := tie_len (c := c) (q := q) (x := j.client)
  rcases best_two (c.tie q j.client) j with ⟨b1, b2⟩ | ⟨b1, b2, b3, _, _⟩
  · rw [hl] at b2
    refine ⟨fun _ => ⟨hq, fun u u1 u2 u3 => ?_⟩, fun _ => b1⟩
    cases h : u.testBit q
    · have := b2 u u1 u2
      rw [(tie_fits hq).2 ⟨u3, h⟩] at this; cases this
    · rfl
  · rw [hl] at b2
    refine ⟨fun h => by omega, fun h => ?_⟩
    obtain ⟨k1, k2⟩ := (tie_fits hq).1 b3
    rw [h.2 _ b1 b2 k1] at k2; cases k2
def hasI (l : List Int) (x : Int) (i : Nat) : Bool := (l.take i).any fun y => decide (y = x)
theorem hasI_step {l : List Int} {x : Int} {i : Nat} (h : i < l.length) : hasI l x (i + 1) = (hasI l x i || decide (l.getD i 0 = x)) := by
  unfold hasI
  rw [List.take_add_one, List.any_append]
  simp [List.getD, List.getElem?_eq_getElem h]
theorem hasI_memb {c : Crew} {s q : Nat} : hasI (membI c s) q (membI c s).length = (decide (q < c.people.length) && s.testBit q) := by
  unfold hasI
  rw [List.take_length, Bool.eq_iff_iff]
  simp only [List.any_eq_true, decide_eq_true_eq, Bool.and_eq_true, membI, List.mem_map]
  constructor
  · rintro ⟨_, ⟨k, hk, rfl⟩, e⟩
    obtain ⟨k1, k2⟩ := mem_memb.1 hk
    obtain rfl : k = q := by omega
    exact ⟨k1, k2⟩
  · rintro ⟨h1, h2⟩
    exact ⟨_, ⟨q, mem_memb.2 ⟨h1, h2⟩, rfl⟩, rfl⟩
theorem memb_sorted {c : Crew} {s i : Nat} (h : i + 1 < (membI c s).length) : (membI c s).getD i 0 < (membI c s).getD (i + 1) 0 := by
  have hp : (membI c s).Pairwise (· < ·) := by
    unfold membI memb
    rw [List.pairwise_map]
    refine List.Pairwise.imp (fun {a b} h => by omega) (List.Pairwise.filter _ (List.pairwise_lt_range))
  have := List.pairwise_iff_getElem.1 hp i (i + 1) (by omega) h (by omega)
  simpa [List.getD, List.getElem?_eq_getElem h, List.getElem?_eq_getElem (show i < (membI c s).length by omega)] using this
theorem copy_some (f : CFl) (c : Crew) (hs : SmallC c) (hp : 0 < c.people.length) : ACall Try.prog 13 [aCrew f c] [] (fun v h => v = .agg 3 (ofL [AI c.langs, .own 0 c.people.length, cpLaws c.laws]) ∧ h = [rowP c.people.length c.people]) := by
  have := copy_own f c hs
  revert this
  generalize c.people.length = n at hp
  rcases n with _ | n
  · omega
  · exact id
def pfV (c : Crew) (q : Nat) : Nat → PFl := fun k => if k = q then ⟨false, decide ((c.people.getD q ps0).levels.length = 0), false, true⟩ else pfP (c.people.getD k ps0)
def flV (c : Crew) (q : Nat) : CFl := ⟨false, false, false, decide (c.laws.length = 0), pfV c q⟩
abbrev pV (c : Crew) (q : Nat) (x : Int) : Nat → AV := cPerson ⟨false, decide ((c.people.getD q ps0).levels.length = 0), false, true⟩ ((c.people.getD q ps0).tie x)
theorem row_tie {c : Crew} {q k o : Nat} {x : Int} (hq : q < c.people.length) (ho : o < 6) : cPerson (pfV c q k) ((c.tie q x).people.getD k ps0) o = updRm (cPers c.people) q (pV c q x) k o := by
  rw [tie_get hq]
  simp only [updRm, pfV]
  by_cases h : k = q
  · rw [if_pos h, if_pos h, if_pos h]
  · rw [if_neg h, if_neg h, if_neg h]
set_option maxHeartbeats 4000000
set_option maxRecDepth 100000
theorem vital_any (f : CFl) (c : Crew) (j : Job) (m : Int) : ACall Try.prog 9 [aCrew f c, aJob j, AI m] [] (fun v h => v = .bool true ∧ h = []) := by
  have hcv := ready_ok f c j
  (refine fcall_of mixed Try.func9 rfl (by decide) (hs := { pub := [17, 18] }) ?k (ac := ?ac) ?c (rs := ?rs) ?r ?l ?H; (case k => kernel_rfl); (case c => (conv => (lhs; cbv))); (case r => (conv => (lhs; cbv))); (case l => exact Nat.le_of_ble_eq_true rfl))
  cases hv : (!farT c && decide (checkT c j = 0))
  · rw [hv] at hcv
    (repeat' ((try (conv => whnf)); first | (with_reducible first | refine FCond.tA ?_ | refine FCond.fA ?_) | ((with_reducible refine FCond.i (fun hq => ?_) (fun hq => ?_)) <;> (try simp only [zA, zE, zD, zJ, zB, zI, Int.not_le, Int.not_lt] at hq)) | (with_reducible first | refine Fits.in64 (by omega) ?_ | refine FIdx.nat (by omega) ?_ | refine FIdx.int (by omega) ?_ | refine FTo.nat (by omega) ?_ | refine FTo.int (by omega) ?_) | ((with_reducible refine Need.mk ?_ ?_); focus exact needA) | (with_reducible refine FApp.grow ?_) | (refine FCall.pure (hcv) ⟨Ln.sameB _ rfl, Ln.sameB _ rfl, True.intro⟩ rfl ?_) | (refine FCall.pure works_ok True.intro rfl ?_)))
    all_goals (try (conv => whnf))
    all_goals ((refine ⟨⟨_, [], [], Cut.nil _, Ln.sameB _ rfl, ?_, rfl⟩⟩); rfl)
  rw [hv] at hcv
  simp only [Bool.and_eq_true, Bool.not_eq_true', decide_eq_true_eq] at hv
  obtain ⟨hnear, h0⟩ := hv
  have hnear := near_of hnear
  obtain ⟨hc, hj⟩ := checkT_0.1 h0
  obtain ⟨d1, d2, d3, d4, d5⟩ := crew_d hc
  by_cases hm : 0 ≤ m ∧ m < c.people.length
  · obtain ⟨q, rfl⟩ : ∃ q : Nat, m = q := ⟨m.toNat, by omega⟩
    have hq : q < c.people.length := by omega
    have cV := pvital_ok f c j
    have cT := pteam_ok f c j
    rcases best_two c j with ⟨b1, b2⟩ | ⟨b1, b2, b3, b4, b5⟩
    · have hE : teamE c j = (0, 0, 3) := by unfold teamE; rw [if_pos h0, if_pos b1]
      have hW : vitalE c j = ([], 3) := by unfold vitalE; rw [if_pos h0, if_pos b1]
      rw [hE] at cT
      rw [hW] at cV
      (repeat' ((try (conv => whnf)); first | (with_reducible first | refine FCond.tA ?_ | refine FCond.fA ?_) | ((with_reducible refine FCond.i (fun hq => ?_) (fun hq => ?_)) <;> (try simp only [zA, zE, zD, zJ, zB, zI, Int.not_le, Int.not_lt] at hq)) | (with_reducible first | refine Fits.in64 (by omega) ?_ | refine FIdx.nat (by omega) ?_ | refine FIdx.int (by omega) ?_ | refine FTo.nat (by omega) ?_ | refine FTo.int (by omega) ?_) | ((with_reducible refine Need.mk ?_ ?_); focus exact needA) | (with_reducible refine FApp.grow ?_) | (refine FCall.pure (hcv) ⟨Ln.sameB _ rfl, Ln.sameB _ rfl, True.intro⟩ rfl ?_) | (refine FCall.pure (cT) ⟨Ln.sameB _ rfl, Ln.sameB _ rfl, True.intro⟩ rfl ?_) | (refine FCall.pure (cV) ⟨Ln.sameB _ rfl, Ln.sameB _ rfl, True.intro⟩ rfl ?_) | (refine FCall.pure works_ok True.intro rfl ?_)))
      all_goals (try (conv => whnf))
      all_goals ((refine ⟨⟨_, [], [], Cut.nil _, Ln.sameB _ rfl, ?_, rfl⟩⟩); rfl)
    · have hW : vitalE c j = (membI c (vitT c j), 0) := by unfold vitalE; rw [if_pos h0, if_neg (by omega)]
      rw [hW] at cV
      have cC := copy_some f c ⟨by omega, by omega, fun i hi => by have := hnear.ps i hi; omega⟩ (by omega)
      have h0t := tie_check h0 hq
      have cT2 := pteam_ok (flV c q) (c.tie q j.client) j
      have hvb := vital_best (j := j) hq
      have hE2 : teamE (c.tie q j.client) j = if (vitT c j).testBit q then (0, 0, 3) else (((bestT (c.tie q j.client) j).1 : Int), (bestT (c.tie q j.client) j).2, 0) := by
        unfold teamE
        rw [if_pos h0t]
        cases hb : (vitT c j).testBit q
        · rw [if_neg (fun h => by rw [hvb.1 h] at hb; cases hb)]; rfl
        · rw [if_pos (hvb.2 hb)]; rfl
      rw [hE2] at cT2
      have hml : (membI c (vitT c j)).length ≤ c.people.length := by have := memb_len c (vitT c j); unfold membI; rw [List.length_map]; exact this
      have hsrt := fun i => memb_sorted (c := c) (s := vitT c j) (i := i)
      have hend := hasI_memb (c := c) (s := vitT c j) (q := q)
      rw [decide_eq_true hq, Bool.true_and] at hend
      generalize membI c (vitT c j) = W at *
      (repeat' ((try (conv => whnf)); first | (with_reducible first | refine FCond.tA ?_ | refine FCond.fA ?_) | ((with_reducible refine FCond.i (fun hq => ?_) (fun hq => ?_)) <;> (try simp only [zA, zE, zD, zJ, zB, zI, Int.not_le, Int.not_lt] at hq)) | (with_reducible first | refine Fits.in64 (by omega) ?_ | refine FIdx.nat (by omega) ?_ | refine FIdx.int (by omega) ?_ | refine FTo.nat (by omega) ?_ | refine FTo.int (by omega) ?_) | ((with_reducible refine Need.mk ?_ ?_); focus exact needA) | (with_reducible refine FApp.grow ?_) | (refine FCall.pure (hcv) ⟨Ln.sameB _ rfl, Ln.sameB _ rfl, True.intro⟩ rfl ?_) | (refine FCall.pure (cV) ⟨Ln.sameB _ rfl, Ln.sameB _ rfl, True.intro⟩ rfl ?_)))
      all_goals (try (conv => whnf))
      refine FLoop.of (ACalls.mono _) (X := Nat) (fun i => [(2, AI q), (3, .ptr 0 0), (4, .ptr 1 0), (7, outI W), (12, .bool (hasI W q i)), (13, AI i)]) (fun _ => [.box 3 (cCrew f c), .box 6 (cJob j)]) (fun i => i ≤ W.length) (fun i => W.length - i) 0 ⟨Nat.zero_le _, [0, 1], Cut.A, allA⟩ ?_
      intro i hi
      by_cases hlt : i < W.length
      · have hst := hasI_step (x := (q : Int)) hlt
        have hso : 0 < (i : Int) → W.getD ((i : Int) - 1).toNat 0 < W.getD i 0 := fun h => by
          have := hsrt (i - 1) (by omega)
          rw [show ((i : Int) - 1).toNat = i - 1 by omega]
          rwa [show i - 1 + 1 = i by omega] at this
        rcases Nat.eq_zero_or_pos i with e | e
        · subst e
          (repeat' ((try (conv => whnf)); first | (with_reducible first | refine FCond.tA ?_ | refine FCond.fA ?_) | ((with_reducible refine FCond.i (fun hq => ?_) (fun hq => ?_)) <;> (try simp only [zA, zE, zD, zJ, zB, zI, Int.not_le, Int.not_lt] at hq)) | (with_reducible first | refine Fits.in64 (by omega) ?_ | refine FIdx.nat (by omega) ?_ | refine FIdx.int (by omega) ?_ | refine FTo.nat (by omega) ?_ | refine FTo.int (by omega) ?_) | ((with_reducible refine Need.mk ?_ ?_); focus exact needA) | (with_reducible refine FApp.grow ?_)))
          all_goals (try (conv => whnf))
          · have hs1 : true = hasI W q (0 + 1) := by rw [hst, hq]; rfl
            (exact ⟨⟨(0 + 1), hlt, by show _ < _; omega, [0, 1], Cut.A, allA⟩⟩)
          · have hs1 : decide (W.getD 0 0 = (q : Int)) = hasI W q (0 + 1) := by rw [hst, hq]; rfl
            (exact ⟨⟨(0 + 1), hlt, by show _ < _; omega, [0, 1], Cut.A, allA⟩⟩)
        · have hso := hso (by omega)
          (repeat' ((try (conv => whnf)); first | (with_reducible first | refine FCond.tA ?_ | refine FCond.fA ?_) | ((with_reducible refine FCond.i (fun hq => ?_) (fun hq => ?_)) <;> (try simp only [zA, zE, zD, zJ, zB, zI, Int.not_le, Int.not_lt] at hq)) | (with_reducible first | refine Fits.in64 (by omega) ?_ | refine FIdx.nat (by omega) ?_ | refine FIdx.int (by omega) ?_ | refine FTo.nat (by omega) ?_ | refine FTo.int (by omega) ?_) | ((with_reducible refine Need.mk ?_ ?_); focus exact needA) | (with_reducible refine FApp.grow ?_)))
          all_goals (try (conv => whnf))
          · have hs1 : true = hasI W q (i + 1) := by rw [hst, hq]; rfl
            (exact ⟨⟨(i + 1), hlt, by show _ < _; omega, [0, 1], Cut.A, allA⟩⟩)
          · have hs1 : decide (W.getD i 0 = (q : Int)) = hasI W q (i + 1) := by rw [hst, hq]; rfl
            (exact ⟨⟨(i + 1), hlt, by show _ < _; omega, [0, 1], Cut.A, allA⟩⟩)
      · obtain rfl : i = W.length := by omega
        rw [hend]
        (repeat' ((try (conv => whnf)); first | (with_reducible first | refine FCond.tA ?_ | refine FCond.fA ?_) | ((with_reducible refine FCond.i (fun hq => ?_) (fun hq => ?_)) <;> (try simp only [zA, zE, zD, zJ, zB, zI, Int.not_le, Int.not_lt] at hq)) | (with_reducible first | refine Fits.in64 (by omega) ?_ | refine FIdx.nat (by omega) ?_ | refine FIdx.int (by omega) ?_ | refine FTo.nat (by omega) ?_ | refine FTo.int (by omega) ?_) | ((with_reducible refine Need.mk ?_ ?_); focus exact needA) | (with_reducible refine FApp.grow ?_) | ((refine FCall.give [] [] (cC) rfl rfl True.intro ⟨Ln.A, True.intro⟩ ?_); rintro _ _ ⟨rfl, rfl⟩; (refine ⟨by first | exact Nat.le_of_ble_eq_true rfl | omega, .inl rfl, ?_⟩))))
        all_goals (try (conv => whnf))
        refine FWk.of [(2, AI q), (4, .ptr 0 0), (12, .bool ((vitT c j).testBit q)), (14, .ptr 2 0), (15, .ptr 3 0)] [.box 6 (cJob j), rowP c.people.length c.people, .box 3 (ofL [AI c.langs, .own 1 c.people.length, cpLaws c.laws]), .box 6 (pV c q j.client)] [1, 2, 3, 4] (Cut.of (Nat.le_of_ble_eq_true rfl) rfl rfl (CutL.turned rfl LnB.A (CutL.turned rfl LnB.A (CutL.turned rfl LnB.A (CutL.turned rfl (LnB.boxN ⟨⟨⟨⟨⟨⟨True.intro, Ln.A⟩, Ln.A⟩, Ln.A⟩, Ln.le _ _ True.intro (LeV.ints rfl (fun k hk => by obtain rfl : k = 0 := (by omega); rfl))⟩, Ln.A⟩, Ln.A⟩) CutL.done))))) ⟨Ln.A, Ln.A, Ln.A, Ln.A, Ln.A, True.intro⟩ ?_
        (repeat' ((try (conv => whnf)); first | (with_reducible first | refine FCond.tA ?_ | refine FCond.fA ?_) | ((with_reducible refine FCond.i (fun hq => ?_) (fun hq => ?_)) <;> (try simp only [zA, zE, zD, zJ, zB, zI, Int.not_le, Int.not_lt] at hq)) | (with_reducible first | refine Fits.in64 (by omega) ?_ | refine FIdx.nat (by omega) ?_ | refine FIdx.int (by omega) ?_ | refine FTo.nat (by omega) ?_ | refine FTo.int (by omega) ?_) | ((with_reducible refine Need.mk ?_ ?_); focus exact needA) | (with_reducible refine FApp.grow ?_)))
        all_goals (try (conv => whnf))
        refine FWk.of [(4, .ptr 0 0), (12, .bool ((vitT c j).testBit q)), (14, .ptr 1 0)] [.box 6 (cJob j), .box 3 (cCrew (flV c q) (c.tie q j.client))] [0, 2] (Cut.of (Nat.le_of_ble_eq_true rfl) rfl rfl (CutL.turned rfl LnB.A (CutL.turned rfl (LnB.boxN ⟨⟨⟨True.intro, Ln.A⟩, Ln.pubE (goneB rfl) rfl (Nat.le_refl _) tie_len.symm (fun k hk o ho => row_tie hq ho)⟩, Ln.A⟩) CutL.done))) ⟨Ln.A, Ln.A, Ln.A, True.intro⟩ ?_
        cases hb : (vitT c j).testBit q
        · rw [hb, if_neg (by decide)] at cT2
          (repeat' ((try (conv => whnf)); first | (with_reducible first | refine FCond.tA ?_ | refine FCond.fA ?_) | ((with_reducible refine FCond.i (fun hq => ?_) (fun hq => ?_)) <;> (try simp only [zA, zE, zD, zJ, zB, zI, Int.not_le, Int.not_lt] at hq)) | (with_reducible first | refine Fits.in64 (by omega) ?_ | refine FIdx.nat (by omega) ?_ | refine FIdx.int (by omega) ?_ | refine FTo.nat (by omega) ?_ | refine FTo.int (by omega) ?_) | ((with_reducible refine Need.mk ?_ ?_); focus exact needA) | (with_reducible refine FApp.grow ?_) | (refine FCall.pure (cT2) ⟨Ln.sameB _ rfl, Ln.sameB _ rfl, True.intro⟩ rfl ?_) | (refine FCall.pure works_ok True.intro rfl ?_)))
          all_goals (try (conv => whnf))
          all_goals first | ((refine ⟨⟨_, [], [], Cut.nil _, Ln.sameB _ rfl, ?_, rfl⟩⟩); rfl) | (exfalso; revert hq; simp; done)
        · rw [hb, if_pos rfl] at cT2
          (repeat' ((try (conv => whnf)); first | (with_reducible first | refine FCond.tA ?_ | refine FCond.fA ?_) | ((with_reducible refine FCond.i (fun hq => ?_) (fun hq => ?_)) <;> (try simp only [zA, zE, zD, zJ, zB, zI, Int.not_le, Int.not_lt] at hq)) | (with_reducible first | refine Fits.in64 (by omega) ?_ | refine FIdx.nat (by omega) ?_ | refine FIdx.int (by omega) ?_ | refine FTo.nat (by omega) ?_ | refine FTo.int (by omega) ?_) | ((with_reducible refine Need.mk ?_ ?_); focus exact needA) | (with_reducible refine FApp.grow ?_) | (refine FCall.pure (cT2) ⟨Ln.sameB _ rfl, Ln.sameB _ rfl, True.intro⟩ rfl ?_) | (refine FCall.pure works_ok True.intro rfl ?_)))
          all_goals (try (conv => whnf))
          all_goals ((refine ⟨⟨_, [], [], Cut.nil _, Ln.sameB _ rfl, ?_, rfl⟩⟩); rfl)
  · (repeat' ((try (conv => whnf)); first | (with_reducible first | refine FCond.tA ?_ | refine FCond.fA ?_) | ((with_reducible refine FCond.i (fun hq => ?_) (fun hq => ?_)) <;> (try simp only [zA, zE, zD, zJ, zB, zI, Int.not_le, Int.not_lt] at hq)) | (with_reducible first | refine Fits.in64 (by omega) ?_ | refine FIdx.nat (by omega) ?_ | refine FIdx.int (by omega) ?_ | refine FTo.nat (by omega) ?_ | refine FTo.int (by omega) ?_) | ((with_reducible refine Need.mk ?_ ?_); focus exact needA) | (with_reducible refine FApp.grow ?_) | (refine FCall.pure (hcv) ⟨Ln.sameB _ rfl, Ln.sameB _ rfl, True.intro⟩ rfl ?_) | (refine FCall.pure works_ok True.intro rfl ?_)))
    all_goals (try (conv => whnf))
    all_goals ((refine ⟨⟨_, [], [], Cut.nil _, Ln.sameB _ rfl, ?_, rfl⟩⟩); rfl)
end Go.Proofs.Ytdipcdallenmkaa
