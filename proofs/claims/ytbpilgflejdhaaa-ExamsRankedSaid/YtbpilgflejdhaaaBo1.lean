/- Exams: papers over abstract values. / Exams: how papers, lists of papers and eases read. / Exams: the contracts of the first walks in the abstract reading. / Exams: the reference's Copy, with an own row of judges (printed by gen_exqb.py). / Exams: what ExamsMore calls. / Exams: Ranks of the program. -/
import Derived.Test.YtbpilgflejdhaaaBm29
import Derived.Test.YtbpilgflejdhaaaBm1
import Derived.Test.YtbpilgflejdhaaaProg
import Derived.KernelRfl
import Derived.Test.YtbpilgflejdhaaaBm9
import Derived.Test.YtbpilgflejdhaaaBm11
set_option linter.unusedSimpArgs false
set_option linter.unusedVariables false
namespace Go.Proofs.Ytbpilgflejdhaaa
open Go.RowKit

theorem mixed : Try.prog.follows .mixedOrders = true := by kernel_rfl
abbrev AI (n : Int) : AV := .int .i64 n
abbrev nilS : AV := .sl true true 0 0 (fun _ _ => .bot)
abbrev aInts (z e : Bool) (l : List Int) : AV := .sl z e l.length 1 (fun k _ => AI (l.getD k 0))
abbrev cItem (x : Item) : Nat → AV := ofL [AI x.weight, AI x.most]
abbrev aItems (z e : Bool) (l : List Item) : AV := .sl z e l.length 2 (fun k => cItem (l.getD k default))
abbrev cJudge (z e : Bool) (x : Judge) : Nat → AV := ofL [AI x.lo, AI x.hi, AI x.err, aInts z e x.marks]
abbrev aJudges (z e : Bool) (rz re : Nat → Bool) (l : List Judge) : AV := .sl z e l.length 4 (fun k => cJudge (rz k) (re k) (l.getD k default))
structure PaF where
  zi : Bool
  ei : Bool
  zj : Bool
  ej : Bool
  zg : Bool
  eg : Bool
  rz : Nat → Bool
  re : Nat → Bool
abbrev cPaper (f : PaF) (p : Paper) : Nat → AV := ofL [aItems f.zi f.ei p.items, aJudges f.zj f.ej f.rz f.re p.judges, AI p.wrong, aInts f.zg f.eg p.grades]
abbrev aPaper (f : PaF) (p : Paper) : AV := .agg 4 (cPaper f p)
/-- The lengths are those of slices. -/
structure Sized (p : Paper) : Prop where
  il : p.items.length ≤ 9223372036854775807
  jl : p.judges.length ≤ 9223372036854775807
  gl : p.grades.length ≤ 9223372036854775807
  ml : ∀ k, k < p.judges.length → (p.judges.getD k default).marks.length ≤ 9223372036854775807
abbrev aRange (r : (Int × Int) × Int) : AV := .tup 2 (ofL [.agg 2 (ofL [AI r.1.1, AI r.1.2]), AI r.2])
end Go.Proofs.Ytbpilgflejdhaaa

namespace Go.Proofs.Ytbpilgflejdhaaa
open Go.RowKit Go.ChangeShapes Go.WideShapes Go.Deep

structure EaseT where
  z : Bool
  j : Judge
  w : Int
  who : Int
  e : Int
  d : Int
section
variable {H : Type} {enc : TypeId × Value → H} {w : World} {base : Nat} {held : Bool}
theorem csz : Try.prog.cellsOf 3 = 1 ∧ Try.prog.cellsOf 24 = 1 ∧ Try.prog.cellsOf 90 = 2 ∧ Try.prog.cellsOf 22 = 1 ∧ Try.prog.cellsOf 35 = 2 ∧ Try.prog.cellsOf 37 = 4 ∧ Try.prog.cellsOf 23 = 1 ∧ Try.prog.cellsOf 26 = 4 ∧ Try.prog.cellsOf 39 = 8 := by
  refine ⟨?_, ?_, ?_, ?_, ?_, ?_, ?_, ?_, ?_⟩ <;> kernel_rfl
theorem rt_int {n : Nat} {cs : List Value} {y : DataW H × List MemPlace} (h : DataW.trod enc Try.prog w base (fun _ => true) held n 3 cs = some y) : ∃ i : Int, I64 i ∧ CellsAre w cs 1 (fun _ => AI i) := rdr_int Try.underlying3 h
theorem rt_ints {n : Nat} {cs : List Value} {y : DataW H × List MemPlace} (h : DataW.trod enc Try.prog w base (fun _ => true) held n 24 cs = some y) : ∃ (z : Bool) (l : List Int), (l.length ≤ 9223372036854775807 ∧ ∀ x ∈ l, I64 x) ∧ CellsAre w cs 1 (fun _ => aInts z false l) :=
  rdr_slice (fun (x : Int) _ => AI x) I64 0 Try.underlying24 csz.1 (by omega) rt_int h
theorem rt_item {n : Nat} {cs : List Value} {y : DataW H × List MemPlace} (h : DataW.trod enc Try.prog w base (fun _ => true) held n 90 cs = some y) : ∃ x : Item, True ∧ CellsAre w cs 2 (cItem x) := by
  obtain ⟨hl, ⟨_, _, h0⟩, ⟨_, _, h1⟩, _⟩ := rdr_fields Try.underlying90 h
  simp only [csz.1] at h0 h1
  obtain ⟨a, _, c0⟩ := rt_int h0
  obtain ⟨b, _, c1⟩ := rt_int h1
  refine ⟨⟨a, b⟩, trivial, by rw [hl]; exact csz.2.2.1, fun o ho => ?_⟩
  rcases (show o = 0 ∨ o = 1 by omega) with rfl | rfl
  · exact c0.sub (o := 0) (by omega)
  · exact c1.sub (o := 0) (by omega)
theorem rt_items {n : Nat} {cs : List Value} {y : DataW H × List MemPlace} (h : DataW.trod enc Try.prog w base (fun _ => true) held n 22 cs = some y) : ∃ (z : Bool) (l : List Item), (l.length ≤ 9223372036854775807 ∧ ∀ x ∈ l, True) ∧ CellsAre w cs 1 (fun _ => aItems z false l) :=
  rdr_slice cItem (fun _ => True) default Try.underlying22 csz.2.2.1 (by omega) rt_item h
theorem rt_span {n : Nat} {cs : List Value} {y : DataW H × List MemPlace} (h : DataW.trod enc Try.prog w base (fun _ => true) held n 35 cs = some y) : ∃ a b : Int, CellsAre w cs 2 (ofL [AI a, AI b]) := by
  obtain ⟨hl, ⟨_, _, h0⟩, ⟨_, _, h1⟩, _⟩ := rdr_fields Try.underlying35 h
  simp only [csz.1] at h0 h1
  obtain ⟨a, _, c0⟩ := rt_int h0
  obtain ⟨b, _, c1⟩ := rt_int h1
  refine ⟨a, b, by rw [hl]; exact csz.2.2.2.2.1, fun o ho => ?_⟩
  rcases (show o = 0 ∨ o = 1 by omega) with rfl | rfl
  · exact c0.sub (o := 0) (by omega)
  · exact c1.sub (o := 0) (by omega)
theorem rt_judge {n : Nat} {cs : List Value} {y : DataW H × List MemPlace} (h : DataW.trod enc Try.prog w base (fun _ => true) held n 37 cs = some y) : ∃ x : Bool × Judge, x.2.marks.length ≤ 9223372036854775807 ∧ CellsAre w cs 4 (cJudge x.1 false x.2) := by
  obtain ⟨hl, ⟨_, _, h0⟩, ⟨_, _, h1⟩, ⟨_, _, h2⟩, _⟩ := rdr_fields Try.underlying37 h
  simp only [csz.1, csz.2.1, csz.2.2.2.2.1] at h0 h1 h2
  obtain ⟨a, b, c0⟩ := rt_span h0
  obtain ⟨c, _, c1⟩ := rt_int h1
  obtain ⟨z, l, hl2, c2⟩ := rt_ints h2
  refine ⟨(z, ⟨a, b, c, l⟩), hl2.1, by rw [hl]; exact csz.2.2.2.2.2.1, fun o ho => ?_⟩
  rcases (show o = 0 ∨ o = 1 ∨ o = 2 ∨ o = 3 by omega) with rfl | rfl | rfl | rfl
  · exact c0.sub (o := 0) (by omega)
  · exact c0.sub (o := 1) (by omega)
  · exact c1.sub (o := 0) (by omega)
  · exact c2.sub (o := 0) (by omega)
theorem rt_judges {n : Nat} {cs : List Value} {y : DataW H × List MemPlace} (h : DataW.trod enc Try.prog w base (fun _ => true) held n 23 cs = some y) : ∃ (z : Bool) (rz : Nat → Bool) (l : List Judge), (l.length ≤ 9223372036854775807 ∧ ∀ k, k < l.length → (l.getD k default).marks.length ≤ 9223372036854775807) ∧ CellsAre w cs 1 (fun _ => aJudges z false rz (fun _ => false) l) := by
  obtain ⟨z, l, ⟨hl, hq⟩, c⟩ := rdr_slice (fun (x : Bool × Judge) => cJudge x.1 false x.2) (fun x => x.2.marks.length ≤ 9223372036854775807) (true, default) Try.underlying23 csz.2.2.2.2.2.1 (by omega) rt_judge h
  have hb : ∀ k, (l.map Prod.snd).getD k default = (l.getD k (true, default)).2 := fun k => by
    simp only [List.getD, List.getElem?_map]
    cases l[k]? <;> rfl
  refine ⟨z, fun k => (l.getD k (true, default)).1, l.map Prod.snd, ⟨by rw [List.length_map]; exact hl, fun k hk => ?_⟩, ?_⟩
  · rw [List.length_map] at hk
    rw [hb]
    exact hq _ (by rw [List.getD, List.getElem?_eq_getElem hk]; exact List.getElem_mem hk)
  · simp only [aJudges, List.length_map, hb]
    exact c
theorem rt_paper {n : Nat} {cs : List Value} {y : DataW H × List MemPlace} (h : DataW.trod enc Try.prog w base (fun _ => true) held n 26 cs = some y) : ∃ (f : PaF) (p : Paper), Sized p ∧ CellsAre w cs 4 (cPaper f p) := by
  obtain ⟨hl, ⟨_, _, h0⟩, ⟨_, _, h1⟩, ⟨_, _, h2⟩, ⟨_, _, h3⟩, _⟩ := rdr_fields Try.underlying26 h
  simp only [csz.1, csz.2.1, csz.2.2.2.1, csz.2.2.2.2.2.2.1] at h0 h1 h2 h3
  obtain ⟨zi, a, ha, c0⟩ := rt_items h0
  obtain ⟨zj, rz, b, hb, c1⟩ := rt_judges h1
  obtain ⟨c, _, c2⟩ := rt_int h2
  obtain ⟨zg, d, hd, c3⟩ := rt_ints h3
  refine ⟨⟨zi, false, zj, false, zg, false, rz, fun _ => false⟩, ⟨a, b, c, d⟩, ⟨ha.1, hb.1, hd.1, hb.2⟩, by rw [hl]; exact csz.2.2.2.2.2.2.2.1, fun o ho => ?_⟩
  rcases (show o = 0 ∨ o = 1 ∨ o = 2 ∨ o = 3 by omega) with rfl | rfl | rfl | rfl
  · exact c0.sub (o := 0) (by omega)
  · exact c1.sub (o := 0) (by omega)
  · exact c2.sub (o := 0) (by omega)
  · exact c3.sub (o := 0) (by omega)
theorem rt_ease {n : Nat} {cs : List Value} {y : DataW H × List MemPlace} (h : DataW.trod enc Try.prog w base (fun _ => true) held n 39 cs = some y) : ∃ x : EaseT, x.j.marks.length ≤ 9223372036854775807 ∧ CellsAre w cs 8 (ofL [AI x.j.lo, AI x.j.hi, AI x.j.err, aInts x.z false x.j.marks, AI x.w, AI x.who, AI x.e, AI x.d]) := by
  obtain ⟨hl, ⟨_, _, h0⟩, ⟨_, _, h1⟩, ⟨_, _, h2⟩, ⟨_, _, h3⟩, ⟨_, _, h4⟩, _⟩ := rdr_fields Try.underlying39 h
  simp only [csz.1, csz.2.2.2.2.2.1] at h0 h1 h2 h3 h4
  obtain ⟨⟨z, j⟩, hj, c0⟩ := rt_judge h0
  obtain ⟨a, _, c1⟩ := rt_int h1
  obtain ⟨b, _, c2⟩ := rt_int h2
  obtain ⟨c, _, c3⟩ := rt_int h3
  obtain ⟨d, _, c4⟩ := rt_int h4
  refine ⟨⟨z, j, a, b, c, d⟩, hj, by rw [hl]; exact csz.2.2.2.2.2.2.2.2, fun o ho => ?_⟩
  rcases (show o = 0 ∨ o = 1 ∨ o = 2 ∨ o = 3 ∨ o = 4 ∨ o = 5 ∨ o = 6 ∨ o = 7 by omega) with rfl | rfl | rfl | rfl | rfl | rfl | rfl | rfl
  · exact c0.sub (o := 0) (by omega)
  · exact c0.sub (o := 1) (by omega)
  · exact c0.sub (o := 2) (by omega)
  · exact c0.sub (o := 3) (by omega)
  · exact c1.sub (o := 0) (by omega)
  · exact c2.sub (o := 0) (by omega)
  · exact c3.sub (o := 0) (by omega)
  · exact c4.sub (o := 0) (by omega)
end
end Go.Proofs.Ytbpilgflejdhaaa

namespace Go.Proofs.Ytbpilgflejdhaaa
open Go.RowKit

section
variable {M : Nat → Prop} {w : World} {g : GM} {v : Value}
theorem rep_ints {z e : Bool} {l : List Int} (h : rep M w (aInts z e l) g v) : ∃ A cap, v = .slice A l.length cap ∧ Ints w A l := by
  obtain ⟨A, cap, rfl, -, -, -, -, h⟩ := h
  refine ⟨A, cap, rfl, fun k hk => ?_⟩
  obtain ⟨b, off, u, hA, hb, -, hc, -, hr⟩ := h k hk 0 (Nat.lt_succ_self 0)
  have hr : u = .int .i64 (l.getD k 0) := hr
  subst hr
  rw [Nat.mul_one] at hc
  exact ⟨b, off, hA, hb, hc⟩
theorem same_at {A : Option Addr} {b off b' off' : Nat} (h : A = some ⟨b, off, none⟩) (h' : A = some ⟨b', off', none⟩) : b' = b ∧ off' = off := by
  subst h
  cases h'
  exact ⟨rfl, rfl⟩
theorem rep_items {z e : Bool} {l : List Item} (h : rep M w (aItems z e l) g v) : ∃ A cap, v = .slice A l.length cap ∧ ItemsAt w A l := by
  obtain ⟨A, cap, rfl, -, -, -, -, h⟩ := h
  refine ⟨A, cap, rfl, fun k hk => ?_⟩
  obtain ⟨b, off, u, hA, hb, -, hc, -, hr⟩ := h k hk 0 (by omega)
  obtain ⟨b', off', u', hA', -, -, hc', -, hr'⟩ := h k hk 1 (by omega)
  obtain ⟨rfl, rfl⟩ := same_at hA hA'
  have hr : u = .int .i64 (l.getD k default).weight := hr
  have hr' : u' = .int .i64 (l.getD k default).most := hr'
  subst hr; subst hr'
  exact ⟨_, _, hA, hb, hc, hc'⟩
theorem rep_judges {z e : Bool} {rz re : Nat → Bool} {l : List Judge} (hl : ∀ k, k < l.length → (l.getD k default).marks.length ≤ 9223372036854775807) (h : rep M w (aJudges z e rz re l) g v) : ∃ A cap, v = .slice A l.length cap ∧ JudgesAt w A l := by
  obtain ⟨A, cap, rfl, -, -, -, -, h⟩ := h
  refine ⟨A, cap, rfl, fun k hk => ?_⟩
  obtain ⟨b, off, u, hA, hb, -, hc, -, hr⟩ := h k hk 0 (by omega)
  obtain ⟨b1, off1, u1, hA1, -, -, hc1, -, hr1⟩ := h k hk 1 (by omega)
  obtain ⟨b2, off2, u2, hA2, -, -, hc2, -, hr2⟩ := h k hk 2 (by omega)
  obtain ⟨b3, off3, u3, hA3, -, -, hc3, -, hr3⟩ := h k hk 3 (by omega)
  obtain ⟨rfl, rfl⟩ := same_at hA hA1
  obtain ⟨rfl, rfl⟩ := same_at hA hA2
  obtain ⟨rfl, rfl⟩ := same_at hA hA3
  have hr : u = .int .i64 (l.getD k default).lo := hr
  have hr1 : u1 = .int .i64 (l.getD k default).hi := hr1
  have hr2 : u2 = .int .i64 (l.getD k default).err := hr2
  subst hr; subst hr1; subst hr2
  obtain ⟨mA, mc, rfl, hm⟩ := rep_ints (z := rz k) (e := re k) (l := (l.getD k default).marks) hr3
  exact ⟨_, _, hA, hb, hc, hc1, hc2, mA, mc, hc3, hm, hl k hk⟩
theorem rep_paper {f : PaF} {p : Paper} (hs : Sized p) (h : rep M w (aPaper f p) g v) : ∃ iA ic jA jc gA gc, v = .agg #[.slice iA p.items.length ic, .slice jA p.judges.length jc, .int .i64 p.wrong, .slice gA p.grades.length gc] ∧ PaperAt w iA jA gA p := by
  obtain ⟨cs, rfl, hz, h⟩ := h
  match cs, hz with
  | ⟨[a, b, c, d]⟩, _ =>
    obtain ⟨_, h0, -, r0⟩ := h 0 (by omega)
    obtain ⟨_, h1, -, r1⟩ := h 1 (by omega)
    obtain ⟨_, h2, -, r2⟩ := h 2 (by omega)
    obtain ⟨_, h3, -, r3⟩ := h 3 (by omega)
    cases h0; cases h1; cases h2; cases h3
    obtain ⟨iA, ic, ei, hi⟩ := rep_items (z := f.zi) (e := f.ei) r0
    obtain ⟨jA, jc, ej, hj⟩ := rep_judges (z := f.zj) (e := f.ej) (rz := f.rz) (re := f.re) hs.ml r1
    obtain ⟨gA, gc, eg, hg⟩ := rep_ints (z := f.zg) (e := f.eg) r3
    have r2 : c = .int .i64 p.wrong := r2
    subst ei; subst ej; subst eg; subst r2
    exact ⟨iA, ic, jA, jc, gA, gc, rfl, hi, hj, hg, hs.il, hs.jl, hs.gl⟩
end
theorem ext_tr {F : Nat → Prop} {g : GM} {w w' : World} (k : HOK F g w []) (e : Ext w w') : Tr F g [] w g [] w' := by
  refine ⟨⟨k.dom, ?_, ?_, ?_, ?_, ?_, ?_, ?_, fun b hb => ⟨Nat.lt_of_lt_of_le (k.fr b hb).1 e.size, (k.fr b hb).2⟩⟩, GM.le_refl _, ⟨e.os, e.tape, e.output, e.size, fun b hb _ => e.block b hb⟩, fun _ h => .inl h⟩
  · rintro d ⟨x, hx, -⟩; cases hx
  · rintro d d' b c c' ⟨x, hx, -⟩; cases hx
  · intro d _ _ _ _ h; cases h
  · intro d _ _ _ _ _ h; cases h
  · intro d _ _ _ _ h; cases h
  · intro d _ _ _ _ _ h; cases h
  · intro d _ _ _ _ _ h; cases h
/-- A contract over worlds, with a plain result, read over abstract values. -/
theorem ACall.plain {f : FuncId} {xs : List AV} {R : AV} (hf : ∃ fn, Try.prog.funcs[f]? = some fn ∧ (fn.name == "runtime.NumGoroutine") = false ∧ fn.body.isNone = false)
    (H : ∀ (M : Nat → Prop) (g : GM) (w : World) (vs : Array Value), vs.size = xs.length → (∀ (i : Nat) (x : AV), xs[i]? = some x → rep M w x g (vs.getD i undef)) → Calls Try.prog f vs w fun e w' => ∃ v, e = .returned v ∧ Ext w w' ∧ ∀ M g, rep M w' R g v) : ACall Try.prog f xs [] (fun r h => r = R ∧ h = []) :=
  ⟨hf, fun _ g w vs k hs hv => (H _ g w vs hs hv).mono fun _ _ ⟨v, he, hE, hr⟩ => ⟨v, R, [], g, he, ext_tr k hE, hr _ _, rfl, rfl⟩⟩
theorem ACall.paper {f : FuncId} {fl : PaF} {p : Paper} {R : AV} (hs : Sized p) (hf : ∃ fn, Try.prog.funcs[f]? = some fn ∧ (fn.name == "runtime.NumGoroutine") = false ∧ fn.body.isNone = false)
    (H : ∀ iA jA gA ic jc gc w, PaperAt w iA jA gA p → Calls Try.prog f #[.agg #[.slice iA p.items.length ic, .slice jA p.judges.length jc, .int .i64 p.wrong, .slice gA p.grades.length gc]] w fun e w' => ∃ v, e = .returned v ∧ Ext w w' ∧ ∀ M g, rep M w' R g v) : ACall Try.prog f [aPaper fl p] [] (fun r h => r = R ∧ h = []) :=
  ACall.plain hf fun M g w vs hz hv => by
    match vs, hz with
    | ⟨[v]⟩, _ =>
      obtain ⟨iA, ic, jA, jc, gA, gc, h1, h2⟩ := rep_paper hs (hv 0 _ rfl)
      have h1 : v = _ := h1
      subst h1
      exact H iA jA gA ic jc gc w h2
theorem ACall.paperT {f : FuncId} {fl : PaF} {p : Paper} {z e : Bool} {t : List Int} {R : AV} (hs : Sized p) (hf : ∃ fn, Try.prog.funcs[f]? = some fn ∧ (fn.name == "runtime.NumGoroutine") = false ∧ fn.body.isNone = false)
    (H : ∀ iA jA gA tA ic jc gc tc w, PaperAt w iA jA gA p → Ints w tA t → Calls Try.prog f #[.agg #[.slice iA p.items.length ic, .slice jA p.judges.length jc, .int .i64 p.wrong, .slice gA p.grades.length gc], .slice tA t.length tc] w fun e w' => ∃ v, e = .returned v ∧ Ext w w' ∧ ∀ M g, rep M w' R g v) : ACall Try.prog f [aPaper fl p, aInts z e t] [] (fun r h => r = R ∧ h = []) :=
  ACall.plain hf fun M g w vs hz hv => by
    match vs, hz with
    | ⟨[v, u]⟩, _ =>
      obtain ⟨iA, ic, jA, jc, gA, gc, h1, h2⟩ := rep_paper hs (hv 0 _ rfl)
      obtain ⟨tA, tc, h3, h4⟩ := rep_ints (z := z) (e := e) (hv 1 _ rfl)
      have h1 : v = _ := h1
      have h3 : u = _ := h3
      subst h1; subst h3
      exact H iA jA gA tA ic jc gc tc w h2 h4
theorem ready_ab {f : PaF} {p : Paper} (hs : Sized p) : ACall Try.prog 18 [aPaper f p] [] (fun r h => r = .bool (readyM p) ∧ h = []) :=
  ACall.paper hs ⟨_, Try.func18, rfl, rfl⟩ fun iA jA gA ic jc gc w h => (ready_any iA jA gA ic jc gc p w h).mono fun _ _ ⟨he, hE⟩ => ⟨_, he, hE, fun _ _ => rfl⟩
theorem check_ab {f : PaF} {p : Paper} (hs : Sized p) : ACall Try.prog 20 [aPaper f p] [] (fun r h => r = AI (checkE p) ∧ h = []) :=
  ACall.paper hs ⟨_, Try.func20, rfl, rfl⟩ fun iA jA gA ic jc gc w h => (checkR_any iA jA gA ic jc gc p w h).mono fun _ _ ⟨he, hE⟩ => ⟨_, he, hE, fun _ _ => rfl⟩
theorem range_ab {f : PaF} {p : Paper} (hs : Sized p) : ACall Try.prog 19 [aPaper f p] [] (fun r h => r = aRange (rangeM p) ∧ h = []) :=
  ACall.paper hs ⟨_, Try.func19, rfl, rfl⟩ fun iA jA gA ic jc gc w h => (range_any iA jA gA ic jc gc p _ _ _ w h rfl).mono fun _ _ ⟨he, hE⟩ => ⟨_, he, hE, fun _ _ => ⟨_, rfl, rfl, fun i hi => by
    match i, hi with
    | 0, _ => exact ⟨_, rfl, _, rfl, rfl, fun i hi => by
        match i, hi with
        | 0, _ => exact ⟨_, rfl, rfl, rfl⟩
        | 1, _ => exact ⟨_, rfl, rfl, rfl⟩⟩
    | 1, _ => exact ⟨_, rfl, rfl⟩⟩⟩
theorem works_ab : ACall Try.prog 14 [] [] (fun r h => r = .bool true ∧ h = []) :=
  ACall.plain ⟨_, Try.func14, rfl, rfl⟩ fun M g w vs hz hv => by
    match vs, hz with
    | ⟨[]⟩, _ => exact (works_any w).mono fun _ _ ⟨he, hE⟩ => ⟨_, he, hE, fun _ _ => rfl⟩
theorem possible_ab {f : PaF} {p : Paper} {z e : Bool} {t : List Int} (hs : Sized p) (hv : Valid p) (ht : t.length ≤ 9223372036854775807) : ACall Try.prog 22 [aPaper f p, aInts z e t] [] (fun r h => r = .bool (isPossible p t) ∧ h = []) :=
  ACall.paperT hs ⟨_, Try.func22, rfl, rfl⟩ fun iA jA gA tA ic jc gc tc w h h2 => (isPossible_any iA jA gA tA ic jc gc tc p t w h hv h2 ht).mono fun _ _ ⟨he, hE⟩ => ⟨_, he, hE, fun _ _ => rfl⟩
theorem result_ab {f : PaF} {p : Paper} {z e : Bool} {t : List Int} (hs : Sized p) (hv : Valid p) (hp : isPossible p t = true) : ACall Try.prog 23 [aPaper f p, aInts z e t] [] (fun r h => r = AI (resultOf p t) ∧ h = []) := by
  have ht := isTruth_iff.1 (possible_truth hp)
  have hl := ht.1
  have hil := hv.il
  exact ACall.paperT hs ⟨_, Try.func23, rfl, rfl⟩ fun iA jA gA tA ic jc gc tc w h h2 => (result_any iA jA gA tA ic jc gc tc p.judges.length p.grades.length p.wrong p t w h.items hil.2 h2 hl (fun k hk => ⟨(hv.it k (by omega)).1, (hv.it k (by omega)).2.1⟩) (fun k hk => by have a := ht.2 k hk; have b := hv.it k (by omega); omega)).mono fun _ _ ⟨he, hE⟩ => ⟨_, he, hE, fun _ _ => rfl⟩
end Go.Proofs.Ytbpilgflejdhaaa

namespace Go.Proofs.Ytbpilgflejdhaaa
open Go.RowKit

theorem Ln.slZ {σ : Nat → Nat → Prop} {Bp : Nat → Prop} {H : List AB} {n' sz : Nat} {c c' : Nat → Nat → AV} (h : n' = 0) : Ln σ Bp H (.sl false true 0 sz c) (.sl false (decide (n' = 0)) n' sz c') := by
  subst h
  exact Ln.sl _ _ _ _ _ _ _ (fun _ => rfl) (fun k hk => absurd hk (Nat.not_lt_zero k))
theorem Ln.pubD {σ : Nat → Nat → Prop} {Bp : Nat → Prop} {H : List AB} {d n n' N sz : Nat} {c c' : Nat → Nat → AV} (h0 : 0 < n') (h : Bp d) (hd : H[d]? = some (.row N sz c)) (hn : n ≤ N) (e : n = n') (hc : ∀ k, k < n → ∀ o, o < sz → c' k o = c k o) : Ln σ Bp H (.own d n) (.sl false (decide (n' = 0)) n' sz c') := by
  rw [decide_eq_false (by omega)]; exact Ln.pubE h hd hn e hc
abbrev cpInts (l : List Int) : AV := aInts false (decide (l.length = 0)) l
abbrev cJu (l : List Judge) : Nat → Nat → AV := fun k => cJudge false false (l.getD k default)
abbrev rowJ (n : Nat) (l : List Judge) : AB := .row n 4 (cJu l)
abbrev oJ (d : Nat) (n : Nat) : AV := match n with
  | 0 => nilS
  | n + 1 => .own d (n + 1)
abbrev hJ (n : Nat) (l : List Judge) : List AB := match n with
  | 0 => []
  | n + 1 => [rowJ (n + 1) l]
set_option maxHeartbeats 8000000
set_option maxRecDepth 100000
theorem copyJ3 (f : PaF) (i0 : Item) (is : List Item) (judges : List Judge) (wrong : Int) (grades : List Int) (n1 : is.length ≤ 1000) (n2 : judges.length ≤ 1000) (n3 : grades.length ≤ 1000) (n4 : ∀ k, k < judges.length → 0 < (judges.getD k default).marks.length ∧ (judges.getD k default).marks.length ≤ 1000) : ACall Try.prog 16 [aPaper f ⟨i0 :: is, judges, wrong, grades⟩] [] (fun v h => v = .agg 4 (ofL [aItems false false (i0 :: is), oJ 0 judges.length, AI wrong, cpInts grades]) ∧ h = hJ judges.length judges) := by
  (refine fcall_of mixed Try.func16 rfl (by decide) (hs := { pub := [2, 7], alt := [(1, ⟨[0, 1, 2, 4, 5, 6, 7, 8], (.alt 3 [] (.alt 9 [10] (.alt 11 [] (.alt 12 [] .leaf .leaf) .leaf) (.alt 11 [] (.alt 9 [10] (.alt 12 [] .leaf .leaf) .leaf) .leaf)) (.alt 11 [] (.alt 3 [] (.alt 9 [10] (.alt 12 [] .leaf .leaf) .leaf) .leaf) .leaf)), [(3, [5, 8]), (9, [5]), (11, [2, 5, 8])]⟩)] }) ?k (ac := ?ac) ?c (rs := ?rs) ?r ?l ?H; (case k => kernel_rfl); (case c => (conv => (lhs; cbv))); (case r => (conv => (lhs; cbv))); (case l => exact Nat.le_of_ble_eq_true rfl))
  rcases grades with _ | ⟨g0, gs⟩
  · have n1' : (i0 :: is).length ≤ 1001 := by simp only [List.length_cons]; omega
    simp only [List.length_cons] at n1'
    apply cutG
    · intro rest
      (repeat' ((try (conv => whnf)); first | (with_reducible first | refine FCond.tA ?_ | refine FCond.fA ?_) | ((with_reducible refine FCond.i (fun hq => ?_) (fun hq => ?_)) <;> (try simp only [zA, zE, zD, zJ, zB, zI, Int.not_le, Int.not_lt] at hq)) | (with_reducible first | refine Fits.in64 (by omega) ?_ | refine FIdx.nat (by omega) ?_ | refine FIdx.int (by omega) ?_ | refine FTo.nat (by omega) ?_ | refine FTo.int (by omega) ?_) | ((with_reducible refine Need.mk ?_ ?_); focus exact needA) | (with_reducible refine FApp.grow ?_) | (refine FAlt.mk ?_ ?_) | (with_reducible refine FOr.pub ?_)))
      all_goals (try (conv => whnf))
      all_goals first
        | exact FWk.of [(1, .ptr 0 0), (2, .ptr 1 0), (3, .ptr 2 0)] [.box 4 (cPaper f ⟨i0 :: is, judges, wrong, []⟩), .box 4 (ofL [nilS, nilS, AI 0, nilS]), .box 4 (ofL [aItems false false (i0 :: is), nilS, AI wrong, cpInts []])] [0, 1, 2] (Cut.of (Nat.le_of_ble_eq_true rfl) rfl rfl (CutL.turned rfl (LnB.boxN ⟨⟨⟨⟨True.intro, Ln.sameB _ rfl⟩, Ln.sameB _ rfl⟩, Ln.sameB _ rfl⟩, Ln.sameB _ rfl⟩) (CutL.turned rfl (LnB.boxN ⟨⟨⟨⟨True.intro, Ln.sameB _ rfl⟩, Ln.sameB _ rfl⟩, Ln.sameB _ rfl⟩, Ln.sameB _ rfl⟩) (CutL.turned rfl (LnB.boxN ⟨⟨⟨⟨True.intro, by exact Ln.pubE (goneB rfl) rfl (Nat.le_refl _) (Nat.zero_add _) (fun k hk o ho => by simp [appc])⟩, Ln.sameB _ rfl⟩, Ln.sameB _ rfl⟩, Ln.slZ rfl⟩) CutL.done)))) ⟨Ln.ptr _ _ _ rfl, Ln.ptr _ _ _ rfl, Ln.ptr _ _ _ rfl, True.intro⟩ rest.h
        | exact FWk.of [(1, .ptr 0 0), (2, .ptr 1 0), (3, .ptr 2 0)] [.box 4 (cPaper f ⟨i0 :: is, judges, wrong, []⟩), .box 4 (ofL [nilS, nilS, AI 0, nilS]), .box 4 (ofL [aItems false false (i0 :: is), nilS, AI wrong, cpInts []])] [0, 1, 3] (Cut.of (Nat.le_of_ble_eq_true rfl) rfl rfl (CutL.turned rfl (LnB.boxN ⟨⟨⟨⟨True.intro, Ln.sameB _ rfl⟩, Ln.sameB _ rfl⟩, Ln.sameB _ rfl⟩, Ln.sameB _ rfl⟩) (CutL.turned rfl (LnB.boxN ⟨⟨⟨⟨True.intro, Ln.sameB _ rfl⟩, Ln.sameB _ rfl⟩, Ln.sameB _ rfl⟩, Ln.sameB _ rfl⟩) (CutL.turned rfl (LnB.boxN ⟨⟨⟨⟨True.intro, by exact Ln.pubE (goneB rfl) rfl (Nat.le_refl _) (Nat.zero_add _) (fun k hk o ho => by simp [appc])⟩, Ln.sameB _ rfl⟩, Ln.sameB _ rfl⟩, Ln.slZ rfl⟩) CutL.done)))) ⟨Ln.ptr _ _ _ rfl, Ln.ptr _ _ _ rfl, Ln.ptr _ _ _ rfl, True.intro⟩ rest.h
        | fail
    (try (conv => whnf))
    generalize hgl : ([] : List Int) = grades
    generalize hil : (i0 :: is) = items
    (repeat' ((try (conv => whnf)); first | (with_reducible first | refine FCond.tA ?_ | refine FCond.fA ?_) | ((with_reducible refine FCond.i (fun hq => ?_) (fun hq => ?_)) <;> (try simp only [zA, zE, zD, zJ, zB, zI, Int.not_le, Int.not_lt] at hq)) | (with_reducible first | refine Fits.in64 (by omega) ?_ | refine FIdx.nat (by omega) ?_ | refine FIdx.int (by omega) ?_ | refine FTo.nat (by omega) ?_ | refine FTo.int (by omega) ?_) | ((with_reducible refine Need.mk ?_ ?_); focus exact needA) | (with_reducible refine FApp.grow ?_) | (with_reducible refine FOr.pub ?_)))
    (try (conv => whnf))
    refine FLoop.of (ACalls.mono _) (X := Nat) (fun i => [(1, .ptr 0 0), (2, .ptr 1 0), (3, .ptr 2 0), (4, AI i)]) (fun i => match i with
      | 0 => [.box 4 (cPaper f ⟨items, judges, wrong, grades⟩), .box 4 (ofL [nilS, nilS, AI 0, nilS]), .box 4 (ofL [aItems false false items, nilS, AI wrong, cpInts grades])]
      | i + 1 => [.box 4 (cPaper f ⟨items, judges, wrong, grades⟩), .box 4 (ofL [nilS, nilS, AI 0, nilS]), .box 4 (ofL [aItems false false items, .own 3 (i + 1), AI wrong, cpInts grades]), rowJ (i + 1) judges]) (fun i => i ≤ judges.length) (fun i => judges.length - i) 0 ⟨Nat.zero_le _, [0, 1, 2], Cut.A, allA⟩ ?_
    intro i hi
    by_cases hlt : i < judges.length
    · obtain ⟨q1, q2⟩ := n4 i hlt
      rcases i with _ | i
      · (repeat' ((try (conv => whnf)); first | (with_reducible first | refine FCond.tA ?_ | refine FCond.fA ?_) | ((with_reducible refine FCond.i (fun hq => ?_) (fun hq => ?_)) <;> (try simp only [zA, zE, zD, zJ, zB, zI, Int.not_le, Int.not_lt] at hq)) | (with_reducible first | refine Fits.in64 (by omega) ?_ | refine FIdx.nat (by omega) ?_ | refine FIdx.int (by omega) ?_ | refine FTo.nat (by omega) ?_ | refine FTo.int (by omega) ?_) | ((with_reducible refine Need.mk ?_ ?_); focus exact needA) | (with_reducible refine FApp.grow ?_) | (with_reducible refine FOr.pub ?_)))
        (try (conv => whnf))
        rcases hL : (judges.getD 0 default).marks.length with _ | L
        · omega
        (repeat' ((try (conv => whnf)); first | (with_reducible first | refine FCond.tA ?_ | refine FCond.fA ?_) | ((with_reducible refine FCond.i (fun hq => ?_) (fun hq => ?_)) <;> (try simp only [zA, zE, zD, zJ, zB, zI, Int.not_le, Int.not_lt] at hq)) | (with_reducible first | refine Fits.in64 (by omega) ?_ | refine FIdx.nat (by omega) ?_ | refine FIdx.int (by omega) ?_ | refine FTo.nat (by omega) ?_ | refine FTo.int (by omega) ?_) | ((with_reducible refine Need.mk ?_ ?_); focus exact needA) | (with_reducible refine FApp.grow ?_) | (with_reducible refine FOr.pub ?_)))
        (try (conv => whnf))
        refine FWk.of [(1, .ptr 0 0), (2, .ptr 1 0), (3, .ptr 2 0), (4, AI (0 : Nat)), (5, .ptr 3 0)] [.box 4 (cPaper f ⟨items, judges, wrong, grades⟩), .box 4 (ofL [nilS, nilS, AI 0, nilS]), .box 4 (ofL [aItems false false items, nilS, AI wrong, cpInts grades]), .box 4 (cJu judges 0)] [0, 1, 2, 3] (Cut.of (Nat.le_of_ble_eq_true rfl) rfl rfl (CutL.turned rfl LnB.A (CutL.turned rfl LnB.A (CutL.turned rfl LnB.A (CutL.turned rfl (LnB.boxN ⟨⟨⟨⟨True.intro, Ln.A⟩, Ln.A⟩, Ln.A⟩, by exact Ln.pubE (goneB rfl) rfl (by omega) (by omega) (fun k hk o ho => by simp [appc])⟩) CutL.done))))) ⟨Ln.ptr _ _ _ rfl, Ln.ptr _ _ _ rfl, Ln.ptr _ _ _ rfl, Ln.A, Ln.ptr _ _ _ rfl, True.intro⟩ ?_
        (repeat' ((try (conv => whnf)); first | (with_reducible first | refine FCond.tA ?_ | refine FCond.fA ?_) | ((with_reducible refine FCond.i (fun hq => ?_) (fun hq => ?_)) <;> (try simp only [zA, zE, zD, zJ, zB, zI, Int.not_le, Int.not_lt] at hq)) | (with_reducible first | refine Fits.in64 (by omega) ?_ | refine FIdx.nat (by omega) ?_ | refine FIdx.int (by omega) ?_ | refine FTo.nat (by omega) ?_ | refine FTo.int (by omega) ?_) | ((with_reducible refine Need.mk ?_ ?_); focus exact needA) | (with_reducible refine FApp.grow ?_) | (with_reducible refine FOr.pub ?_)))
        (try (conv => whnf))
        (exact ⟨⟨1, hlt, by show _ < _; omega, [0, 1, 2, 4], (by (refine Cut.of (Nat.le_of_ble_eq_true rfl) rfl rfl ?_; repeat (first | exact CutL.done | (refine CutL.turned rfl (by first | exact LnB.rowS | exact LnB.app (fun k hk => absurd hk (Nat.not_lt_zero k)) (fun o ho => rfl) | exact LnB.A) ?_) | (refine CutL.gone (Nat.lt_of_lt_of_le (Nat.lt_succ_self _) (Nat.le_of_ble_eq_true rfl)) ?_)))), allA⟩⟩)
      · (repeat' ((try (conv => whnf)); first | (with_reducible first | refine FCond.tA ?_ | refine FCond.fA ?_) | ((with_reducible refine FCond.i (fun hq => ?_) (fun hq => ?_)) <;> (try simp only [zA, zE, zD, zJ, zB, zI, Int.not_le, Int.not_lt] at hq)) | (with_reducible first | refine Fits.in64 (by omega) ?_ | refine FIdx.nat (by omega) ?_ | refine FIdx.int (by omega) ?_ | refine FTo.nat (by omega) ?_ | refine FTo.int (by omega) ?_) | ((with_reducible refine Need.mk ?_ ?_); focus exact needA) | (with_reducible refine FApp.grow ?_) | (with_reducible refine FOr.pub ?_)))
        (try (conv => whnf))
        rcases hL : (judges.getD (i + 1) default).marks.length with _ | L
        · omega
        (repeat' ((try (conv => whnf)); first | (with_reducible first | refine FCond.tA ?_ | refine FCond.fA ?_) | ((with_reducible refine FCond.i (fun hq => ?_) (fun hq => ?_)) <;> (try simp only [zA, zE, zD, zJ, zB, zI, Int.not_le, Int.not_lt] at hq)) | (with_reducible first | refine Fits.in64 (by omega) ?_ | refine FIdx.nat (by omega) ?_ | refine FIdx.int (by omega) ?_ | refine FTo.nat (by omega) ?_ | refine FTo.int (by omega) ?_) | ((with_reducible refine Need.mk ?_ ?_); focus exact needA) | (with_reducible refine FApp.grow ?_) | (with_reducible refine FOr.pub ?_)))
        (try (conv => whnf))
        refine FWk.of [(1, .ptr 0 0), (2, .ptr 1 0), (3, .ptr 2 0), (4, AI (i + 1 : Nat)), (5, .ptr 4 0)] [.box 4 (cPaper f ⟨items, judges, wrong, grades⟩), .box 4 (ofL [nilS, nilS, AI 0, nilS]), .box 4 (ofL [aItems false false items, .own 3 (i + 1), AI wrong, cpInts grades]), rowJ (i + 1) judges, .box 4 (cJu judges (i + 1))] [0, 1, 2, 3, 4] (Cut.of (Nat.le_of_ble_eq_true rfl) rfl rfl (CutL.turned rfl LnB.A (CutL.turned rfl LnB.A (CutL.turned rfl LnB.A (CutL.turned rfl LnB.A (CutL.turned rfl (LnB.boxN ⟨⟨⟨⟨True.intro, Ln.A⟩, Ln.A⟩, Ln.A⟩, by exact Ln.pubE (goneB rfl) rfl (by omega) (by omega) (fun k hk o ho => by simp [appc])⟩) CutL.done)))))) ⟨Ln.ptr _ _ _ rfl, Ln.ptr _ _ _ rfl, Ln.ptr _ _ _ rfl, Ln.A, Ln.ptr _ _ _ rfl, True.intro⟩ ?_
        (repeat' ((try (conv => whnf)); first | (with_reducible first | refine FCond.tA ?_ | refine FCond.fA ?_) | ((with_reducible refine FCond.i (fun hq => ?_) (fun hq => ?_)) <;> (try simp only [zA, zE, zD, zJ, zB, zI, Int.not_le, Int.not_lt] at hq)) | (with_reducible first | refine Fits.in64 (by omega) ?_ | refine FIdx.nat (by omega) ?_ | refine FIdx.int (by omega) ?_ | refine FTo.nat (by omega) ?_ | refine FTo.int (by omega) ?_) | ((with_reducible refine Need.mk ?_ ?_); focus exact needA) | (with_reducible refine FApp.grow ?_) | (with_reducible refine FOr.pub ?_)))
        (try (conv => whnf))
        (exact ⟨⟨(i + 2), hlt, by show _ < _; omega, [0, 1, 2, 5], (by (refine Cut.of (Nat.le_of_ble_eq_true rfl) rfl rfl ?_; repeat (first | exact CutL.done | (refine CutL.turned rfl (by first | exact LnB.rowS | exact LnB.app (fun _ _ _ _ => rfl) (fun o ho => rfl) | exact LnB.A) ?_) | (refine CutL.gone (Nat.lt_of_lt_of_le (Nat.lt_succ_self _) (Nat.le_of_ble_eq_true rfl)) ?_)))), allA⟩⟩)
    · obtain rfl : i = judges.length := by omega
      rcases hn : judges.length with _ | n
      · (repeat' ((try (conv => whnf)); first | (with_reducible first | refine FCond.tA ?_ | refine FCond.fA ?_) | ((with_reducible refine FCond.i (fun hq => ?_) (fun hq => ?_)) <;> (try simp only [zA, zE, zD, zJ, zB, zI, Int.not_le, Int.not_lt] at hq)) | (with_reducible first | refine Fits.in64 (by omega) ?_ | refine FIdx.nat (by omega) ?_ | refine FIdx.int (by omega) ?_ | refine FTo.nat (by omega) ?_ | refine FTo.int (by omega) ?_) | ((with_reducible refine Need.mk ?_ ?_); focus exact needA) | (with_reducible refine FApp.grow ?_) | (with_reducible refine FOr.pub ?_)))
        (try (conv => whnf))
        exact ⟨⟨.agg 4 (ofL [aItems false false items, nilS, AI wrong, cpInts grades]), [], [], Cut.nil _, Ln.A, by subst hgl; subst hil; rfl, rfl⟩⟩
      · (repeat' ((try (conv => whnf)); first | (with_reducible first | refine FCond.tA ?_ | refine FCond.fA ?_) | ((with_reducible refine FCond.i (fun hq => ?_) (fun hq => ?_)) <;> (try simp only [zA, zE, zD, zJ, zB, zI, Int.not_le, Int.not_lt] at hq)) | (with_reducible first | refine Fits.in64 (by omega) ?_ | refine FIdx.nat (by omega) ?_ | refine FIdx.int (by omega) ?_ | refine FTo.nat (by omega) ?_ | refine FTo.int (by omega) ?_) | ((with_reducible refine Need.mk ?_ ?_); focus exact needA) | (with_reducible refine FApp.grow ?_) | (with_reducible refine FOr.pub ?_)))
        (try (conv => whnf))
        exact ⟨⟨.agg 4 (ofL [aItems false false items, .own 0 (n + 1), AI wrong, cpInts grades]), [rowJ (n + 1) judges], [3], Cut.A, Ln.aggN ⟨⟨⟨⟨True.intro, Ln.A⟩, Ln.A⟩, Ln.A⟩, Ln.A⟩, by subst hgl; subst hil; rfl, rfl⟩⟩
  · have n1' : (i0 :: is).length ≤ 1001 := by simp only [List.length_cons]; omega
    simp only [List.length_cons] at n1' n3
    apply cutG
    · intro rest
      (repeat' ((try (conv => whnf)); first | (with_reducible first | refine FCond.tA ?_ | refine FCond.fA ?_) | ((with_reducible refine FCond.i (fun hq => ?_) (fun hq => ?_)) <;> (try simp only [zA, zE, zD, zJ, zB, zI, Int.not_le, Int.not_lt] at hq)) | (with_reducible first | refine Fits.in64 (by omega) ?_ | refine FIdx.nat (by omega) ?_ | refine FIdx.int (by omega) ?_ | refine FTo.nat (by omega) ?_ | refine FTo.int (by omega) ?_) | ((with_reducible refine Need.mk ?_ ?_); focus exact needA) | (with_reducible refine FApp.grow ?_) | (refine FAlt.mk ?_ ?_) | (with_reducible refine FOr.pub ?_)))
      all_goals (try (conv => whnf))
      all_goals first
        | exact FWk.of [(1, .ptr 0 0), (2, .ptr 1 0), (3, .ptr 2 0)] [.box 4 (cPaper f ⟨i0 :: is, judges, wrong, (g0 :: gs)⟩), .box 4 (ofL [nilS, nilS, AI 0, nilS]), .box 4 (ofL [aItems false false (i0 :: is), nilS, AI wrong, cpInts (g0 :: gs)])] [0, 1, 2] (Cut.of (Nat.le_of_ble_eq_true rfl) rfl rfl (CutL.turned rfl (LnB.boxN ⟨⟨⟨⟨True.intro, Ln.sameB _ rfl⟩, Ln.sameB _ rfl⟩, Ln.sameB _ rfl⟩, Ln.sameB _ rfl⟩) (CutL.turned rfl (LnB.boxN ⟨⟨⟨⟨True.intro, Ln.sameB _ rfl⟩, Ln.sameB _ rfl⟩, Ln.sameB _ rfl⟩, Ln.sameB _ rfl⟩) (CutL.turned rfl (LnB.boxN ⟨⟨⟨⟨True.intro, by exact Ln.pubE (goneB rfl) rfl (Nat.le_refl _) (Nat.zero_add _) (fun k hk o ho => by simp [appc])⟩, Ln.sameB _ rfl⟩, Ln.sameB _ rfl⟩, by exact Ln.pubD (Nat.succ_pos _) (goneB rfl) rfl (Nat.le_refl _) (Nat.zero_add _) (fun k hk o ho => by simp [appc])⟩) CutL.done)))) ⟨Ln.ptr _ _ _ rfl, Ln.ptr _ _ _ rfl, Ln.ptr _ _ _ rfl, True.intro⟩ rest.h
        | exact FWk.of [(1, .ptr 0 0), (2, .ptr 1 0), (3, .ptr 2 0)] [.box 4 (cPaper f ⟨i0 :: is, judges, wrong, (g0 :: gs)⟩), .box 4 (ofL [nilS, nilS, AI 0, nilS]), .box 4 (ofL [aItems false false (i0 :: is), nilS, AI wrong, cpInts (g0 :: gs)])] [0, 1, 3] (Cut.of (Nat.le_of_ble_eq_true rfl) rfl rfl (CutL.turned rfl (LnB.boxN ⟨⟨⟨⟨True.intro, Ln.sameB _ rfl⟩, Ln.sameB _ rfl⟩, Ln.sameB _ rfl⟩, Ln.sameB _ rfl⟩) (CutL.turned rfl (LnB.boxN ⟨⟨⟨⟨True.intro, Ln.sameB _ rfl⟩, Ln.sameB _ rfl⟩, Ln.sameB _ rfl⟩, Ln.sameB _ rfl⟩) (CutL.turned rfl (LnB.boxN ⟨⟨⟨⟨True.intro, by exact Ln.pubE (goneB rfl) rfl (Nat.le_refl _) (Nat.zero_add _) (fun k hk o ho => by simp [appc])⟩, Ln.sameB _ rfl⟩, Ln.sameB _ rfl⟩, by exact Ln.pubD (Nat.succ_pos _) (goneB rfl) rfl (Nat.le_refl _) (Nat.zero_add _) (fun k hk o ho => by simp [appc])⟩) CutL.done)))) ⟨Ln.ptr _ _ _ rfl, Ln.ptr _ _ _ rfl, Ln.ptr _ _ _ rfl, True.intro⟩ rest.h
        | exact FWk.of [(1, .ptr 0 0), (2, .ptr 1 0), (3, .ptr 2 0)] [.box 4 (cPaper f ⟨i0 :: is, judges, wrong, (g0 :: gs)⟩), .box 4 (ofL [nilS, nilS, AI 0, nilS]), .box 4 (ofL [aItems false false (i0 :: is), nilS, AI wrong, cpInts (g0 :: gs)])] [0, 1, 4] (Cut.of (Nat.le_of_ble_eq_true rfl) rfl rfl (CutL.turned rfl (LnB.boxN ⟨⟨⟨⟨True.intro, Ln.sameB _ rfl⟩, Ln.sameB _ rfl⟩, Ln.sameB _ rfl⟩, Ln.sameB _ rfl⟩) (CutL.turned rfl (LnB.boxN ⟨⟨⟨⟨True.intro, Ln.sameB _ rfl⟩, Ln.sameB _ rfl⟩, Ln.sameB _ rfl⟩, Ln.sameB _ rfl⟩) (CutL.turned rfl (LnB.boxN ⟨⟨⟨⟨True.intro, by exact Ln.pubE (goneB rfl) rfl (Nat.le_refl _) (Nat.zero_add _) (fun k hk o ho => by simp [appc])⟩, Ln.sameB _ rfl⟩, Ln.sameB _ rfl⟩, by exact Ln.pubD (Nat.succ_pos _) (goneB rfl) rfl (Nat.le_refl _) (Nat.zero_add _) (fun k hk o ho => by simp [appc])⟩) CutL.done)))) ⟨Ln.ptr _ _ _ rfl, Ln.ptr _ _ _ rfl, Ln.ptr _ _ _ rfl, True.intro⟩ rest.h
        | fail
    (try (conv => whnf))
    generalize hgl : (g0 :: gs) = grades
    generalize hil : (i0 :: is) = items
    (repeat' ((try (conv => whnf)); first | (with_reducible first | refine FCond.tA ?_ | refine FCond.fA ?_) | ((with_reducible refine FCond.i (fun hq => ?_) (fun hq => ?_)) <;> (try simp only [zA, zE, zD, zJ, zB, zI, Int.not_le, Int.not_lt] at hq)) | (with_reducible first | refine Fits.in64 (by omega) ?_ | refine FIdx.nat (by omega) ?_ | refine FIdx.int (by omega) ?_ | refine FTo.nat (by omega) ?_ | refine FTo.int (by omega) ?_) | ((with_reducible refine Need.mk ?_ ?_); focus exact needA) | (with_reducible refine FApp.grow ?_) | (with_reducible refine FOr.pub ?_)))
    (try (conv => whnf))
    refine FLoop.of (ACalls.mono _) (X := Nat) (fun i => [(1, .ptr 0 0), (2, .ptr 1 0), (3, .ptr 2 0), (4, AI i)]) (fun i => match i with
      | 0 => [.box 4 (cPaper f ⟨items, judges, wrong, grades⟩), .box 4 (ofL [nilS, nilS, AI 0, nilS]), .box 4 (ofL [aItems false false items, nilS, AI wrong, cpInts grades])]
      | i + 1 => [.box 4 (cPaper f ⟨items, judges, wrong, grades⟩), .box 4 (ofL [nilS, nilS, AI 0, nilS]), .box 4 (ofL [aItems false false items, .own 3 (i + 1), AI wrong, cpInts grades]), rowJ (i + 1) judges]) (fun i => i ≤ judges.length) (fun i => judges.length - i) 0 ⟨Nat.zero_le _, [0, 1, 2], Cut.A, allA⟩ ?_
    intro i hi
    by_cases hlt : i < judges.length
    · obtain ⟨q1, q2⟩ := n4 i hlt
      rcases i with _ | i
      · (repeat' ((try (conv => whnf)); first | (with_reducible first | refine FCond.tA ?_ | refine FCond.fA ?_) | ((with_reducible refine FCond.i (fun hq => ?_) (fun hq => ?_)) <;> (try simp only [zA, zE, zD, zJ, zB, zI, Int.not_le, Int.not_lt] at hq)) | (with_reducible first | refine Fits.in64 (by omega) ?_ | refine FIdx.nat (by omega) ?_ | refine FIdx.int (by omega) ?_ | refine FTo.nat (by omega) ?_ | refine FTo.int (by omega) ?_) | ((with_reducible refine Need.mk ?_ ?_); focus exact needA) | (with_reducible refine FApp.grow ?_) | (with_reducible refine FOr.pub ?_)))
        (try (conv => whnf))
        rcases hL : (judges.getD 0 default).marks.length with _ | L
        · omega
        (repeat' ((try (conv => whnf)); first | (with_reducible first | refine FCond.tA ?_ | refine FCond.fA ?_) | ((with_reducible refine FCond.i (fun hq => ?_) (fun hq => ?_)) <;> (try simp only [zA, zE, zD, zJ, zB, zI, Int.not_le, Int.not_lt] at hq)) | (with_reducible first | refine Fits.in64 (by omega) ?_ | refine FIdx.nat (by omega) ?_ | refine FIdx.int (by omega) ?_ | refine FTo.nat (by omega) ?_ | refine FTo.int (by omega) ?_) | ((with_reducible refine Need.mk ?_ ?_); focus exact needA) | (with_reducible refine FApp.grow ?_) | (with_reducible refine FOr.pub ?_)))
        (try (conv => whnf))
        refine FWk.of [(1, .ptr 0 0), (2, .ptr 1 0), (3, .ptr 2 0), (4, AI (0 : Nat)), (5, .ptr 3 0)] [.box 4 (cPaper f ⟨items, judges, wrong, grades⟩), .box 4 (ofL [nilS, nilS, AI 0, nilS]), .box 4 (ofL [aItems false false items, nilS, AI wrong, cpInts grades]), .box 4 (cJu judges 0)] [0, 1, 2, 3] (Cut.of (Nat.le_of_ble_eq_true rfl) rfl rfl (CutL.turned rfl LnB.A (CutL.turned rfl LnB.A (CutL.turned rfl LnB.A (CutL.turned rfl (LnB.boxN ⟨⟨⟨⟨True.intro, Ln.A⟩, Ln.A⟩, Ln.A⟩, by exact Ln.pubE (goneB rfl) rfl (by omega) (by omega) (fun k hk o ho => by simp [appc])⟩) CutL.done))))) ⟨Ln.ptr _ _ _ rfl, Ln.ptr _ _ _ rfl, Ln.ptr _ _ _ rfl, Ln.A, Ln.ptr _ _ _ rfl, True.intro⟩ ?_
        (repeat' ((try (conv => whnf)); first | (with_reducible first | refine FCond.tA ?_ | refine FCond.fA ?_) | ((with_reducible refine FCond.i (fun hq => ?_) (fun hq => ?_)) <;> (try simp only [zA, zE, zD, zJ, zB, zI, Int.not_le, Int.not_lt] at hq)) | (with_reducible first | refine Fits.in64 (by omega) ?_ | refine FIdx.nat (by omega) ?_ | refine FIdx.int (by omega) ?_ | refine FTo.nat (by omega) ?_ | refine FTo.int (by omega) ?_) | ((with_reducible refine Need.mk ?_ ?_); focus exact needA) | (with_reducible refine FApp.grow ?_) | (with_reducible refine FOr.pub ?_)))
        (try (conv => whnf))
        (exact ⟨⟨1, hlt, by show _ < _; omega, [0, 1, 2, 4], (by (refine Cut.of (Nat.le_of_ble_eq_true rfl) rfl rfl ?_; repeat (first | exact CutL.done | (refine CutL.turned rfl (by first | exact LnB.rowS | exact LnB.app (fun k hk => absurd hk (Nat.not_lt_zero k)) (fun o ho => rfl) | exact LnB.A) ?_) | (refine CutL.gone (Nat.lt_of_lt_of_le (Nat.lt_succ_self _) (Nat.le_of_ble_eq_true rfl)) ?_)))), allA⟩⟩)
      · (repeat' ((try (conv => whnf)); first | (with_reducible first | refine FCond.tA ?_ | refine FCond.fA ?_) | ((with_reducible refine FCond.i (fun hq => ?_) (fun hq => ?_)) <;> (try simp only [zA, zE, zD, zJ, zB, zI, Int.not_le, Int.not_lt] at hq)) | (with_reducible first | refine Fits.in64 (by omega) ?_ | refine FIdx.nat (by omega) ?_ | refine FIdx.int (by omega) ?_ | refine FTo.nat (by omega) ?_ | refine FTo.int (by omega) ?_) | ((with_reducible refine Need.mk ?_ ?_); focus exact needA) | (with_reducible refine FApp.grow ?_) | (with_reducible refine FOr.pub ?_)))
        (try (conv => whnf))
        rcases hL : (judges.getD (i + 1) default).marks.length with _ | L
        · omega
        (repeat' ((try (conv => whnf)); first | (with_reducible first | refine FCond.tA ?_ | refine FCond.fA ?_) | ((with_reducible refine FCond.i (fun hq => ?_) (fun hq => ?_)) <;> (try simp only [zA, zE, zD, zJ, zB, zI, Int.not_le, Int.not_lt] at hq)) | (with_reducible first | refine Fits.in64 (by omega) ?_ | refine FIdx.nat (by omega) ?_ | refine FIdx.int (by omega) ?_ | refine FTo.nat (by omega) ?_ | refine FTo.int (by omega) ?_) | ((with_reducible refine Need.mk ?_ ?_); focus exact needA) | (with_reducible refine FApp.grow ?_) | (with_reducible refine FOr.pub ?_)))
        (try (conv => whnf))
        refine FWk.of [(1, .ptr 0 0), (2, .ptr 1 0), (3, .ptr 2 0), (4, AI (i + 1 : Nat)), (5, .ptr 4 0)] [.box 4 (cPaper f ⟨items, judges, wrong, grades⟩), .box 4 (ofL [nilS, nilS, AI 0, nilS]), .box 4 (ofL [aItems false false items, .own 3 (i + 1), AI wrong, cpInts grades]), rowJ (i + 1) judges, .box 4 (cJu judges (i + 1))] [0, 1, 2, 3, 4] (Cut.of (Nat.le_of_ble_eq_true rfl) rfl rfl (CutL.turned rfl LnB.A (CutL.turned rfl LnB.A (CutL.turned rfl LnB.A (CutL.turned rfl LnB.A (CutL.turned rfl (LnB.boxN ⟨⟨⟨⟨True.intro, Ln.A⟩, Ln.A⟩, Ln.A⟩, by exact Ln.pubE (goneB rfl) rfl (by omega) (by omega) (fun k hk o ho => by simp [appc])⟩) CutL.done)))))) ⟨Ln.ptr _ _ _ rfl, Ln.ptr _ _ _ rfl, Ln.ptr _ _ _ rfl, Ln.A, Ln.ptr _ _ _ rfl, True.intro⟩ ?_
        (repeat' ((try (conv => whnf)); first | (with_reducible first | refine FCond.tA ?_ | refine FCond.fA ?_) | ((with_reducible refine FCond.i (fun hq => ?_) (fun hq => ?_)) <;> (try simp only [zA, zE, zD, zJ, zB, zI, Int.not_le, Int.not_lt] at hq)) | (with_reducible first | refine Fits.in64 (by omega) ?_ | refine FIdx.nat (by omega) ?_ | refine FIdx.int (by omega) ?_ | refine FTo.nat (by omega) ?_ | refine FTo.int (by omega) ?_) | ((with_reducible refine Need.mk ?_ ?_); focus exact needA) | (with_reducible refine FApp.grow ?_) | (with_reducible refine FOr.pub ?_)))
        (try (conv => whnf))
        (exact ⟨⟨(i + 2), hlt, by show _ < _; omega, [0, 1, 2, 5], (by (refine Cut.of (Nat.le_of_ble_eq_true rfl) rfl rfl ?_; repeat (first | exact CutL.done | (refine CutL.turned rfl (by first | exact LnB.rowS | exact LnB.app (fun _ _ _ _ => rfl) (fun o ho => rfl) | exact LnB.A) ?_) | (refine CutL.gone (Nat.lt_of_lt_of_le (Nat.lt_succ_self _) (Nat.le_of_ble_eq_true rfl)) ?_)))), allA⟩⟩)
    · obtain rfl : i = judges.length := by omega
      rcases hn : judges.length with _ | n
      · (repeat' ((try (conv => whnf)); first | (with_reducible first | refine FCond.tA ?_ | refine FCond.fA ?_) | ((with_reducible refine FCond.i (fun hq => ?_) (fun hq => ?_)) <;> (try simp only [zA, zE, zD, zJ, zB, zI, Int.not_le, Int.not_lt] at hq)) | (with_reducible first | refine Fits.in64 (by omega) ?_ | refine FIdx.nat (by omega) ?_ | refine FIdx.int (by omega) ?_ | refine FTo.nat (by omega) ?_ | refine FTo.int (by omega) ?_) | ((with_reducible refine Need.mk ?_ ?_); focus exact needA) | (with_reducible refine FApp.grow ?_) | (with_reducible refine FOr.pub ?_)))
        (try (conv => whnf))
        exact ⟨⟨.agg 4 (ofL [aItems false false items, nilS, AI wrong, cpInts grades]), [], [], Cut.nil _, Ln.A, by subst hgl; subst hil; rfl, rfl⟩⟩
      · (repeat' ((try (conv => whnf)); first | (with_reducible first | refine FCond.tA ?_ | refine FCond.fA ?_) | ((with_reducible refine FCond.i (fun hq => ?_) (fun hq => ?_)) <;> (try simp only [zA, zE, zD, zJ, zB, zI, Int.not_le, Int.not_lt] at hq)) | (with_reducible first | refine Fits.in64 (by omega) ?_ | refine FIdx.nat (by omega) ?_ | refine FIdx.int (by omega) ?_ | refine FTo.nat (by omega) ?_ | refine FTo.int (by omega) ?_) | ((with_reducible refine Need.mk ?_ ?_); focus exact needA) | (with_reducible refine FApp.grow ?_) | (with_reducible refine FOr.pub ?_)))
        (try (conv => whnf))
        exact ⟨⟨.agg 4 (ofL [aItems false false items, .own 0 (n + 1), AI wrong, cpInts grades]), [rowJ (n + 1) judges], [3], Cut.A, Ln.aggN ⟨⟨⟨⟨True.intro, Ln.A⟩, Ln.A⟩, Ln.A⟩, Ln.A⟩, by subst hgl; subst hil; rfl, rfl⟩⟩

end Go.Proofs.Ytbpilgflejdhaaa

namespace Go.Proofs.Ytbpilgflejdhaaa
open Go.RowKit

set_option maxHeartbeats 8000000
set_option maxRecDepth 100000
theorem span_ok (a b : Int) : ACall Try.prog 21 [AI a, AI b] [] (fun r h => r = .agg 2 (ofL [AI a, AI b]) ∧ h = []) := by
  (refine fcall_of mixed Try.func21 rfl (by decide) (hs := {}) ?k (ac := ?ac) ?c (rs := ?rs) ?r ?l ?H; (case k => kernel_rfl); (case c => (conv => (lhs; cbv))); (case r => (conv => (lhs; cbv))); (case l => exact Nat.le_of_ble_eq_true rfl))
  (repeat' ((try (conv => whnf)); first | (with_reducible first | refine FCond.tA ?_ | refine FCond.fA ?_) | ((with_reducible refine FCond.i (fun hq => ?_) (fun hq => ?_)) <;> (try simp only [zA, zE, zD, zJ, zB, zI, Int.not_le, Int.not_lt] at hq)) | (with_reducible first | refine Fits.in64 (by omega) ?_ | refine FIdx.nat (by omega) ?_ | refine FIdx.int (by omega) ?_ | refine FTo.nat (by omega) ?_ | refine FTo.int (by omega) ?_) | ((with_reducible refine Need.mk ?_ ?_); focus exact needA) | (with_reducible refine FApp.grow ?_) | (with_reducible refine FOr.pub ?_)))
  all_goals (try (conv => whnf))
  all_goals ((refine ⟨⟨_, [], [], Cut.nil _, Ln.sameB _ rfl, ?_, rfl⟩⟩); rfl)
theorem copyV (f : PaF) (p : Paper) (hv : Valid p) : ACall Try.prog 16 [aPaper f p] [] (fun v h => v = .agg 4 (ofL [aItems false false p.items, oJ 0 p.judges.length, AI p.wrong, cpInts p.grades]) ∧ h = hJ p.judges.length p.judges) := by
  obtain ⟨items, judges, wrong, grades⟩ := p
  have h1 := hv.il
  have h2 : judges.length ≤ 4 := hv.jl
  have h3 : grades.length ≤ 5 := hv.gl
  have h4 := hv.ju
  rcases items with _ | ⟨i0, is⟩
  · exact absurd h1.1 (Nat.not_succ_le_zero 0)
  · simp only [List.length_cons] at h1 h4
    refine copyJ3 f i0 is judges wrong grades (by omega) (by omega) (by omega) (fun k hk => ?_)
    have := (h4 k hk).2.2.2.2.2
    omega
theorem copy_0 (f : PaF) (p : Paper) (hv : Valid p) (h : p.judges.length = 0) : ACall Try.prog 16 [aPaper f p] [] (fun v h => v = .agg 4 (ofL [aItems false false p.items, nilS, AI p.wrong, cpInts p.grades]) ∧ h = []) := by
  have := copyV f p hv
  rw [h] at this
  exact this
theorem copy_s (f : PaF) (p : Paper) (hv : Valid p) {n : Nat} (h : p.judges.length = n + 1) : ACall Try.prog 16 [aPaper f p] [] (fun v h => v = .agg 4 (ofL [aItems false false p.items, .own 0 (n + 1), AI p.wrong, cpInts p.grades]) ∧ h = [rowJ (n + 1) p.judges]) := by
  have := copyV f p hv
  rw [h] at this
  exact this
end Go.Proofs.Ytbpilgflejdhaaa

namespace Go.Proofs.Ytbpilgflejdhaaa
open Go.RowKit

abbrev aPapers (z e : Bool) (fs : Nat → PaF) (l : List Paper) : AV := .sl z e l.length 4 (fun k => cPaper (fs k) (l.getD k default))
abbrev spL (R : List (Int × Int)) (k : Nat) : Nat → AV := ofL [AI (R.getD k (0, 0)).1, AI (R.getD k (0, 0)).2]
abbrev aSpans (z e : Bool) (R : List (Int × Int)) : AV := .sl z e R.length 2 (spL R)
abbrev rowSp (n : Nat) (R : List (Int × Int)) : AB := .row n 2 (spL R)
theorem Ln.nilE {σ : Nat → Nat → Prop} {Bp : Nat → Prop} {H : List AB} {n' sz : Nat} {c' : Nat → Nat → AV} (h : n' = 0) : Ln σ Bp H nilS (.sl (decide (n' = 0)) (decide (n' = 0)) n' sz c') := by
  subst h
  exact Ln.slz _ _ _ _ _ _ _ (fun h => h)
theorem Ln.ownE0 {σ : Nat → Nat → Prop} {Bp : Nat → Prop} {H : List AB} {d n n' N sz : Nat} {c c' : Nat → Nat → AV} (h0 : 0 < n') (h : Bp d) (hd : H[d]? = some (.row N sz c)) (hn : n ≤ N) (e : n = n') (hc : ∀ k, k < n → ∀ o, o < sz → c' k o = c k o) : Ln σ Bp H (.own d n) (.sl (decide (n' = 0)) (decide (n' = 0)) n' sz c') := by
  rw [decide_eq_false (by omega)]; exact Ln.pubE h hd hn e hc
theorem rkLo_up (R : List (Int × Int)) (i k : Nat) : rkLo R i (k + 1) = if (R.getD i (0, 0)).2 < (R.getD k (0, 0)).1 then rkLo R i k + 1 else rkLo R i k := rfl
theorem rkHi_up (R : List (Int × Int)) (i k : Nat) : rkHi R i (k + 1) = if k ≠ i ∧ (R.getD i (0, 0)).1 < (R.getD k (0, 0)).2 then rkHi R i k + 1 else rkHi R i k := rfl
set_option maxHeartbeats 8000000
set_option maxRecDepth 100000
theorem ranks_ab {z e : Bool} {fs : Nat → PaF} {l : List Paper} (h3 : l.length ≤ 3) (hs : ∀ k, k < l.length → Sized (l.getD k default)) (h0 : ∀ k, k < l.length → (rangeM (l.getD k default)).2 = 0) :
    ACall Try.prog 36 [aPapers z e fs l] [] (fun r h => r = .tup 2 (ofL [aSpans (decide (l.length = 0)) (decide (l.length = 0)) (rkTo (resTo l l.length) l.length), AI 0]) ∧ h = []) := by
  obtain ⟨R, hR⟩ : ∃ R, R = resTo l l.length := ⟨_, rfl⟩
  have hRl : R.length = l.length := by rw [hR]; exact resTo_len l
  have hRg : ∀ k, k < l.length → R.getD k (0, 0) = (rangeM (l.getD k default)).1 := fun k hk => by rw [hR]; exact resTo_get l hk
  have hle : ∀ k, k < l.length → (R.getD k (0, 0)).1 ≤ (R.getD k (0, 0)).2 := fun k hk => by rw [hRg k hk]; exact range_le (h0 k hk)
  have hlo := fun i (k : Nat) => rkLo_bd R i k
  have hhi := fun i (k : Nat) => rkHi_bd R i k
  rw [← hR]
  clear hR
  (refine fcall_of mixed Try.func36 rfl (by decide) (hs := { pub := [12, 26] }) ?k (ac := ?ac) ?c (rs := ?rs) ?r ?l ?H; (case k => kernel_rfl); (case c => (conv => (lhs; cbv))); (case r => (conv => (lhs; cbv))); (case l => exact Nat.le_of_ble_eq_true rfl))
  (repeat' ((try (conv => whnf)); first | (with_reducible first | refine FCond.tA ?_ | refine FCond.fA ?_) | ((with_reducible refine FCond.i (fun hq => ?_) (fun hq => ?_)) <;> (try simp only [zA, zE, zD, zJ, zB, zI, Int.not_le, Int.not_lt] at hq)) | (with_reducible first | refine Fits.in64 (by omega) ?_ | refine FIdx.nat (by omega) ?_ | refine FIdx.int (by omega) ?_ | refine FTo.nat (by omega) ?_ | refine FTo.int (by omega) ?_) | ((with_reducible refine Need.mk ?_ ?_); focus exact needA) | (with_reducible refine FApp.grow ?_) | (with_reducible refine FOr.pub ?_)))
  all_goals (try (conv => whnf))
  refine FLoop.of (ACalls.mono _) (X := Nat) (fun i => [(4, match i with | 0 => nilS | i + 1 => .own 0 (i + 1)), (5, nilS), (18, aPapers z e fs l), (19, AI l.length), (20, AI i)]) (fun i => match i with
    | 0 => []
    | i + 1 => [rowSp (i + 1) R]) (fun i => i ≤ l.length) (fun i => l.length - i) 0 ⟨Nat.zero_le _, [], Cut.A, allA⟩ ?_
  intro i hi
  by_cases hlt : i < l.length
  · have c1 := range_ab (f := fs i) (hs i hlt)
    have e0 := h0 i hlt
    have eg := hRg i hlt
    rcases i with _ | i
    · (repeat' ((try (conv => whnf)); first | (with_reducible first | refine FCond.t rfl ?_ | refine FCond.f rfl ?_) | ((with_reducible refine FCond.uT (fun hq => ?_)); rw [hq]; (with_reducible refine FCond.t rfl ?_); clear hq) | ((with_reducible refine FCond.uF (fun hq => ?_)); rw [hq]; (with_reducible refine FCond.f rfl ?_); clear hq) | ((with_reducible refine FCond.i2 (fun hq => ?_) (fun hq => ?_)) <;> (rw [hq]; (with_reducible first | refine FCond.t rfl ?_ | refine FCond.f rfl ?_); (try simp only [zA, zE, zD, zJ, zB, zI, Int.not_le, Int.not_lt] at hq))) | (with_reducible first | refine Fits.in64 (by omega) ?_ | refine FIdx.nat (by omega) ?_ | refine FIdx.int (by omega) ?_ | refine FTo.nat (by omega) ?_ | refine FTo.int (by omega) ?_) | ((with_reducible refine Need.mk ?_ ?_); focus exact needA) | (with_reducible refine FApp.grow ?_) | (refine FCall.pure (c1) ⟨Ln.sameB _ rfl, True.intro⟩ rfl ?_) | (with_reducible refine FOr.pub ?_)))
      all_goals (try (conv => whnf))
      all_goals first
        | (exfalso; omega)
        | (exact ⟨⟨(0 + 1), hlt, by show _ < _; omega, [2], (by (refine Cut.of (Nat.le_of_ble_eq_true rfl) rfl rfl ?_; repeat (first | exact CutL.done | (refine CutL.turned rfl (by first | exact LnB.rowS | exact LnB.app (fun k hk => absurd hk (Nat.not_lt_zero k)) (fun o ho => by show ofL [AI (R.getD 0 (0, 0)).1, AI (R.getD 0 (0, 0)).2] o = _; rw [eg]; rfl) | exact LnB.A) ?_) | (refine CutL.gone (Nat.lt_of_lt_of_le (Nat.lt_succ_self _) (Nat.le_of_ble_eq_true rfl)) ?_)))), allA⟩⟩)
    · (repeat' ((try (conv => whnf)); first | (with_reducible first | refine FCond.t rfl ?_ | refine FCond.f rfl ?_) | ((with_reducible refine FCond.uT (fun hq => ?_)); rw [hq]; (with_reducible refine FCond.t rfl ?_); clear hq) | ((with_reducible refine FCond.uF (fun hq => ?_)); rw [hq]; (with_reducible refine FCond.f rfl ?_); clear hq) | ((with_reducible refine FCond.i2 (fun hq => ?_) (fun hq => ?_)) <;> (rw [hq]; (with_reducible first | refine FCond.t rfl ?_ | refine FCond.f rfl ?_); (try simp only [zA, zE, zD, zJ, zB, zI, Int.not_le, Int.not_lt] at hq))) | (with_reducible first | refine Fits.in64 (by omega) ?_ | refine FIdx.nat (by omega) ?_ | refine FIdx.int (by omega) ?_ | refine FTo.nat (by omega) ?_ | refine FTo.int (by omega) ?_) | ((with_reducible refine Need.mk ?_ ?_); focus exact needA) | (with_reducible refine FApp.grow ?_) | (refine FCall.pure (c1) ⟨Ln.sameB _ rfl, True.intro⟩ rfl ?_) | (with_reducible refine FOr.pub ?_)))
      all_goals (try (conv => whnf))
      all_goals first
        | (exfalso; omega)
        | (exact ⟨⟨(i + 1 + 1), hlt, by show _ < _; omega, [3], (by (refine Cut.of (Nat.le_of_ble_eq_true rfl) rfl rfl ?_; repeat (first | exact CutL.done | (refine CutL.turned rfl (by first | exact LnB.rowS | exact LnB.app (fun _ _ _ _ => rfl) (fun o ho => by show ofL [AI (R.getD (i + 1) (0, 0)).1, AI (R.getD (i + 1) (0, 0)).2] o = _; rw [eg]; rfl) | exact LnB.A) ?_) | (refine CutL.gone (Nat.lt_of_lt_of_le (Nat.lt_succ_self _) (Nat.le_of_ble_eq_true rfl)) ?_)))), allA⟩⟩)
  · apply cutG
    · intro rest
      rcases i with _ | i
      · (repeat' ((try (conv => whnf)); first | (with_reducible first | refine FCond.t rfl ?_ | refine FCond.f rfl ?_) | ((with_reducible refine FCond.uT (fun hq => ?_)); rw [hq]; (with_reducible refine FCond.t rfl ?_); clear hq) | ((with_reducible refine FCond.uF (fun hq => ?_)); rw [hq]; (with_reducible refine FCond.f rfl ?_); clear hq) | ((with_reducible refine FCond.i2 (fun hq => ?_) (fun hq => ?_)) <;> (rw [hq]; (with_reducible first | refine FCond.t rfl ?_ | refine FCond.f rfl ?_); (try simp only [zA, zE, zD, zJ, zB, zI, Int.not_le, Int.not_lt] at hq))) | (with_reducible first | refine Fits.in64 (by omega) ?_ | refine FIdx.nat (by omega) ?_ | refine FIdx.int (by omega) ?_ | refine FTo.nat (by omega) ?_ | refine FTo.int (by omega) ?_) | ((with_reducible refine Need.mk ?_ ?_); focus exact needA) | (with_reducible refine FApp.grow ?_) | (with_reducible refine FOr.pub ?_)))
        all_goals (try (conv => whnf))
        all_goals first
          | (exfalso; omega)
          | exact FWk.of [(4, aSpans (decide (R.length = 0)) (decide (R.length = 0)) R), (5, nilS)] [] [] (Cut.nil _) ⟨Ln.nilE (by omega), Ln.A, True.intro⟩ rest.h
      · (repeat' ((try (conv => whnf)); first | (with_reducible first | refine FCond.t rfl ?_ | refine FCond.f rfl ?_) | ((with_reducible refine FCond.uT (fun hq => ?_)); rw [hq]; (with_reducible refine FCond.t rfl ?_); clear hq) | ((with_reducible refine FCond.uF (fun hq => ?_)); rw [hq]; (with_reducible refine FCond.f rfl ?_); clear hq) | ((with_reducible refine FCond.i2 (fun hq => ?_) (fun hq => ?_)) <;> (rw [hq]; (with_reducible first | refine FCond.t rfl ?_ | refine FCond.f rfl ?_); (try simp only [zA, zE, zD, zJ, zB, zI, Int.not_le, Int.not_lt] at hq))) | (with_reducible first | refine Fits.in64 (by omega) ?_ | refine FIdx.nat (by omega) ?_ | refine FIdx.int (by omega) ?_ | refine FTo.nat (by omega) ?_ | refine FTo.int (by omega) ?_) | ((with_reducible refine Need.mk ?_ ?_); focus exact needA) | (with_reducible refine FApp.grow ?_) | (with_reducible refine FOr.pub ?_)))
        all_goals (try (conv => whnf))
        all_goals first
          | (exfalso; omega)
          | exact FWk.of [(4, aSpans (decide (R.length = 0)) (decide (R.length = 0)) R), (5, nilS)] [] [] (Cut.nil _) ⟨Ln.ownE0 (by omega) (goneB rfl) rfl (Nat.le_refl _) (by omega) (fun _ _ _ _ => rfl), Ln.A, True.intro⟩ rest.h
    (try (conv => whnf))
    clear hlt hi i
    rw [← hRl] at hle h3 ⊢
    (repeat' ((try (conv => whnf)); first | (with_reducible first | refine FCond.t rfl ?_ | refine FCond.f rfl ?_) | ((with_reducible refine FCond.uT (fun hq => ?_)); rw [hq]; (with_reducible refine FCond.t rfl ?_); clear hq) | ((with_reducible refine FCond.uF (fun hq => ?_)); rw [hq]; (with_reducible refine FCond.f rfl ?_); clear hq) | ((with_reducible refine FCond.i2 (fun hq => ?_) (fun hq => ?_)) <;> (rw [hq]; (with_reducible first | refine FCond.t rfl ?_ | refine FCond.f rfl ?_); (try simp only [zA, zE, zD, zJ, zB, zI, Int.not_le, Int.not_lt] at hq))) | (with_reducible first | refine Fits.in64 (by omega) ?_ | refine FIdx.nat (by omega) ?_ | refine FIdx.int (by omega) ?_ | refine FTo.nat (by omega) ?_ | refine FTo.int (by omega) ?_) | ((with_reducible refine Need.mk ?_ ?_); focus exact needA) | (with_reducible refine FApp.grow ?_) | (with_reducible refine FOr.pub ?_)))
    all_goals (try (conv => whnf))
    refine FLoop.of (ACalls.mono _) (X := Nat) (fun i => [(4, aSpans (decide (R.length = 0)) (decide (R.length = 0)) R), (5, match i with | 0 => nilS | i + 1 => .own 0 (i + 1)), (37, aSpans (decide (R.length = 0)) (decide (R.length = 0)) R), (38, AI R.length), (39, AI i)]) (fun i => match i with
      | 0 => []
      | i + 1 => [rowSp (i + 1) (rkTo R R.length)]) (fun i => i ≤ R.length) (fun i => R.length - i) 0 ⟨Nat.zero_le _, [], Cut.A, allA⟩ ?_
    intro i hi
    by_cases hlt2 : i < R.length
    · rcases i with _ | i
      · (repeat' ((try (conv => whnf)); first | (with_reducible first | refine FCond.t rfl ?_ | refine FCond.f rfl ?_) | ((with_reducible refine FCond.uT (fun hq => ?_)); rw [hq]; (with_reducible refine FCond.t rfl ?_); clear hq) | ((with_reducible refine FCond.uF (fun hq => ?_)); rw [hq]; (with_reducible refine FCond.f rfl ?_); clear hq) | ((with_reducible refine FCond.i2 (fun hq => ?_) (fun hq => ?_)) <;> (rw [hq]; (with_reducible first | refine FCond.t rfl ?_ | refine FCond.f rfl ?_); (try simp only [zA, zE, zD, zJ, zB, zI, Int.not_le, Int.not_lt] at hq))) | (with_reducible first | refine Fits.in64 (by omega) ?_ | refine FIdx.nat (by omega) ?_ | refine FIdx.int (by omega) ?_ | refine FTo.nat (by omega) ?_ | refine FTo.int (by omega) ?_) | ((with_reducible refine Need.mk ?_ ?_); focus exact needA) | (with_reducible refine FApp.grow ?_) | (with_reducible refine FOr.pub ?_)))
        all_goals (try (conv => whnf))
        refine FLoop.of (ACalls.mono _) (X := Nat × Int × Int) (fun x => [(4, aSpans (decide (R.length = 0)) (decide (R.length = 0)) R), (5, nilS), (10, AI 0), (11, .ptr 0 0), (12, .ptr 1 0), (37, aSpans (decide (R.length = 0)) (decide (R.length = 0)) R), (38, AI R.length), (39, AI 0), (45, aSpans (decide (R.length = 0)) (decide (R.length = 0)) R), (46, AI R.length), (47, AI x.1)]) (fun x => [.box 2 (spL R 0), .box 2 (ofL [AI x.2.1, AI x.2.2])]) (fun x => x.1 ≤ R.length ∧ x.2.1 = rkLo R 0 x.1 ∧ x.2.2 = rkHi R 0 x.1) (fun x => R.length - x.1) (0, 1, 1) ⟨⟨Nat.zero_le _, rfl, rfl⟩, [0, 1], Cut.A, allA⟩ ?_
        rintro ⟨k, lo, hi⟩ hx
        dsimp only
        obtain ⟨hk, e1, e2⟩ : k ≤ R.length ∧ lo = rkLo R 0 k ∧ hi = rkHi R 0 k := hx
        have b1 := hlo 0 k
        have b2 := hhi 0 k
        have b3 := hle 0 (by omega)
        by_cases hlt3 : k < R.length
        · have hAk : (R.getD 0 (0, 0)).2 < (R.getD k (0, 0)).1 → k ≠ 0 := by
            rintro h rfl
            omega
          by_cases hA : (R.getD 0 (0, 0)).2 < (R.getD k (0, 0)).1 <;> by_cases hB : k ≠ 0 ∧ (R.getD 0 (0, 0)).1 < (R.getD k (0, 0)).2
          · have eA : lo + 1 = rkLo R 0 (k + 1) := by rw [rkLo_up, if_pos hA, e1]
            have eB : hi + 1 = rkHi R 0 (k + 1) := by rw [rkHi_up, if_pos hB, e2]
            (repeat' ((try (conv => whnf)); first | (with_reducible first | refine FCond.t rfl ?_ | refine FCond.f rfl ?_) | ((with_reducible refine FCond.uT (fun hq => ?_)); rw [hq]; (with_reducible refine FCond.t rfl ?_); clear hq) | ((with_reducible refine FCond.uF (fun hq => ?_)); rw [hq]; (with_reducible refine FCond.f rfl ?_); clear hq) | ((with_reducible refine FCond.i2 (fun hq => ?_) (fun hq => ?_)) <;> (rw [hq]; (with_reducible first | refine FCond.t rfl ?_ | refine FCond.f rfl ?_); (try simp only [zA, zE, zD, zJ, zB, zI, Int.not_le, Int.not_lt] at hq))) | (with_reducible first | refine Fits.in64 (by omega) ?_ | refine FIdx.nat (by omega) ?_ | refine FIdx.int (by omega) ?_ | refine FTo.nat (by omega) ?_ | refine FTo.int (by omega) ?_) | ((with_reducible refine Need.mk ?_ ?_); focus exact needA) | (with_reducible refine FApp.grow ?_) | (with_reducible refine FOr.pub ?_)))
            all_goals (try (conv => whnf))
            all_goals first
              | (exfalso; omega)
              | (exact ⟨⟨(k + 1, lo + 1, hi + 1), ⟨hlt3, eA, eB⟩, by show _ < _; omega, [0, 1], Cut.A, allA⟩⟩)
          · have eA : lo + 1 = rkLo R 0 (k + 1) := by rw [rkLo_up, if_pos hA, e1]
            have eB : hi = rkHi R 0 (k + 1) := by rw [rkHi_up, if_neg hB, e2]
            (repeat' ((try (conv => whnf)); first | (with_reducible first | refine FCond.t rfl ?_ | refine FCond.f rfl ?_) | ((with_reducible refine FCond.uT (fun hq => ?_)); rw [hq]; (with_reducible refine FCond.t rfl ?_); clear hq) | ((with_reducible refine FCond.uF (fun hq => ?_)); rw [hq]; (with_reducible refine FCond.f rfl ?_); clear hq) | ((with_reducible refine FCond.i2 (fun hq => ?_) (fun hq => ?_)) <;> (rw [hq]; (with_reducible first | refine FCond.t rfl ?_ | refine FCond.f rfl ?_); (try simp only [zA, zE, zD, zJ, zB, zI, Int.not_le, Int.not_lt] at hq))) | (with_reducible first | refine Fits.in64 (by omega) ?_ | refine FIdx.nat (by omega) ?_ | refine FIdx.int (by omega) ?_ | refine FTo.nat (by omega) ?_ | refine FTo.int (by omega) ?_) | ((with_reducible refine Need.mk ?_ ?_); focus exact needA) | (with_reducible refine FApp.grow ?_) | (with_reducible refine FOr.pub ?_)))
            all_goals (try (conv => whnf))
            all_goals first
              | (exfalso; omega)
              | (exact ⟨⟨(k + 1, lo + 1, hi), ⟨hlt3, eA, eB⟩, by show _ < _; omega, [0, 1], Cut.A, allA⟩⟩)
          · have eA : lo = rkLo R 0 (k + 1) := by rw [rkLo_up, if_neg hA, e1]
            have eB : hi + 1 = rkHi R 0 (k + 1) := by rw [rkHi_up, if_pos hB, e2]
            (repeat' ((try (conv => whnf)); first | (with_reducible first | refine FCond.t rfl ?_ | refine FCond.f rfl ?_) | ((with_reducible refine FCond.uT (fun hq => ?_)); rw [hq]; (with_reducible refine FCond.t rfl ?_); clear hq) | ((with_reducible refine FCond.uF (fun hq => ?_)); rw [hq]; (with_reducible refine FCond.f rfl ?_); clear hq) | ((with_reducible refine FCond.i2 (fun hq => ?_) (fun hq => ?_)) <;> (rw [hq]; (with_reducible first | refine FCond.t rfl ?_ | refine FCond.f rfl ?_); (try simp only [zA, zE, zD, zJ, zB, zI, Int.not_le, Int.not_lt] at hq))) | (with_reducible first | refine Fits.in64 (by omega) ?_ | refine FIdx.nat (by omega) ?_ | refine FIdx.int (by omega) ?_ | refine FTo.nat (by omega) ?_ | refine FTo.int (by omega) ?_) | ((with_reducible refine Need.mk ?_ ?_); focus exact needA) | (with_reducible refine FApp.grow ?_) | (with_reducible refine FOr.pub ?_)))
            all_goals (try (conv => whnf))
            all_goals first
              | (exfalso; omega)
              | (exact ⟨⟨(k + 1, lo, hi + 1), ⟨hlt3, eA, eB⟩, by show _ < _; omega, [0, 1], Cut.A, allA⟩⟩)
          · have eA : lo = rkLo R 0 (k + 1) := by rw [rkLo_up, if_neg hA, e1]
            have eB : hi = rkHi R 0 (k + 1) := by rw [rkHi_up, if_neg hB, e2]
            (repeat' ((try (conv => whnf)); first | (with_reducible first | refine FCond.t rfl ?_ | refine FCond.f rfl ?_) | ((with_reducible refine FCond.uT (fun hq => ?_)); rw [hq]; (with_reducible refine FCond.t rfl ?_); clear hq) | ((with_reducible refine FCond.uF (fun hq => ?_)); rw [hq]; (with_reducible refine FCond.f rfl ?_); clear hq) | ((with_reducible refine FCond.i2 (fun hq => ?_) (fun hq => ?_)) <;> (rw [hq]; (with_reducible first | refine FCond.t rfl ?_ | refine FCond.f rfl ?_); (try simp only [zA, zE, zD, zJ, zB, zI, Int.not_le, Int.not_lt] at hq))) | (with_reducible first | refine Fits.in64 (by omega) ?_ | refine FIdx.nat (by omega) ?_ | refine FIdx.int (by omega) ?_ | refine FTo.nat (by omega) ?_ | refine FTo.int (by omega) ?_) | ((with_reducible refine Need.mk ?_ ?_); focus exact needA) | (with_reducible refine FApp.grow ?_) | (with_reducible refine FOr.pub ?_)))
            all_goals (try (conv => whnf))
            all_goals first
              | (exfalso; omega)
              | (exact ⟨⟨(k + 1, lo, hi), ⟨hlt3, eA, eB⟩, by show _ < _; omega, [0, 1], Cut.A, allA⟩⟩)
        · obtain rfl : k = R.length := by omega
          subst e1; subst e2
          (repeat' ((try (conv => whnf)); first | (with_reducible first | refine FCond.t rfl ?_ | refine FCond.f rfl ?_) | ((with_reducible refine FCond.uT (fun hq => ?_)); rw [hq]; (with_reducible refine FCond.t rfl ?_); clear hq) | ((with_reducible refine FCond.uF (fun hq => ?_)); rw [hq]; (with_reducible refine FCond.f rfl ?_); clear hq) | ((with_reducible refine FCond.i2 (fun hq => ?_) (fun hq => ?_)) <;> (rw [hq]; (with_reducible first | refine FCond.t rfl ?_ | refine FCond.f rfl ?_); (try simp only [zA, zE, zD, zJ, zB, zI, Int.not_le, Int.not_lt] at hq))) | (with_reducible first | refine Fits.in64 (by omega) ?_ | refine FIdx.nat (by omega) ?_ | refine FIdx.int (by omega) ?_ | refine FTo.nat (by omega) ?_ | refine FTo.int (by omega) ?_) | ((with_reducible refine Need.mk ?_ ?_); focus exact needA) | (with_reducible refine FApp.grow ?_) | (with_reducible refine FOr.pub ?_)))
          all_goals (try (conv => whnf))
          all_goals first
            | (exfalso; omega)
            | (exact ⟨⟨(0 + 1), hlt2, by show _ < _; omega, [2], (by (refine Cut.of (Nat.le_of_ble_eq_true rfl) rfl rfl ?_; repeat (first | exact CutL.done | (refine CutL.turned rfl (by first | exact LnB.rowS | exact LnB.app (fun k hk => absurd hk (Nat.not_lt_zero k)) (fun o ho => by show ofL [AI ((rkTo R R.length).getD 0 (0, 0)).1, AI ((rkTo R R.length).getD 0 (0, 0)).2] o = _; rw [rkTo_get R hlt2]; rfl) | exact LnB.A) ?_) | (refine CutL.gone (Nat.lt_of_lt_of_le (Nat.lt_succ_self _) (Nat.le_of_ble_eq_true rfl)) ?_)))), allA⟩⟩)

      · (repeat' ((try (conv => whnf)); first | (with_reducible first | refine FCond.t rfl ?_ | refine FCond.f rfl ?_) | ((with_reducible refine FCond.uT (fun hq => ?_)); rw [hq]; (with_reducible refine FCond.t rfl ?_); clear hq) | ((with_reducible refine FCond.uF (fun hq => ?_)); rw [hq]; (with_reducible refine FCond.f rfl ?_); clear hq) | ((with_reducible refine FCond.i2 (fun hq => ?_) (fun hq => ?_)) <;> (rw [hq]; (with_reducible first | refine FCond.t rfl ?_ | refine FCond.f rfl ?_); (try simp only [zA, zE, zD, zJ, zB, zI, Int.not_le, Int.not_lt] at hq))) | (with_reducible first | refine Fits.in64 (by omega) ?_ | refine FIdx.nat (by omega) ?_ | refine FIdx.int (by omega) ?_ | refine FTo.nat (by omega) ?_ | refine FTo.int (by omega) ?_) | ((with_reducible refine Need.mk ?_ ?_); focus exact needA) | (with_reducible refine FApp.grow ?_) | (with_reducible refine FOr.pub ?_)))
        all_goals (try (conv => whnf))
        refine FLoop.of (ACalls.mono _) (X := Nat × Int × Int) (fun x => [(4, aSpans (decide (R.length = 0)) (decide (R.length = 0)) R), (5, .own 0 (i + 1)), (10, AI (i + 1)), (11, .ptr 1 0), (12, .ptr 2 0), (37, aSpans (decide (R.length = 0)) (decide (R.length = 0)) R), (38, AI R.length), (39, AI (i + 1)), (45, aSpans (decide (R.length = 0)) (decide (R.length = 0)) R), (46, AI R.length), (47, AI x.1)]) (fun x => [rowSp (i + 1) (rkTo R R.length), .box 2 (spL R (i + 1)), .box 2 (ofL [AI x.2.1, AI x.2.2])]) (fun x => x.1 ≤ R.length ∧ x.2.1 = rkLo R (i + 1) x.1 ∧ x.2.2 = rkHi R (i + 1) x.1) (fun x => R.length - x.1) (0, 1, 1) ⟨⟨Nat.zero_le _, rfl, rfl⟩, [0, 1, 2], Cut.A, allA⟩ ?_
        rintro ⟨k, lo, hi⟩ hx
        dsimp only
        obtain ⟨hk, e1, e2⟩ : k ≤ R.length ∧ lo = rkLo R (i + 1) k ∧ hi = rkHi R (i + 1) k := hx
        have b1 := hlo (i + 1) k
        have b2 := hhi (i + 1) k
        have b3 := hle (i + 1) (by omega)
        by_cases hlt3 : k < R.length
        · have hAk : (R.getD (i + 1) (0, 0)).2 < (R.getD k (0, 0)).1 → k ≠ (i + 1) := by
            rintro h rfl
            omega
          by_cases hA : (R.getD (i + 1) (0, 0)).2 < (R.getD k (0, 0)).1 <;> by_cases hB : k ≠ (i + 1) ∧ (R.getD (i + 1) (0, 0)).1 < (R.getD k (0, 0)).2
          · have eA : lo + 1 = rkLo R (i + 1) (k + 1) := by rw [rkLo_up, if_pos hA, e1]
            have eB : hi + 1 = rkHi R (i + 1) (k + 1) := by rw [rkHi_up, if_pos hB, e2]
            (repeat' ((try (conv => whnf)); first | (with_reducible first | refine FCond.t rfl ?_ | refine FCond.f rfl ?_) | ((with_reducible refine FCond.uT (fun hq => ?_)); rw [hq]; (with_reducible refine FCond.t rfl ?_); clear hq) | ((with_reducible refine FCond.uF (fun hq => ?_)); rw [hq]; (with_reducible refine FCond.f rfl ?_); clear hq) | ((with_reducible refine FCond.i2 (fun hq => ?_) (fun hq => ?_)) <;> (rw [hq]; (with_reducible first | refine FCond.t rfl ?_ | refine FCond.f rfl ?_); (try simp only [zA, zE, zD, zJ, zB, zI, Int.not_le, Int.not_lt] at hq))) | (with_reducible first | refine Fits.in64 (by omega) ?_ | refine FIdx.nat (by omega) ?_ | refine FIdx.int (by omega) ?_ | refine FTo.nat (by omega) ?_ | refine FTo.int (by omega) ?_) | ((with_reducible refine Need.mk ?_ ?_); focus exact needA) | (with_reducible refine FApp.grow ?_) | (with_reducible refine FOr.pub ?_)))
            all_goals (try (conv => whnf))
            all_goals first
              | (exfalso; omega)
              | (exact ⟨⟨(k + 1, lo + 1, hi + 1), ⟨hlt3, eA, eB⟩, by show _ < _; omega, [0, 1, 2], Cut.A, allA⟩⟩)
          · have eA : lo + 1 = rkLo R (i + 1) (k + 1) := by rw [rkLo_up, if_pos hA, e1]
            have eB : hi = rkHi R (i + 1) (k + 1) := by rw [rkHi_up, if_neg hB, e2]
            (repeat' ((try (conv => whnf)); first | (with_reducible first | refine FCond.t rfl ?_ | refine FCond.f rfl ?_) | ((with_reducible refine FCond.uT (fun hq => ?_)); rw [hq]; (with_reducible refine FCond.t rfl ?_); clear hq) | ((with_reducible refine FCond.uF (fun hq => ?_)); rw [hq]; (with_reducible refine FCond.f rfl ?_); clear hq) | ((with_reducible refine FCond.i2 (fun hq => ?_) (fun hq => ?_)) <;> (rw [hq]; (with_reducible first | refine FCond.t rfl ?_ | refine FCond.f rfl ?_); (try simp only [zA, zE, zD, zJ, zB, zI, Int.not_le, Int.not_lt] at hq))) | (with_reducible first | refine Fits.in64 (by omega) ?_ | refine FIdx.nat (by omega) ?_ | refine FIdx.int (by omega) ?_ | refine FTo.nat (by omega) ?_ | refine FTo.int (by omega) ?_) | ((with_reducible refine Need.mk ?_ ?_); focus exact needA) | (with_reducible refine FApp.grow ?_) | (with_reducible refine FOr.pub ?_)))
            all_goals (try (conv => whnf))
            all_goals first
              | (exfalso; omega)
              | (exact ⟨⟨(k + 1, lo + 1, hi), ⟨hlt3, eA, eB⟩, by show _ < _; omega, [0, 1, 2], Cut.A, allA⟩⟩)
          · have eA : lo = rkLo R (i + 1) (k + 1) := by rw [rkLo_up, if_neg hA, e1]
            have eB : hi + 1 = rkHi R (i + 1) (k + 1) := by rw [rkHi_up, if_pos hB, e2]
            (repeat' ((try (conv => whnf)); first | (with_reducible first | refine FCond.t rfl ?_ | refine FCond.f rfl ?_) | ((with_reducible refine FCond.uT (fun hq => ?_)); rw [hq]; (with_reducible refine FCond.t rfl ?_); clear hq) | ((with_reducible refine FCond.uF (fun hq => ?_)); rw [hq]; (with_reducible refine FCond.f rfl ?_); clear hq) | ((with_reducible refine FCond.i2 (fun hq => ?_) (fun hq => ?_)) <;> (rw [hq]; (with_reducible first | refine FCond.t rfl ?_ | refine FCond.f rfl ?_); (try simp only [zA, zE, zD, zJ, zB, zI, Int.not_le, Int.not_lt] at hq))) | (with_reducible first | refine Fits.in64 (by omega) ?_ | refine FIdx.nat (by omega) ?_ | refine FIdx.int (by omega) ?_ | refine FTo.nat (by omega) ?_ | refine FTo.int (by omega) ?_) | ((with_reducible refine Need.mk ?_ ?_); focus exact needA) | (with_reducible refine FApp.grow ?_) | (with_reducible refine FOr.pub ?_)))
            all_goals (try (conv => whnf))
            all_goals first
              | (exfalso; omega)
              | (exact ⟨⟨(k + 1, lo, hi + 1), ⟨hlt3, eA, eB⟩, by show _ < _; omega, [0, 1, 2], Cut.A, allA⟩⟩)
          · have eA : lo = rkLo R (i + 1) (k + 1) := by rw [rkLo_up, if_neg hA, e1]
            have eB : hi = rkHi R (i + 1) (k + 1) := by rw [rkHi_up, if_neg hB, e2]
            (repeat' ((try (conv => whnf)); first | (with_reducible first | refine FCond.t rfl ?_ | refine FCond.f rfl ?_) | ((with_reducible refine FCond.uT (fun hq => ?_)); rw [hq]; (with_reducible refine FCond.t rfl ?_); clear hq) | ((with_reducible refine FCond.uF (fun hq => ?_)); rw [hq]; (with_reducible refine FCond.f rfl ?_); clear hq) | ((with_reducible refine FCond.i2 (fun hq => ?_) (fun hq => ?_)) <;> (rw [hq]; (with_reducible first | refine FCond.t rfl ?_ | refine FCond.f rfl ?_); (try simp only [zA, zE, zD, zJ, zB, zI, Int.not_le, Int.not_lt] at hq))) | (with_reducible first | refine Fits.in64 (by omega) ?_ | refine FIdx.nat (by omega) ?_ | refine FIdx.int (by omega) ?_ | refine FTo.nat (by omega) ?_ | refine FTo.int (by omega) ?_) | ((with_reducible refine Need.mk ?_ ?_); focus exact needA) | (with_reducible refine FApp.grow ?_) | (with_reducible refine FOr.pub ?_)))
            all_goals (try (conv => whnf))
            all_goals first
              | (exfalso; omega)
              | (exact ⟨⟨(k + 1, lo, hi), ⟨hlt3, eA, eB⟩, by show _ < _; omega, [0, 1, 2], Cut.A, allA⟩⟩)
        · obtain rfl : k = R.length := by omega
          subst e1; subst e2
          (repeat' ((try (conv => whnf)); first | (with_reducible first | refine FCond.t rfl ?_ | refine FCond.f rfl ?_) | ((with_reducible refine FCond.uT (fun hq => ?_)); rw [hq]; (with_reducible refine FCond.t rfl ?_); clear hq) | ((with_reducible refine FCond.uF (fun hq => ?_)); rw [hq]; (with_reducible refine FCond.f rfl ?_); clear hq) | ((with_reducible refine FCond.i2 (fun hq => ?_) (fun hq => ?_)) <;> (rw [hq]; (with_reducible first | refine FCond.t rfl ?_ | refine FCond.f rfl ?_); (try simp only [zA, zE, zD, zJ, zB, zI, Int.not_le, Int.not_lt] at hq))) | (with_reducible first | refine Fits.in64 (by omega) ?_ | refine FIdx.nat (by omega) ?_ | refine FIdx.int (by omega) ?_ | refine FTo.nat (by omega) ?_ | refine FTo.int (by omega) ?_) | ((with_reducible refine Need.mk ?_ ?_); focus exact needA) | (with_reducible refine FApp.grow ?_) | (with_reducible refine FOr.pub ?_)))
          all_goals (try (conv => whnf))
          all_goals first
            | (exfalso; omega)
            | (exact ⟨⟨((i + 1) + 1), hlt2, by show _ < _; omega, [3], (by (refine Cut.of (Nat.le_of_ble_eq_true rfl) rfl rfl ?_; repeat (first | exact CutL.done | (refine CutL.turned rfl (by first | exact LnB.rowS | exact LnB.app (fun _ _ _ _ => rfl) (fun o ho => by show ofL [AI ((rkTo R R.length).getD (i + 1) (0, 0)).1, AI ((rkTo R R.length).getD (i + 1) (0, 0)).2] o = _; rw [rkTo_get R hlt2]; rfl) | exact LnB.A) ?_) | (refine CutL.gone (Nat.lt_of_lt_of_le (Nat.lt_succ_self _) (Nat.le_of_ble_eq_true rfl)) ?_)))), allA⟩⟩)

    · rcases i with _ | i
      · (repeat' ((try (conv => whnf)); first | (with_reducible first | refine FCond.t rfl ?_ | refine FCond.f rfl ?_) | ((with_reducible refine FCond.uT (fun hq => ?_)); rw [hq]; (with_reducible refine FCond.t rfl ?_); clear hq) | ((with_reducible refine FCond.uF (fun hq => ?_)); rw [hq]; (with_reducible refine FCond.f rfl ?_); clear hq) | ((with_reducible refine FCond.i2 (fun hq => ?_) (fun hq => ?_)) <;> (rw [hq]; (with_reducible first | refine FCond.t rfl ?_ | refine FCond.f rfl ?_); (try simp only [zA, zE, zD, zJ, zB, zI, Int.not_le, Int.not_lt] at hq))) | (with_reducible first | refine Fits.in64 (by omega) ?_ | refine FIdx.nat (by omega) ?_ | refine FIdx.int (by omega) ?_ | refine FTo.nat (by omega) ?_ | refine FTo.int (by omega) ?_) | ((with_reducible refine Need.mk ?_ ?_); focus exact needA) | (with_reducible refine FApp.grow ?_) | (with_reducible refine FOr.pub ?_)))
        all_goals (try (conv => whnf))
        all_goals first
          | (exfalso; omega)
          | (refine FWk.of [(5, aSpans (decide ((rkTo R R.length).length = 0)) (decide ((rkTo R R.length).length = 0)) (rkTo R R.length))] [] [] (Cut.nil _) ⟨Ln.nilE (by rw [rkTo_len]; omega), True.intro⟩ ?_; (repeat' ((try (conv => whnf)); first | (with_reducible first | refine FCond.tA ?_ | refine FCond.fA ?_) | ((with_reducible refine FCond.i (fun hq => ?_) (fun hq => ?_)) <;> (try simp only [zA, zE, zD, zJ, zB, zI, Int.not_le, Int.not_lt] at hq)) | (with_reducible first | refine Fits.in64 (by omega) ?_ | refine FIdx.nat (by omega) ?_ | refine FIdx.int (by omega) ?_ | refine FTo.nat (by omega) ?_ | refine FTo.int (by omega) ?_) | ((with_reducible refine Need.mk ?_ ?_); focus exact needA) | (with_reducible refine FApp.grow ?_) | (with_reducible refine FOr.pub ?_))); all_goals (try (conv => whnf)); all_goals ((refine ⟨⟨_, [], [], Cut.nil _, Ln.sameB _ rfl, ?_, rfl⟩⟩); show AV.tup 2 (ofL [.sl (decide ((rkTo R R.length).length = 0)) (decide ((rkTo R R.length).length = 0)) (rkTo R R.length).length 2 (spL (rkTo R R.length)), AI 0]) = AV.tup 2 (ofL [.sl (decide (R.length = 0)) (decide (R.length = 0)) (rkTo R R.length).length 2 (spL (rkTo R R.length)), AI 0]); rw [rkTo_len R R.length]))
      · (repeat' ((try (conv => whnf)); first | (with_reducible first | refine FCond.t rfl ?_ | refine FCond.f rfl ?_) | ((with_reducible refine FCond.uT (fun hq => ?_)); rw [hq]; (with_reducible refine FCond.t rfl ?_); clear hq) | ((with_reducible refine FCond.uF (fun hq => ?_)); rw [hq]; (with_reducible refine FCond.f rfl ?_); clear hq) | ((with_reducible refine FCond.i2 (fun hq => ?_) (fun hq => ?_)) <;> (rw [hq]; (with_reducible first | refine FCond.t rfl ?_ | refine FCond.f rfl ?_); (try simp only [zA, zE, zD, zJ, zB, zI, Int.not_le, Int.not_lt] at hq))) | (with_reducible first | refine Fits.in64 (by omega) ?_ | refine FIdx.nat (by omega) ?_ | refine FIdx.int (by omega) ?_ | refine FTo.nat (by omega) ?_ | refine FTo.int (by omega) ?_) | ((with_reducible refine Need.mk ?_ ?_); focus exact needA) | (with_reducible refine FApp.grow ?_) | (with_reducible refine FOr.pub ?_)))
        all_goals (try (conv => whnf))
        all_goals first
          | (exfalso; omega)
          | (refine FWk.of [(5, aSpans (decide ((rkTo R R.length).length = 0)) (decide ((rkTo R R.length).length = 0)) (rkTo R R.length))] [] [] (Cut.nil _) ⟨Ln.ownE0 (by rw [rkTo_len]; omega) (goneB rfl) rfl (Nat.le_refl _) (by rw [rkTo_len]; omega) (fun _ _ _ _ => rfl), True.intro⟩ ?_; (repeat' ((try (conv => whnf)); first | (with_reducible first | refine FCond.tA ?_ | refine FCond.fA ?_) | ((with_reducible refine FCond.i (fun hq => ?_) (fun hq => ?_)) <;> (try simp only [zA, zE, zD, zJ, zB, zI, Int.not_le, Int.not_lt] at hq)) | (with_reducible first | refine Fits.in64 (by omega) ?_ | refine FIdx.nat (by omega) ?_ | refine FIdx.int (by omega) ?_ | refine FTo.nat (by omega) ?_ | refine FTo.int (by omega) ?_) | ((with_reducible refine Need.mk ?_ ?_); focus exact needA) | (with_reducible refine FApp.grow ?_) | (with_reducible refine FOr.pub ?_))); all_goals (try (conv => whnf)); all_goals ((refine ⟨⟨_, [], [], Cut.nil _, Ln.sameB _ rfl, ?_, rfl⟩⟩); show AV.tup 2 (ofL [.sl (decide ((rkTo R R.length).length = 0)) (decide ((rkTo R R.length).length = 0)) (rkTo R R.length).length 2 (spL (rkTo R R.length)), AI 0]) = AV.tup 2 (ofL [.sl (decide (R.length = 0)) (decide (R.length = 0)) (rkTo R R.length).length 2 (spL (rkTo R R.length)), AI 0]); rw [rkTo_len R R.length]))
end Go.Proofs.Ytbpilgflejdhaaa
