/- Exams: end, whole; rows of spans of a call's own. / Exams: the walk over visit. / Exams: the walk over open. / Exams: known, Range, Fewest, Grade. / Exams: Far, ready, span, Example. -/
import Derived.Test.YtkejebdfbkgaiaaBa29
import Derived.Test.YtkejebdfbkgaiaaBa22
import Derived.Deep.DeepCutAuto
import Derived.Test.YtkejebdfbkgaiaaBa28

namespace Go.Proofs.Ytkejebdfbkgaiaa
open Go.RowKit

theorem spanCells_set (l : List (Int × Int)) (k : Nat) (x y : Int) : ((spanCells l).set (k * 2) (.int .i64 x)).set (k * 2 + 1) (.int .i64 y) = spanCells (l.set k (x, y)) := by
  induction l generalizing k with
  | nil => simp [spanCells]
  | cons s l ih =>
    cases k with
    | zero => simp [spanCells]
    | succ k =>
      have := ih k
      simp only [spanCells, List.flatMap_cons, List.set_cons_succ] at this ⊢
      rw [show (k + 1) * 2 = k * 2 + 1 + 1 by omega, show k * 2 + 1 + 1 + 1 = k * 2 + 1 + 1 + 1 by omega]
      simp only [List.cons_append, List.nil_append, List.set_cons_succ]
      rw [this]
/-- A row of spans of the call's own, as a slice. -/
theorem own_form {w : World} {base n size : Nat} {e : TypeId} {v : Value} {xs : List Value} (h : w.ownsRow base e size v n xs) :
    ∃ A c, v = .slice A n c ∧ (A = none → n = 0) ∧ (∀ b off, A = some ⟨b, off, none⟩ → base ≤ b ∧ off = 0) ∧ (0 < n → ∃ g, A = some ⟨g, 0, none⟩) := by
  rcases h.2 with ⟨hv, hn⟩ | ⟨g, cap, cur, hv, hb, _⟩
  · exact ⟨none, 0, by rw [hv, hn], fun _ => hn, (fun b off h => by cases h), (fun h => by omega)⟩
  · exact ⟨some ⟨g, 0, none⟩, cap, hv, (fun h => by cases h), (fun b off h => by injection h with h; injection h with h1 h2; exact ⟨by omega, h2.symm⟩), fun _ => ⟨g, rfl⟩⟩
theorem ownSpans_set {w : World} {base n c g k : Nat} {e : TypeId} {l : List (Int × Int)} (h : w.ownsRow base e 2 (.slice (some ⟨g, 0, none⟩) n c) n (spanCells l)) (x y : Int) :
    ((w.setCell ⟨g, k * 2, none⟩ (.int .i64 x)).setCell ⟨g, k * 2 + 1, none⟩ (.int .i64 y)).ownsRow base e 2 (.slice (some ⟨g, 0, none⟩) n c) n (spanCells (l.set k (x, y))) := by
  rw [← spanCells_set]
  exact ((h.stored _ _).1.stored _ _).1
theorem ownSpans_get {w : World} {base n c g k : Nat} {e : TypeId} {l : List (Int × Int)} (h : w.ownsRow base e 2 (.slice (some ⟨g, 0, none⟩) n c) n (spanCells l)) (hk : k < n) :
    ∃ x y, w.cell? ⟨g, k * 2, none⟩ = some (.int .i64 x) ∧ w.cell? ⟨g, k * 2 + 1, none⟩ = some (.int .i64 y) ∧ Hid (l.getD k (0, 0) = (x, y)) := by
  have hl : l.length = n := by have := h.1; rw [spanCells_length] at this; omega
  have hg := spanCells_get l k
  have hkl : k < l.length := by omega
  rw [List.getElem?_eq_getElem hkl] at hg
  refine ⟨(l[k]).1, (l[k]).2, ?_, ?_, ?_⟩
  · rw [h.cellAt (k * 2) (by omega), hg.1]; rfl
  · rw [h.cellAt (k * 2 + 1) (by omega), hg.2]; rfl
  · show l.getD k (0, 0) = _
    simp [List.getD, show k < l.length by omega]
theorem own_alloc {w : World} {base n size : Nat} {e : TypeId} {v : Value} {xs : List Value} (h : w.ownsRow base e size v n xs) (o : Obj) : (w.alloc o).ownsRow base e size v n xs := h.alloc o
theorem own_block {w : World} {base n size g c : Nat} {e : TypeId} {xs : List Value} (h : w.ownsRow base e size (.slice (some ⟨g, 0, none⟩) n c) n xs) : base ≤ g ∧ g < w.heap.size := h.lt g rfl
theorem own_ext {w w' : World} {base n size : Nat} {e : TypeId} {v : Value} {xs : List Value} (h : w.ownsRow base e size v n xs) (k : Ext w w') : w'.ownsRow base e size v n xs := by
  refine h.kept (k.grown none) ?_
  cases hv : v.ownBlock
  · exact .inl rfl
  · exact .inr (by simp)

theorem end_any (L : Loc) (p : Paper) (S : Surv) (a b c d r : Int) (A : Option Addr) (cc : Nat) (bs : List (Int × Int)) (w0 W : World) (h : SurvAt W L p S) (hb : Bias L W A bs) (hjl : bs.length = p.judges.length) (hbl : bs.length ≤ 4)
    (hil : p.items.length ≤ 4) (ht : ∀ k, k < p.items.length → 0 ≤ [a, b, c, d].getD k 0 ∧ [a, b, c, d].getD k 0 ≤ 30) (hP : PaperAt w0 L.iA L.jA L.gA p) (hE0 : Ext w0 W) (hB0 : w0.heap.size ≤ L.B) (hM0 : w0.heap.size ≤ L.M) (hR0 : w0.heap.size ≤ L.R) (hgl : p.grades.length ≤ 5) :
    Calls Try.prog 67 #[.pointer (some ⟨L.B, 0, none⟩), .agg #[.int .i64 a, .int .i64 b, .int .i64 c, .int .i64 d], .int .i64 r, .slice A bs.length cc] W fun e W' => e = .returned (.tuple #[]) ∧
      SurvAt W' L p (endM p [a, b, c, d] r bs S) ∧ Only L W W' := by
  by_cases hw : p.wrong < wrongN bs bs.length
  · have := end_no L p S a b c d r A cc bs W h hb hbl hw
    unfold endM
    simp only [if_pos hw]
    exact this
  · by_cases hm : S.fewest ≤ (wrongN bs bs.length : Int)
    · exact end_yes1 L p S a b c d r A cc bs w0 W h hb hjl hbl (by omega) hil ht hP hE0 hB0 hM0 hR0 hgl hm
    · exact end_yes2 L p S a b c d r A cc bs w0 W h hb hjl hbl (by omega) hil ht hP hE0 hB0 hM0 hR0 hgl (by omega)
end Go.Proofs.Ytkejebdfbkgaiaa

namespace Go.Proofs.Ytkejebdfbkgaiaa
open Go.RowKit

theorem Only.pre {L : Loc} {W : World} {o : Obj} {w' : World} (h : Only L (W.alloc o) w') : Only L W w' := (Only.of_ext (Ext.of_alloc W o)).trans h
theorem Only.cellNew {L : Loc} {W w' : World} (h : Only L W w') {p : Addr} (hp : W.heap.size ≤ p.block) (u : Value) : Only L W (w'.setCell p u) :=
  ⟨h.os, h.tape, h.output, by simpa using h.size, fun k hk h1 h2 h3 => (Below.heap_setCell _ _ _ _ (by omega)).trans (h.block k hk h1 h2 h3)⟩
theorem SurvAt.farCell {W : World} {L : Loc} {p : Paper} {S : Surv} (h : SurvAt W L p S) {q : Addr} (h1 : L.B ≠ q.block) (h2 : L.M ≠ q.block) (h3 : L.R ≠ q.block) (u : Value) : SurvAt (W.setCell q u) L p S := by
  obtain ⟨cs, hb, hc⟩ := h.cs
  exact ⟨⟨cs, hb.far h1 u, hc⟩, h.map.of_block (Below.heap_setCell _ _ _ _ h2), h.right.far h3 u, h.rlen⟩
theorem Blk.only {L : Loc} {w w' : World} {g : Nat} {t : TypeId} {cs : Array Value} (h : Blk w g t cs) (o : Only L w w') (h1 : g ≠ L.B) (h2 : g ≠ L.M) (h3 : g ≠ L.R) : Blk w' g t cs := (o.block g h.lt h1 h2 h3).trans h

theorem list_set_getD {α : Type} (l : List α) (k : Nat) (d : α) : l.set k (l.getD k d) = l := by
  apply List.ext_getElem?
  intro j
  by_cases e : k = j
  · subst e
    by_cases h : k < l.length
    · simp [List.getD, h]
    · rw [List.getElem?_eq_none (by simp; omega), List.getElem?_eq_none (by omega)]
  · simp [List.getElem?_set_ne e]

set_option maxHeartbeats 4000000 in
set_option maxRecDepth 100000 in
theorem visit_any (L : Loc) (p : Paper) (w0 : World) (hP : PaperAt w0 L.iA L.jA L.gA p) (hV : Valid p) (hB0 : w0.heap.size ≤ L.B) (hM0 : w0.heap.size ≤ L.M) (hR0 : w0.heap.size ≤ L.R) :
    ∀ (m i : Nat) (a b c d r : Int) (A : Option Addr) (cc : Nat) (bs : List (Int × Int)) (S : Surv) (W : World), i + m = p.items.length → SurvAt W L p S → Bias L W A bs → bs.length = p.judges.length → (A = none → bs = []) →
      (∀ k, k < i → 0 ≤ [a, b, c, d].getD k 0 ∧ [a, b, c, d].getD k 0 ≤ 30) → 0 ≤ r → r ≤ 300 * i → Ext w0 W →
      Calls Try.prog 45 #[.pointer (some ⟨L.B, 0, none⟩), .agg #[.int .i64 a, .int .i64 b, .int .i64 c, .int .i64 d], .int .i64 i, .int .i64 r, .slice A bs.length cc] W fun e W' => e = .returned (.tuple #[]) ∧
        SurvAt W' L p (visitM p m [a, b, c, d] r bs S) ∧ Only L W W' := by
  intro m
  induction m with
  | zero =>
    intro i a b c d r A cc bs S W hi h hb hbl hnil ht hr0 hr1 hE0
    have HE := Lib.hid (fun W1 => fun (h1 : SurvAt W1 L p S) (hb1 : Bias L W1 A bs) (hE1 : Ext w0 W1) => end_any L p S a b c d r A cc bs w0 W1 h1 hb1 hbl (by have := hV.jl; omega) hV.il.2 (fun k hk => ht k (by omega)) hP hE1 hB0 hM0 hR0 hV.gl)
    have hi0 : ((i : Int) == (p.items.length : Int)) = true := by simp; omega
    obtain ⟨c0, _⟩ := h.cell
    have H := Lib.hid h
    have HB := Lib.hid hb
    have HE0 := Lib.hid hE0
    have hltB := h.ltB
    have HX := Lib.hid (Ext.of_alloc W (.cells #[.int .i64 a, .int .i64 b, .int .i64 c, .int .i64 d] 110))
    have HVM := Lib.hid (show visitM p 0 [a, b, c, d] r bs S = endM p [a, b, c, d] r bs S from rfl)
    generalize visitM p 0 [a, b, c, d] r bs S = vm at *
    clear h hb hE0 hbl hnil ht hP hV hB0 hM0 hR0 hi
    obtain ⟨B, M, R, rc, iA, jA, gA, ic, jc, gc⟩ := L
    simp only at *
    go_enter Try.func45, Try.ntmps45
    go_wp2_with fail
    refine (HE.out _ (H.out.ext HX.out) (HB.out.only (Only.of_ext HX.out)) (HE0.out.trans HX.out)).mono ?_
    rintro e w1 ⟨rfl, hS1, hO1⟩
    have HS1 := Lib.hid hS1
    have HO1 := Lib.hid hO1
    clear hS1 hO1
    go_wp2
    refine bodyPost_ret (results_none rfl _ _ _) rfl ⟨rfl, ?_, HO1.out.pre⟩
    rw [HVM.out]
    exact HS1.out
  | succ m ih =>
    intro i a b c d r A cc bs S W hi h hb hbl hnil ht hr0 hr1 hE0
    have hilen : i < p.items.length := by omega
    have hi4 : i < 4 := by have := hV.il.2; omega
    have hjl4 := hV.jl
    have hi0 : ((i : Int) == (p.items.length : Int)) = false := by simp; omega
    obtain ⟨hw0, hw1, hm0, hm1⟩ := hV.it i hilen
    obtain ⟨y, hy⟩ : ∃ y, (p.items.getD i default).weight = y := ⟨_, rfl⟩
    obtain ⟨z, hz⟩ : ∃ z, (p.items.getD i default).most = z := ⟨_, rfl⟩
    rw [hy] at hw0 hw1
    rw [hz] at hm0 hm1
    have HVM := Lib.hid (show visitM p (m + 1) [a, b, c, d] r bs S = foldTo (fun n S => visitM p m ([a, b, c, d].set i n) (r + n * y) (cutTo p i n p.judges.length bs) S) (z + 1).toNat S by
      rw [visitM]
      simp only [show p.items.length - (m + 1) = i by omega, hy, hz])
    generalize visitM p (m + 1) [a, b, c, d] r bs S = vm at *
    have HIH := Lib.hid ih
    have HE0 := Lib.hid hE0
    have H := Lib.hid h
    have HB := Lib.hid hb
    have HT := Lib.hid ht
    have HV := Lib.hid hV
    have HNil := Lib.hid hnil
    have HBL := Lib.hid hbl
    have HY := Lib.hid hy
    have HZ := Lib.hid hz
    have hltB := h.ltB
    have hltM := h.ltM
    have hltR := h.ltR
    have HIL := Lib.hid hi
    have HC := Lib.hid (fun W S (h : SurvAt W L p S) => h.cell)
    have HBX := Lib.hid (Blk.new W 110 #[.int .i64 a, .int .i64 b, .int .i64 c, .int .i64 d])
    have HX := Lib.hid (Ext.of_alloc W (.cells #[.int .i64 a, .int .i64 b, .int .i64 c, .int .i64 d] 110))
    -- the items and judges in any world behind
    have HItem := Lib.hid (show ∀ W1, Ext w0 W1 → ∃ b off, L.iA = some ⟨b, off, none⟩ ∧ b < W1.heap.size ∧ W1.cell? ⟨b, off + i * 2, none⟩ = some (.int .i64 y) ∧ W1.cell? ⟨b, off + i * 2 + 1, none⟩ = some (.int .i64 z) from fun W1 e1 => by
      obtain ⟨b, off, q1, q2, q3, q4⟩ := (hP.items.ext e1) i hilen
      rw [hy] at q3; rw [hz] at q4
      exact ⟨b, off, q1, q2, q3, q4⟩)
    have HJud := Lib.hid (show ∀ W1, Ext w0 W1 → JudgesAt W1 L.jA p.judges from fun W1 e1 => hP.judges.ext e1)
    have HW0 := Lib.hid (show ∀ W1, Only L W W1 → Ext w0 W1 from fun W1 o => o.ext hE0 hB0 hM0 hR0)
    clear h hb hE0 hbl hnil ht hP hV hB0 hM0 hR0 hi hy hz ih
    generalize hL : L = L' at *
    obtain ⟨B, M, R, rc, iA, jA, gA, ic, jc, gc⟩ := L'
    have HL := Lib.hid hL
    simp only at *
    obtain ⟨c0, c1, c2, c3, c4, c5, c6, c7, c8, c9⟩ := HC.out _ _ (H.out.ext HX.out)
    obtain ⟨bi, oi, hiA, hbi, hci1, hci2⟩ := HItem.out _ (HE0.out.trans HX.out)
    have HiA := Lib.hid hiA
    rw [hiA] at c0
    clear hL hiA
    go_enter Try.func45, Try.ntmps45
    go_wp2_with fail
    go_loopw [38] (fun cn wr => ∃ k : Nat, (k : Int) ≤ z + 1 ∧ cn = .int .i64 k ∧ Only ⟨B, M, R, rc, iA, jA, gA, ic, jc, gc⟩ W wr ∧ SurvAt wr ⟨B, M, R, rc, iA, jA, gA, ic, jc, gc⟩ p (foldTo (fun n S => visitM p m ([a, b, c, d].set i n) (r + n * y) (cutTo p i n p.judges.length bs) S) k S) ∧
        W.heap.size < wr.heap.size ∧ ∃ a' b' c' d', Blk wr W.heap.size 110 #[.int .i64 a', .int .i64 b', .int .i64 c', .int .i64 d'] ∧ ∀ n, [a', b', c', d'].set i n = [a, b, c, d].set i n) (fun cn _ => (z + 1 - intOf cn).toNat)
    case atStart => exact ⟨0, by omega, rfl, Only.of_ext HX.out, H.out.ext HX.out, by simp, a, b, c, d, HBX.out, fun _ => rfl⟩
    case round =>
      obtain ⟨k, hk, rfl, hO, hS, hsz, a', b', c', d', hB', hset⟩ := hrel
      obtain ⟨wo, rfl⟩ : ∃ wo : World, wo = wr := ⟨_, rfl⟩
      have HO := Lib.hid hO
      have HS := Lib.hid hS
      have HBk := Lib.hid hB'
      have HSet := Lib.hid hset
      by_cases hlt : (k : Int) < z + 1
      · have hky := mul_bd (x := (k : Int)) (y := y) ⟨hw0, hw1⟩ ⟨by omega, by omega⟩
        have hC0 := HC.out _ _ hS
        obtain ⟨c0, c1, c2, c3, c4, c5, c6, c7, c8, c9⟩ := hC0
        have HSp := Lib.hid ((HB.out.only hO).sp)
        have HCl := Lib.hid (cloneSpans A cc bs wo (HB.out.only hO).sp (by have := HBL.out; omega) HNil.out)
        clear hO hS hB' hset
        go_wp2_with fail
        refine HCl.out.mono ?_
        rintro e w1 ⟨v, rfl, hown, hE1⟩
        obtain ⟨lA, lc, rfl, hln, hlb, hlg⟩ := own_form hown
        have hS1 := HS.out.ext hE1
        obtain ⟨c0, c1, c2, c3, c4, c5, c6, c7, c8, c9⟩ := HC.out _ _ hS1
        have HO1 := Lib.hid (HO.out.trans (Only.of_ext hE1))
        have HE1 := Lib.hid hE1
        have HS1 := Lib.hid hS1
        have Hown := Lib.hid hown
        clear hown hE1 hS1
        go_wp2_with fail
        go_loopw [49] (fun cj wr => ∃ j : Nat, j ≤ p.judges.length ∧ cj = .int .i64 j ∧ Ext wo wr ∧ wr.ownsRow wo.heap.size 48 2 (.slice lA bs.length lc) bs.length (spanCells (cutTo p i k j bs))) (fun cj _ => p.judges.length - (intOf cj).toNat)
        case atStart => exact ⟨0, by omega, rfl, HE1.out, Hown.out⟩
        case round =>
          obtain ⟨j, hj, rfl, hE, hown⟩ := hrel
          have HE := Lib.hid hE
          have Hown := Lib.hid hown
          by_cases hjlt : j < p.judges.length
          · obtain ⟨bj, oj, lo, hi, err, ma, mA, mc, hjA, hbj, hcj1, hcj2, hcj3, hcj4, hma, hml, hx⟩ := (HJud.out _ ((HW0.out _ HO.out).trans hE)).get hjlt
            subst hjA
            have hju := HV.out.ju j hjlt
            have hmk := HV.out.ma j hjlt i hilen
            rw [hx.out] at hju hmk
            simp only at hju hmk
            obtain ⟨hj1, hj2, hj3, hj4, hj5, hj6⟩ := hju
            have hmi : i < ma.length := by omega
            obtain ⟨bm, om, mk, rfl, hbm, hcm, hmx⟩ := hma.get hmi
            rw [hmx.out] at hmk
            have hjb : j < bs.length := by have := HBL.out; omega
            obtain ⟨g, rfl⟩ := hlg (by omega)
            obtain ⟨hg1, hg2⟩ := own_block hown
            obtain ⟨x0, y0, hl1, hl2, hlx⟩ := ownSpans_get hown (k := j) (by have := HBL.out; omega)
            have hfr1 := (hown.frozenAt (j * 2))
            have hfr2 := (hown.frozenAt (j * 2 + 1))
            clear hj6 hE hown hma
            by_cases hmk0 : 0 ≤ mk
            · have HCut := Lib.hid (show cutTo p i k (j + 1) bs = (cutTo p i k j bs).set j (max x0 (mk - k - err), min y0 (mk - k + err)) by
                rw [cutTo, hlx.out, hx.out]
                unfold cut1
                simp only [hmx.out, if_pos hmk0])
              go_wp2_with fail
              generalize hw2 : wr.alloc (.cells #[.int .i64 lo, .int .i64 hi, .int .i64 err, .slice (some ⟨bm, om, none⟩) ma.length mc] 68) = w2 at *
              have e2 : Ext wr w2 := by rw [← hw2]; exact Ext.of_alloc _ _
              have g1 : w2.cell? ⟨g, j * 2, none⟩ = some (.int .i64 x0) := (e2.cellOf (p := ⟨g, _, none⟩) hg2).trans hl1
              have g2 : w2.cell? ⟨g, j * 2 + 1, none⟩ = some (.int .i64 y0) := (e2.cellOf (p := ⟨g, _, none⟩) hg2).trans hl2
              have g3 : w2.cell? ⟨wr.heap.size, 2, none⟩ = some (.int .i64 err) := by rw [← hw2, World.cell?_alloc_at _ _ _ _ rfl]; rfl
              have f1 : w2.frozen? ⟨g, j * 2, none⟩ = false := (Below.frozen e2 (p := ⟨g, _, none⟩) hg2).trans hfr1
              have f2 : w2.frozen? ⟨g, j * 2 + 1, none⟩ = false := (Below.frozen e2 (p := ⟨g, _, none⟩) hg2).trans hfr2
              have HFin := Lib.hid (show ∀ u v : Int, u = max x0 (mk - k - err) → v = min y0 (mk - k + err) → Ext wo (((w2.setCell ⟨g, j * 2, none⟩ (.int .i64 u)).setCell ⟨g, j * 2 + 1, none⟩ (.int .i64 v)).drew) ∧
                  (((w2.setCell ⟨g, j * 2, none⟩ (.int .i64 u)).setCell ⟨g, j * 2 + 1, none⟩ (.int .i64 v)).drew).ownsRow wo.heap.size 48 2 (.slice (some ⟨g, 0, none⟩) bs.length lc) bs.length (spanCells (cutTo p i k (j + 1) bs)) from fun u v hu hv => by
                subst hu; subst hv
                refine ⟨((((HE.out.trans e2).setCell (p := ⟨g, j * 2, none⟩) hg1 _).setCell (p := ⟨g, j * 2 + 1, none⟩) hg1 _)).drew, ?_⟩
                rw [HCut.out]
                exact (ownSpans_set (k := j) (own_ext Hown.out e2) _ _).drew)
              clear hl1 hl2 hfr1 hfr2 hw2 e2
              go_region
              all_goals
                go_wp2
                go_roundw
                case rel => exact ⟨j + 1, by omega, by go_num, (HFin.out _ _ (by omega) (by omega)).1, (HFin.out _ _ (by omega) (by omega)).2⟩
                case measure => simp [intOf]; omega
            · have HCut := Lib.hid (show cutTo p i k (j + 1) bs = cutTo p i k j bs by
                rw [cutTo, hlx.out, hx.out]
                unfold cut1
                simp only [hmx.out, if_neg hmk0]
                rw [← hlx.out]
                exact list_set_getD _ _ _)
              go_wp2
              go_roundw
              case rel => exact ⟨j + 1, by omega, by go_num, HE.out.alloc _, by rw [HCut.out]; exact own_ext Hown.out (Ext.of_alloc _ _)⟩
              case measure => simp [intOf]; omega
          · obtain rfl : j = p.judges.length := by omega
            have hO2 := HO.out.trans (Only.of_ext hE)
            have hS2 := HS.out.ext hE
            have hBk2 := HBk.out.ext hE
            have e02 := HW0.out _ hO2
            obtain ⟨bi', oi', hiA', _, hci1', _⟩ := HItem.out _ e02
            rw [HiA.out] at hiA'
            injection hiA' with hiA'
            injection hiA' with q1 q2
            subst q1; subst q2
            obtain ⟨c0, c1, c2, c3, c4, c5, c6, c7, c8, c9⟩ := HC.out _ _ hS2
            rw [HiA.out] at c0
            obtain ⟨a2, b2, c2', d2, hs2⟩ := set4 a' b' c' d' i k
            have hbv := set4V a' b' c' d' i k a2 b2 c2' d2 hs2
            have hbs := hBk2.set i (.int .i64 k)
            rw [hbv] at hbs
            have hfr := hBk2.free i
            obtain ⟨uv, huv⟩ : ∃ u, wr.cell? ⟨W.heap.size, i, none⟩ = some u := by
              have := hBk2.cell i
              match i, hi4 with
              | 0, _ => exact ⟨_, this⟩
              | 1, _ => exact ⟨_, this⟩
              | 2, _ => exact ⟨_, this⟩
              | 3, _ => exact ⟨_, this⟩
            have HS2 := Lib.hid hS2
            have HO2 := Lib.hid hO2
            have Hbs := Lib.hid hbs
            have HOwn2 := Lib.hid hown
            have HE2 := Lib.hid hE
            have hsz2 : W.heap.size < wr.heap.size := hBk2.lt
            clear hE hown hO2 hS2 hBk2 e02 hbs hbv
            go_wp2
            have hS3 := HS2.out.farCell (q := ⟨W.heap.size, i, none⟩) (show B ≠ W.heap.size by omega) (show M ≠ W.heap.size by omega) (show R ≠ W.heap.size by omega) (.int .i64 k)
            have hO3 := HO2.out.cellNew (p := ⟨W.heap.size, i, none⟩) (Nat.le_refl _) (.int .i64 k)
            have hBk3 := Hbs.out
            have hown3 : (wr.setCell ⟨W.heap.size, i, none⟩ (.int .i64 k)).ownsRow wo.heap.size 48 2 (.slice lA bs.length lc) bs.length (spanCells (cutTo p i k p.judges.length bs)) := ownsRow_setCell_below HOwn2.out (a := ⟨W.heap.size, i, none⟩) hsz _
            have hsz3 : W.heap.size < (wr.setCell ⟨W.heap.size, i, none⟩ (.int .i64 k)).heap.size := by simpa using hsz2
            generalize wr.setCell ⟨W.heap.size, i, none⟩ (.int .i64 k) = w3 at *
            have e03 := HW0.out _ hO3
            obtain ⟨bi', oi', hiA', _, hci1', _⟩ := HItem.out _ e03
            rw [HiA.out] at hiA'
            injection hiA' with hiA'
            injection hiA' with q1 q2
            subst q1; subst q2
            obtain ⟨c0, c1, c2, c3, c4, c5, c6, c7, c8, c9⟩ := HC.out _ _ hS3
            rw [HiA.out] at c0
            have hbx := hBk3.cell
            have HS3 := Lib.hid (hS3.ext (Ext.refl _).drew)
            have HO3 := Lib.hid (hO3.trans (Only.of_ext (Ext.refl _).drew))
            have HBk3 := Lib.hid (hBk3.ext (Ext.refl _).drew)
            have HBias3 := Lib.hid (show Bias ⟨B, M, R, rc, iA, jA, gA, ic, jc, gc⟩ w3.drew lA (cutTo p i k p.judges.length bs) from
              ⟨((Spans.of_own hown3).2).ext (Ext.refl _).drew, fun b off hA => by
                have := (hlb b off hA).1
                exact ⟨by show b ≠ B; omega, by show b ≠ M; omega, by show b ≠ R; omega⟩⟩)
            have HE03 := Lib.hid (e03.trans (Ext.refl _).drew)
            have HLen := Lib.hid (cutTo_length p i k p.judges.length bs)
            have HT2 := Lib.hid (set_range (i := i) (n := k) hs2 (by omega) (fun q hq => by
              have h1 := HT.out q hq
              have h2 := congrArg (fun l => List.getD l q 0) (HSet.out 0)
              simp only [List.getD, List.getElem?_set_ne (show i ≠ q by omega)] at h1 h2 ⊢
              rw [h2]; exact h1) (by simpa using hi4))
            have HSk := Lib.hid (show [a, b, c, d].set i k = [a2, b2, c2', d2] by rw [← HSet.out, hs2])
            have HSn := Lib.hid (show ∀ n, [a2, b2, c2', d2].set i n = [a, b, c, d].set i n from fun n => by rw [← HSk.out, List.set_set])
            have hCall := HIH.out (i + 1) a2 b2 c2' d2 (r + k * y) lA lc (cutTo p i k p.judges.length bs) _ w3.drew (by have := HIL.out; omega) HS3.out HBias3.out (by rw [HLen.out, HBL.out]) (fun q => by have := hln q; have := HLen.out; exact List.eq_nil_of_length_eq_zero (by omega)) HT2.out (by omega) (by omega) HE03.out
            rw [HLen.out] at hCall
            have HCall := Lib.hid hCall
            clear hCall hS3 hO3 hBk3 hown3 e03 hs2 Hbs HBk
            with_reducible refine wp_region_tail 18 (by kernel_rfl) (by kernel_rfl) ?_
            simp only [List.take_succ_cons, List.take_zero, List.drop_succ_cons, List.drop_zero]
            iterate 18 ((with_reducible refine wpStill_step (fun K hK => ?_)); go_simp; (with_reducible refine hK _ ?_); clear hK K)
            refine wpStill_nil ?_
            go_wp2_with fail
            refine HCall.out.mono ?_
            rintro e w4 ⟨rfl, hS4, hO4⟩
            have HS4 := Lib.hid hS4
            have HO4 := Lib.hid hO4
            clear hS4 hO4
            go_wp2
            go_roundw
            case rel =>
              refine ⟨k + 1, by omega, by go_num, HO3.out.trans HO4.out, ?_, Nat.lt_of_lt_of_le hsz3 HO4.out.size, a2, b2, c2', d2, HBk3.out.only HO4.out (by show _ ≠ B; omega) (by show _ ≠ M; omega) (by show _ ≠ R; omega), HSn.out⟩
              have := HS4.out
              rw [← HSk.out] at this
              exact this
            case measure => simp [intOf]; omega
      · clear hO hS hB' hset
        go_wp2
        go_end0
        refine ⟨rfl, ?_, HO.out⟩
        rw [HVM.out, show (z + 1).toNat = k by omega]
        exact HS.out
end Go.Proofs.Ytkejebdfbkgaiaa

namespace Go.Proofs.Ytkejebdfbkgaiaa
open Go.RowKit

theorem bias0_snoc (p : Paper) (k : Nat) (h : k < p.judges.length) : (bias0 p).take (k + 1) = (bias0 p).take k ++ [((p.judges.getD k default).lo, (p.judges.getD k default).hi)] := by
  unfold bias0
  rw [List.take_succ_eq_append_getElem (by simpa using h)]
  simp [List.getD, h]

set_option maxHeartbeats 1000000 in
theorem open_err (iA jA gA : Option Addr) (ic jc gc : Nat) (p : Paper) (w : World) (h : PaperAt w iA jA gA p) (hv : checkE p = 90) :
    Calls Try.prog 36 #[.agg #[.slice iA p.items.length ic, .slice jA p.judges.length jc, .int .i64 p.wrong, .slice gA p.grades.length gc]] w fun e w' => e = .returned (.tuple #[.pointer none, .int .i64 90]) ∧ Ext w w' := by
  have HC := Lib.hid (fun W (hE : Ext w W) => checkP_any iA jA gA ic jc gc p W (h.ext hE))
  have HV := Lib.hid hv
  have HX := Lib.hid (Ext.of_alloc w (.cells #[.slice iA p.items.length ic, .slice jA p.judges.length jc, .int .i64 p.wrong, .slice gA p.grades.length gc] 43))
  clear h hv
  go_enter Try.func36, Try.ntmps36
  go_wp2_with fail
  refine (HC.out _ HX.out).mono ?_
  rintro e w1 ⟨rfl, hE1⟩
  rw [HV.out]
  have HE1 := Lib.hid hE1
  clear hE1
  go_wp2
  go_ret2
  exact ⟨rfl, HX.out.trans HE1.out⟩

set_option maxHeartbeats 4000000 in
set_option maxRecDepth 100000 in
theorem openE_ok (iA jA gA : Option Addr) (ic jc gc : Nat) (p : Paper) (w : World) (h : PaperAt w iA jA gA p) (hv : validB p = true) :
    Calls Try.prog 36 #[.agg #[.slice iA p.items.length ic, .slice jA p.judges.length jc, .int .i64 p.wrong, .slice gA p.grades.length gc]] w fun e w' => ∃ B M R rc, e = .returned (.tuple #[.pointer (some ⟨B, 0, none⟩), .int .i64 0]) ∧ SurvAt w' ⟨B, M, R, rc, iA, jA, gA, ic, jc, gc⟩ p (openM p) ∧ Ext w w' := by
  have HC := Lib.hid (fun W (hE : Ext w W) => checkP_any iA jA gA ic jc gc p W (h.ext hE))
  have HV := Lib.hid (show checkE p = 0 by simp [checkE, hv])
  have hV := valid_of hv
  have HX := Lib.hid (Ext.of_alloc w (.cells #[.slice iA p.items.length ic, .slice jA p.judges.length jc, .int .i64 p.wrong, .slice gA p.grades.length gc] 43))
  have hjl := hV.jl
  have HVal := Lib.hid hV
  have H := Lib.hid h
  obtain ⟨rv, hrv⟩ : ∃ rv, rv = rightV (List.replicate p.judges.length false) := ⟨_, rfl⟩
  have hmk := fun W => run_makeBools p.judges.length (by omega) W rv hrv
  have hmm := @run_makeMap Try.prog
  have HRv := Lib.hid hrv
  clear h hv hV hrv
  go_enter Try.func36, Try.ntmps36
  go_wp2_with fail
  refine (HC.out _ HX.out).mono ?_
  rintro e w1 ⟨rfl, hE1⟩
  rw [HV.out]
  have HE1 := Lib.hid hE1
  have hbox := hE1.box
  have hlt1 : w.heap.size < w1.heap.size := hE1.lt
  clear hE1
  go_upto_region 4 with fail
  go_cut [5] (fun s5 wx => ∃ B M R, s5 = .pointer (some ⟨B, 0, none⟩) ∧ SurvAt wx ⟨B, M, R, p.judges.length, iA, jA, gA, ic, jc, gc⟩ p (survZ p (fun _ _ => (0, 0))) ∧ Ext w1 wx ∧ w1.heap.size ≤ B ∧ w1.heap.size ≤ M ∧ w1.heap.size ≤ R)
  case first =>
    have h0 : w1.cell? ⟨w.heap.size, 0, none⟩ = some (.slice iA p.items.length ic) := hbox 0
    have h1 : w1.cell? ⟨w.heap.size, 1, none⟩ = some (.slice jA p.judges.length jc) := hbox 1
    have h2 : w1.cell? ⟨w.heap.size, 2, none⟩ = some (.int .i64 p.wrong) := hbox 2
    have h3 : w1.cell? ⟨w.heap.size, 3, none⟩ = some (.slice gA p.grades.length gc) := hbox 3
    have HK := Lib.hid (show ∀ W, Ext w1 W → (W.cell? ⟨w.heap.size, 0, none⟩ = some (.slice iA p.items.length ic) ∧ W.cell? ⟨w.heap.size, 1, none⟩ = some (.slice jA p.judges.length jc) ∧ W.cell? ⟨w.heap.size, 2, none⟩ = some (.int .i64 p.wrong) ∧ W.cell? ⟨w.heap.size, 3, none⟩ = some (.slice gA p.grades.length gc)) from fun W e =>
      ⟨(e.cellOf (p := ⟨_, _, none⟩) hlt1).trans h0, (e.cellOf (p := ⟨_, _, none⟩) hlt1).trans h1, (e.cellOf (p := ⟨_, _, none⟩) hlt1).trans h2, (e.cellOf (p := ⟨_, _, none⟩) hlt1).trans h3⟩)
    clear hbox
    go_region_held3 (fun w' => w'.cell? ⟨w.heap.size, 0, none⟩ = some (.slice iA p.items.length ic) ∧ w'.cell? ⟨w.heap.size, 1, none⟩ = some (.slice jA p.judges.length jc) ∧ w'.cell? ⟨w.heap.size, 2, none⟩ = some (.int .i64 p.wrong) ∧ w'.cell? ⟨w.heap.size, 3, none⟩ = some (.slice gA p.grades.length gc)) (exact HK.out _ (by repeat (first | exact Ext.refl _ | refine Ext.drew ?_ | refine Ext.alloc ?_ _)))
      (first
        | (go_at_call 44; refine (none_any _).mono ?_; rintro e w' ⟨rfl, rfl⟩))
    all_goals
      go_wp2_with fail
      go_meet
      refine ⟨_, _, _, rfl, surv_new iA jA gA ic jc gc p rv HRv.out _ _ _ _ (heap4 _ _ _ _ _).2.2.2 (by first | exact (heap4 _ _ _ _ _).1 | exact (heap4 _ _ _ _ _).2.1 | exact (heap4 _ _ _ _ _).2.2.1) (by first | exact (heap4 _ _ _ _ _).1 | exact (heap4 _ _ _ _ _).2.1 | exact (heap4 _ _ _ _ _).2.2.1), ?_, by omega, by omega, by omega⟩
      exact (((((Ext.refl _).alloc _).alloc _).alloc _).alloc _).drew
  case rest =>
    obtain ⟨B, M, R, rfl, hS, hE, hB, hM, hR⟩ := hcut
    have HS := Lib.hid hS
    have HE := Lib.hid hE
    have HIt := Lib.hid (fun W f (h : SurvAt W ⟨B, M, R, p.judges.length, iA, jA, gA, ic, jc, gc⟩ p (survZ p f)) (i n : Nat) (hi : i < 4) (hn : n < 31) => (show SurvAt _ ⟨B, M, R, p.judges.length, iA, jA, gA, ic, jc, gc⟩ p (survZ p (setIt f i n noSpan)) from h.setIts i n hi hn 1073741824 (-1073741824)))
    have HCell := Lib.hid (fun W f (h : SurvAt W ⟨B, M, R, p.judges.length, iA, jA, gA, ic, jc, gc⟩ p (survZ p f)) (i n : Nat) (hi : i < 4) (hn : n < 31) => (show ∃ x y, W.cell? ⟨B, 6 + i * 62 + n * 2, none⟩ = some (.int .i64 x) ∧ W.cell? ⟨B, 6 + i * 62 + n * 2 + 1, none⟩ = some (.int .i64 y) ∧ W.frozen? ⟨B, 6 + i * 62 + n * 2, none⟩ = false ∧ W.frozen? ⟨B, 6 + i * 62 + n * 2 + 1, none⟩ = false from by
      obtain ⟨cs, hb, hc⟩ := h.cs
      exact ⟨_, _, (hb.cell _).trans (hc.it1 i n hi hn), (hb.cell _).trans (hc.it2 i n hi hn), hb.free _, hb.free _⟩))
    have HltB := Lib.hid (fun W f (h : SurvAt W ⟨B, M, R, p.judges.length, iA, jA, gA, ic, jc, gc⟩ p (survZ p f)) => h.ltB)
    have HB := Lib.hid hB
    clear hS hE hbox hmk hmm
    go_wp2_with fail
    go_loopw [28] (fun c wr => ∃ k : Nat, k ≤ 4 ∧ c = .int .i64 k ∧ Ext w1 wr ∧ ∃ f, SurvAt wr ⟨B, M, R, p.judges.length, iA, jA, gA, ic, jc, gc⟩ p (survZ p f) ∧ ∀ i n, i < k → n < 31 → f i n = noSpan) (fun c _ => 4 - (intOf c).toNat)
    case atStart => exact ⟨0, by omega, rfl, HE.out, _, HS.out, fun i n h => by omega⟩
    case round =>
      obtain ⟨k, hk, rfl, hE, f, hS, hf⟩ := hrel
      have HE := Lib.hid hE
      have HS := Lib.hid hS
      have Hf := Lib.hid hf
      clear hE hS hf
      by_cases hlt : k < 4
      · have hkd : decide ((k : Int) < 4) = true := by simp; omega
        go_wp2_with fail
        go_loopw [31] (fun c wr => ∃ m : Nat, m ≤ 31 ∧ c = .int .i64 m ∧ Ext w1 wr ∧ ∃ f, SurvAt wr ⟨B, M, R, p.judges.length, iA, jA, gA, ic, jc, gc⟩ p (survZ p f) ∧ ∀ i n, i < k ∨ (i = k ∧ n < m) → n < 31 → f i n = noSpan) (fun c _ => 31 - (intOf c).toNat)
        case atStart => exact ⟨0, by omega, rfl, HE.out, _, HS.out, fun i n h => Hf.out i n (by omega)⟩
        case round =>
          clear hkd
          obtain ⟨m, hm, rfl, hE, f, hS, hf⟩ := hrel
          have HE := Lib.hid hE
          have HS := Lib.hid hS
          have Hf := Lib.hid hf
          clear hE hS hf
          by_cases hlt2 : m < 31
          · have hk4 : (k : Int) < 4 := by omega
            have hm31 : (m : Int) < 31 := by omega
            obtain ⟨x, y, g1, g2, f1, f2⟩ := HCell.out _ _ HS.out k m hlt hlt2
            obtain ⟨x', y', g1', g2', f1', f2'⟩ := HCell.out _ _ (HS.out.ext (Ext.of_alloc _ (.cells #[.int .i64 1073741824, .int .i64 (-1073741824)] 48))) k m hlt hlt2
            have hltB := HltB.out _ _ HS.out
            go_wp2_with fail
            go_region_held3 (fun _ => True) (trivial) (first | (go_at_call 44; refine (none_any _).mono ?_; rintro e w' ⟨rfl, rfl⟩))
            have hS' := (HIt.out _ _ HS.out k m hlt hlt2).ext (Ext.of_alloc _ (.cells #[.int .i64 1073741824, .int .i64 (-1073741824)] 48))
            have HS' := Lib.hid (hS'.ext (Ext.refl _).drew)
            have HE' := Lib.hid ((Ext.alloc ((HE.out.setCell (p := ⟨B, 6 + k * 62 + m * 2, none⟩) HB.out (.int .i64 1073741824)).setCell (p := ⟨B, 6 + k * 62 + m * 2 + 1, none⟩) HB.out (.int .i64 (-1073741824))) (.cells #[.int .i64 1073741824, .int .i64 (-1073741824)] 48)).drew)
            have HF' := Lib.hid (show ∀ i n, i < k ∨ (i = k ∧ n < m + 1) → n < 31 → setIt f k m noSpan i n = noSpan from fun i n h1 h2 => by
              unfold setIt
              by_cases e : i = k ∧ n = m
              · rw [if_pos e]
              · rw [if_neg e]; exact Hf.out i n (by omega) h2)
            clear hS' g1 g2 g1' g2' f1 f2 f1' f2'
            go_wp2
            go_roundw
            case rel => exact ⟨m + 1, by omega, by go_num, HE'.out, _, HS'.out, HF'.out⟩
            case measure => simp [intOf]; omega
          · go_wp2
            go_roundw
            case rel => exact ⟨k + 1, by omega, by go_num, HE.out, f, HS.out, fun i n h1 h2 => Hf.out i n (by omega) h2⟩
            case measure => simp [intOf]; omega
      · have hS' := HS.out.congr (fun _ _ => noSpan) (fun i n hi hn => (Hf.out i n (by omega) hn).symm)
        have hbox := (HE1.out.trans HE.out).box
        have HS' := Lib.hid hS'
        have HNil := Lib.hid (World.ownsRow_nil wr w1.heap.size 48 2)
        obtain ⟨i0, hi0, hz0, hz1, hz2⟩ := info_parts span_info
        clear hS'
        obtain ⟨wa, rfl⟩ : ∃ wa : World, wa = wr := ⟨_, rfl⟩
        go_wp2_with fail
        go_loopw [8, 47] (fun v c wr => ∃ k : Nat, k ≤ p.judges.length ∧ c = .int .i64 k ∧ Ext wa wr ∧ wr.ownsRow wa.heap.size 48 2 v k (spanCells ((bias0 p).take k))) (fun _ c _ => p.judges.length - (intOf c).toNat)
        case atStart => exact ⟨0, by omega, rfl, Ext.refl _, World.ownsRow_nil _ _ _ _⟩
        case round =>
          obtain ⟨k, hk, rfl, hE, hown⟩ := hrel
          have HE2 := Lib.hid hE
          have Hown := Lib.hid hown
          clear hE hown
          by_cases hlt3 : k < p.judges.length
          · obtain ⟨bj, oj, lo, hi, err, ma, mA, mc, hjA, hbj, hcj1, hcj2, hcj3, hcj4, hma, hml, hx⟩ := (H.out.judges.ext (((HX.out.trans HE1.out).trans HE.out).trans HE2.out)).get hlt3
            subst hjA
            have HSn := Lib.hid (bias0_snoc p k hlt3)
            rw [hx.out] at HSn
            have hbox := ((HE1.out.trans HE.out).trans HE2.out).box
            have HO2 := Lib.hid ((Hown.out.alloc (.cells #[.int .i64 lo, .int .i64 hi, .int .i64 err, .slice mA ma.length mc] 68)).alloc (.cells #[.int .i64 lo, .int .i64 hi] 48))
            have HE3 := Lib.hid ((HE2.out.alloc (.cells #[.int .i64 lo, .int .i64 hi, .int .i64 err, .slice mA ma.length mc] 68)).alloc (.cells #[.int .i64 lo, .int .i64 hi] 48))
            have HSz := Lib.hid HE2.out.size
            clear hma
            have HNews := Lib.hid (blk_second wr (.cells #[.int .i64 lo, .int .i64 hi, .int .i64 err, .slice mA ma.length mc] 68) #[.int .i64 lo, .int .i64 hi] 48).news
            have H63 := Lib.hid (show k + 1 ≤ maxLen by simp [maxLen]; omega)
            have HSz2 := Lib.hid (show wa.heap.size ≤ ((wr.alloc (.cells #[.int .i64 lo, .int .i64 hi, .int .i64 err, .slice mA ma.length mc] 68)).alloc (.cells #[.int .i64 lo, .int .i64 hi] 48)).heap.size by have := HSz.out; simp; omega)
            go_wp2_with (at_builtin; refine wpList_append_own _ rfl _ _ 107 rfl wa.heap.size 48 i0 _ 2 16 Try.underlying107 hi0 hz0 hz1 hz2 rfl (by decide) _ _ _ rfl HO2.out ⟨wr.heap.size + 1, 0, none⟩ 1 1 [.int .i64 lo, .int .i64 hi] rfl rfl HNews.out (by simp [Value.oneCell']) H63.out (by omega) HSz2.out ?_; intro v' w5 hown5 hgrow5 _)
            have HO5 := Lib.hid hown5
            have HE5 := Lib.hid (ext_append HE3.out HO2.out hgrow5)
            clear hown5 hgrow5
            go_wp2
            go_roundw
            case rel => exact ⟨k + 1, by omega, by go_num, HE5.out, by rw [HSn.out, spanCells_snoc]; exact HO5.out⟩
            case measure => simp [intOf]; omega
          · obtain rfl : k = p.judges.length := by omega
            have HTake := Lib.hid (show (bias0 p).take p.judges.length = bias0 p by rw [List.take_of_length_le (by simp [bias0])])
            obtain ⟨A, c, rfl, hA1, hA2, hA3⟩ := own_form Hown.out
            have hbl : (bias0 p).length = p.judges.length := by simp [bias0]
            have hO := Hown.out
            rw [HTake.out] at hO
            have hPx := H.out.ext (HX.out.trans HE1.out)
            have hltB := HltB.out _ _ HS'.out
            have hSx := HS'.out.ext HE2.out
            have hmx := HS'.out.ltM
            have hrx := HS'.out.ltR
            have hVis := visit_any ⟨B, M, R, p.judges.length, iA, jA, gA, ic, jc, gc⟩ p w1 hPx HVal.out hB hM hR p.items.length 0 0 0 0 0 0 A c (bias0 p) _ wr (by omega) hSx
              ⟨(Spans.of_own hO).2, fun b off hb => by
                have := (hA2 b off hb).1
                exact ⟨by show b ≠ B; omega, by show b ≠ M; have : M < wa.heap.size := hmx; omega, by show b ≠ R; have : R < wa.heap.size := hrx; omega⟩⟩ hbl
              (fun hn => by have := hA1 hn; exact List.eq_nil_of_length_eq_zero (by omega)) (fun k hk => by omega) (by omega) (by omega) (HE.out.trans HE2.out)
            rw [hbl] at hVis
            have HVis := Lib.hid hVis
            have HFin := Lib.hid (show ∀ W, Only ⟨B, M, R, p.judges.length, iA, jA, gA, ic, jc, gc⟩ wr W → Ext w W from fun W o => (HX.out.trans HE1.out).trans (o.ext (HE.out.trans HE2.out) hB hM hR))
            clear hVis hO hPx hSx hbl hA1 hA2 hA3
            go_wp2_with fail
            refine HVis.out.mono ?_
            rintro e w6 ⟨rfl, hS6, hO6⟩
            have HS6 := Lib.hid hS6
            have HO6 := Lib.hid hO6
            clear hS6 hO6
            go_wp2
            go_ret2
            exact ⟨B, M, R, p.judges.length, rfl, HS6.out, HFin.out _ HO6.out⟩
end Go.Proofs.Ytkejebdfbkgaiaa

namespace Go.Proofs.Ytkejebdfbkgaiaa
open Go.RowKit

theorem box2 {w W : World} {cs cs' : Array Value} {T1 T2 : TypeId} (h : Ext ((w.alloc (.cells cs T1)).alloc (.cells cs' T2)) W) :
    (∀ i, W.cell? ⟨w.heap.size, i, none⟩ = cs[i]?) ∧ (∀ i, W.cell? ⟨w.heap.size + 1, i, none⟩ = cs'[i]?) ∧ (∀ i, W.frozen? ⟨w.heap.size, i, none⟩ = false) ∧ (∀ i, W.frozen? ⟨w.heap.size + 1, i, none⟩ = false) ∧ w.heap.size + 1 < W.heap.size := by
  refine ⟨fun i => h.unalloc.box i, fun i => ?_, fun i => h.unalloc.boxFree i, fun i => ?_, ?_⟩
  · have := h.box i; simpa using this
  · have := h.boxFree i; simpa using this
  · have := h.lt; simpa using this
set_option maxHeartbeats 1000000 in
theorem known_err (iA jA gA : Option Addr) (ic jc gc : Nat) (p : Paper) (t : Bool) (c : Int) (w : World) (h : PaperAt w iA jA gA p) (hk : knownE p t = c) (hc : c ≠ 0) :
    Calls Try.prog 24 #[.agg #[.slice iA p.items.length ic, .slice jA p.judges.length jc, .int .i64 p.wrong, .slice gA p.grades.length gc], .bool t] w fun e w' => e = .returned (.tuple #[.pointer none, .int .i64 c]) ∧ Ext w w' := by
  have HX := Lib.hid (Ext.of_alloc w (.cells #[.slice iA p.items.length ic, .slice jA p.judges.length jc, .int .i64 p.wrong, .slice gA p.grades.length gc] 43))
  have H := Lib.hid h
  clear h
  rcases knownE_err hk hc with ⟨hv, rfl⟩ | ⟨hv, rfl, rfl⟩ | ⟨hv, rfl, hp, rfl⟩
  · have HO := Lib.hid (open_err iA jA gA ic jc gc p _ (H.out.ext HX.out) (by simp [checkE, hv]))
    clear hk hc hv
    go_enter Try.func24, Try.ntmps24
    go_wp2_with fail
    refine HO.out.mono ?_
    rintro e w1 ⟨rfl, hE1⟩
    have HE1 := Lib.hid hE1
    clear hE1
    go_wp2
    go_ret2
    exact ⟨rfl, HX.out.trans HE1.out⟩
  · have HO := Lib.hid (openE_ok iA jA gA ic jc gc p _ (H.out.ext HX.out) hv)
    clear hk hc hv
    go_enter Try.func24, Try.ntmps24
    go_wp2_with fail
    refine HO.out.mono ?_
    rintro e w1 ⟨B, M, R, rc, rfl, hS1, hE1⟩
    have HE1 := Lib.hid hE1
    clear hE1 hS1
    go_wp2
    go_ret2
    exact ⟨rfl, HX.out.trans HE1.out⟩
  · have HO := Lib.hid (openE_ok iA jA gA ic jc gc p _ (H.out.ext HX.out) hv)
    have HP := Lib.hid hp
    clear hk hc hv hp
    go_enter Try.func24, Try.ntmps24
    go_wp2_with fail
    refine HO.out.mono ?_
    rintro e w1 ⟨B, M, R, rc, rfl, hS1, hE1⟩
    have HE1 := Lib.hid hE1
    obtain ⟨c0, c1, c2, c3, c4, c5, c6, c7, c8, c9⟩ := hS1.cell
    rw [HP.out] at c7
    have hB := hS1.ltB
    clear hE1 hS1
    go_wp2
    go_ret2
    exact ⟨rfl, HX.out.trans HE1.out⟩

set_option maxHeartbeats 1000000 in
theorem known_ok (iA jA gA : Option Addr) (ic jc gc : Nat) (p : Paper) (t : Bool) (w : World) (h : PaperAt w iA jA gA p) (hk : knownE p t = 0) :
    Calls Try.prog 24 #[.agg #[.slice iA p.items.length ic, .slice jA p.judges.length jc, .int .i64 p.wrong, .slice gA p.grades.length gc], .bool t] w fun e w' => ∃ B M R rc, e = .returned (.tuple #[.pointer (some ⟨B, 0, none⟩), .int .i64 0]) ∧ SurvAt w' ⟨B, M, R, rc, iA, jA, gA, ic, jc, gc⟩ p (openM p) ∧ Ext w w' := by
  have HX := Lib.hid (Ext.of_alloc w (.cells #[.slice iA p.items.length ic, .slice jA p.judges.length jc, .int .i64 p.wrong, .slice gA p.grades.length gc] 43))
  obtain ⟨hv, rfl, hp⟩ := knownE_ok hk
  have HO := Lib.hid (openE_ok iA jA gA ic jc gc p _ (h.ext HX.out) hv)
  have HP := Lib.hid hp
  clear hk hv hp h
  go_enter Try.func24, Try.ntmps24
  go_wp2_with fail
  refine HO.out.mono ?_
  rintro e w1 ⟨B, M, R, rc, rfl, hS1, hE1⟩
  have HE1 := Lib.hid hE1
  have HS1 := Lib.hid hS1
  obtain ⟨c0, c1, c2, c3, c4, c5, c6, c7, c8, c9⟩ := hS1.cell
  rw [HP.out] at c7
  have hB := hS1.ltB
  clear hE1 hS1
  go_wp2
  go_ret2
  exact ⟨B, M, R, rc, rfl, HS1.out, HX.out.trans HE1.out⟩

end Go.Proofs.Ytkejebdfbkgaiaa

namespace Go.Proofs.Ytkejebdfbkgaiaa
open Go.RowKit

theorem spanL_any (lo hi : Int) (w : World) : Calls Try.prog 34 #[.int .i64 lo, .int .i64 hi] w fun e w' => e = .returned (.agg #[.int .i64 lo, .int .i64 hi]) ∧ Ext w w' := by
  go_enter Try.func34, Try.ntmps34
  go_wp2
  refine bodyPost_ret (v := .agg #[.int .i64 lo, .int .i64 hi]) (by simp [results, Try.results34, go_sem]) rfl ⟨rfl, Ext.of_alloc _ _⟩

def farM (p : Paper) : Bool := decide (20 < p.items.length) || (decide (20 < p.judges.length) || (decide (20 < p.grades.length) || (p.judges.any (fun x => decide (20 < x.marks.length)) || (validB p && decide (3 < p.judges.length)))))
theorem farM_true {p : Paper} (h : 20 < p.items.length ∨ 20 < p.judges.length ∨ 20 < p.grades.length ∨ (∃ k, k < p.judges.length ∧ 20 < (p.judges.getD k default).marks.length) ∨ (validB p = true ∧ 3 < p.judges.length)) : farM p = true := by
  unfold farM
  rcases h with h | h | h | ⟨k, hk, h⟩ | ⟨h, h'⟩
  · simp [h]
  · simp [h]
  · simp [h]
  · have : p.judges.any (fun x => decide (20 < x.marks.length)) = true := by
      rw [List.any_eq_true]
      refine ⟨p.judges.getD k default, ?_, by simpa using h⟩
      rw [List.getD, List.getElem?_eq_getElem hk]
      exact List.getElem_mem hk
    simp [this]
  · simp [h, h']
theorem farM_false {p : Paper} (h1 : ¬ 20 < p.items.length) (h2 : ¬ 20 < p.judges.length) (h3 : ¬ 20 < p.grades.length) (h4 : ∀ k, k < p.judges.length → ¬ 20 < (p.judges.getD k default).marks.length) (h5 : validB p = true → ¬ 3 < p.judges.length) : farM p = false := by
  unfold farM
  have h6 : p.judges.any (fun x => decide (20 < x.marks.length)) = false := by
    rw [List.any_eq_false]
    intro x hx
    obtain ⟨k, hk, rfl⟩ := List.getElem_of_mem hx
    have := h4 k hk
    rw [List.getD, List.getElem?_eq_getElem hk] at this
    simpa using this
  have h7 : (validB p && decide (3 < p.judges.length)) = false := by
    cases hv : validB p
    · rfl
    · have := h5 hv; simp only [Bool.true_and, decide_eq_false_iff_not]; exact this
  rw [h6, h7]
  simp only [Bool.or_false, Bool.or_eq_false_iff, decide_eq_false_iff_not]
  exact ⟨h1, h2, h3⟩
end Go.Proofs.Ytkejebdfbkgaiaa
