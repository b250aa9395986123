/- Exams: the walk over the reference's cut. / Exams: the walk over the reference's boxes. / Exams: the walks over the reference's all, known. / Exams: the walks over the reference's known, Fewest. -/
import Derived.Test.YtbpilgflejdhaaaBoxMem
import Derived.Test.YtbpilgflejdhaaaExQ
import Derived.Test.YtbpilgflejdhaaaExO
import Derived.Deep.DeepCutAuto
import Derived.Deep.RegionLaw
import Derived.Test.YtbpilgflejdhaaaExBox
/-! Exams: the walk over the reference's cut. -/
namespace Go.Proofs.Ytbpilgflejdhaaa
open Go.RowKit

/-- What cut returns. -/
def CutPost (x : Judge) (b : Int) (l : List (Int × Int)) (w : World) (e : Ending) (w' : World) : Prop :=
  Ext w w' ∧ ((cutOk x b l = true ∧ ∃ A c, e = .returned (.tuple #[.slice A l.length c, .bool true]) ∧ RowAt w' 35 2 A l.length c (spanCells (cutL x b l))) ∨ (cutOk x b l = false ∧ e = .returned (.tuple #[.slice none 0 0, .bool false])))

set_option maxHeartbeats 4000000 in
set_option maxRecDepth 100000 in
theorem cut_any (sA mA : Option Addr) (sc mc : Nat) (lo hi err : Int) (ma : List Int) (l : List (Int × Int)) (b : Int) (w : World) (hs : Spans w sA l) (hm : Ints w mA ma) (hl : l.length ≤ 4) (hml : ma.length = l.length) (hmr : ∀ k, k < l.length → -1 ≤ ma.getD k 0 ∧ ma.getD k 0 ≤ 50) (he : 0 ≤ err ∧ err ≤ 5) (hb : -3 ≤ b ∧ b ≤ 3) :
    Calls Try.prog 76 #[.slice sA l.length sc, .agg #[.int .i64 lo, .int .i64 hi, .int .i64 err, .slice mA ma.length mc], .int .i64 b] w (CutPost ⟨lo, hi, err, ma⟩ b l w) := by
  obtain ⟨i0, hi0, hz0, hz1, hz2⟩ := info_parts span_info
  have HS := Lib.hid hs
  have HM := Lib.hid hm
  have HMR := Lib.hid hmr
  have HML := Lib.hid hml
  obtain ⟨x, hx⟩ : ∃ x : Judge, x = ⟨lo, hi, err, ma⟩ := ⟨_, rfl⟩
  rw [← hx]
  have HC := Lib.hid (show ∀ k a c m, l.getD k (0, 0) = (a, c) → ma.getD k 0 = m → cutS x b k (l.getD k (0, 0)) = if m = -1 then (a, c) else (max a (m - b - err), min c (m - b + err)) from fun k a c m h1 h2 => by
    rw [hx, h1, cutS]; simp only [h2])
  have HOk := Lib.hid (show allTo (fun i => okSpan (cutS x b i (l.getD i (0, 0)))) l.length → cutOk x b l = true from fun h => range_all.2 h)
  have HNo := Lib.hid (show ∀ k, k < l.length → okSpan (cutS x b k (l.getD k (0, 0))) = false → cutOk x b l = false from fun k hk h => range_all_false hk h)
  have HSn := Lib.hid (cutK_succ x b l)
  have HL := Lib.hid (show cutL x b l = cutK x b l l.length from rfl)
  obtain ⟨he0, he1⟩ := he
  obtain ⟨hb0, hb1⟩ := hb
  clear hs hm hmr hml hx
  have HX := Lib.hid (Ext.of_alloc w (.cells #[.int .i64 lo, .int .i64 hi, .int .i64 err, .slice mA ma.length mc] 37))
  have HB := Lib.hid (show ∀ W, Ext (w.alloc (.cells #[.int .i64 lo, .int .i64 hi, .int .i64 err, .slice mA ma.length mc] 37)) W → (W.cell? ⟨w.heap.size, 2, none⟩ = some (.int .i64 err) ∧ W.cell? ⟨w.heap.size, 3, none⟩ = some (.slice mA ma.length mc) ∧ w.heap.size < W.heap.size) from fun W e => ⟨e.box 2, e.box 3, e.lt⟩)
  go_enter Try.func76, Try.ntmps76
  go_wp2_with fail
  obtain ⟨w1, hw1⟩ : ∃ w1, w.alloc (.cells #[.int .i64 lo, .int .i64 hi, .int .i64 err, .slice mA ma.length mc] 37) = w1 := ⟨_, rfl⟩
  rw [hw1] at HX HB ⊢
  clear hw1
  go_loopw [8, 9] (fun v i wr => ∃ k : Nat, k ≤ l.length ∧ i = .int .i64 k ∧ Ext w1 wr ∧ wr.ownsRow w1.heap.size 35 2 v k (spanCells (cutK x b l k)) ∧ allTo (fun i => okSpan (cutS x b i (l.getD i (0, 0)))) k) (fun _ i _ => l.length - (intOf i).toNat)
  case atStart => exact ⟨0, by omega, rfl, Ext.refl _, World.ownsRow_nil _ _ _ _, allTo_zero _⟩
  case round =>
    obtain ⟨k, hk, rfl, hE, hown, hall⟩ := hrel
    have HE := Lib.hid hE
    have Hown := Lib.hid hown
    have HAll := Lib.hid hall
    obtain ⟨k0, k1, k2⟩ := HB.out _ hE
    by_cases hlt : (k : Int) < l.length
    · obtain ⟨sb, soff, a, c, rfl, hsb, hc1, hc2, hsx⟩ := (HS.out.ext (HX.out.trans hE)).get (show k < l.length by omega)
      obtain ⟨mb, moff, m, rfl, hmb, hmc, hmx⟩ := (HM.out.ext (HX.out.trans hE)).get (show k < ma.length by have := HML.out; omega)
      have hkm : (k : Int) < ma.length := by have := HML.out; omega
      have hmb0 := HMR.out k (by omega)
      rw [hmx.out] at hmb0
      obtain ⟨hm0, hm1⟩ := hmb0
      have hcs := HC.out k a c m hsx.out hmx.out
      have HCs := Lib.hid hcs
      have HSk := Lib.hid (HSn.out k)
      clear hE hown hall hcs
      by_cases hm : m = -1
      · have hmt : (m != -1) = false := by simpa using hm
        have HCs1 := Lib.hid (HCs.out.trans (if_pos hm))
        clear hm
        by_cases hok : a ≤ c
        ·
          have HW2 := Lib.hid (Ext.of_alloc wr (.cells #[(.int .i64 a), (.int .i64 c)] 35))
          have HO2 := Lib.hid ((own_ext Hown.out HW2.out).alloc (.cells #[(.int .i64 a), (.int .i64 c)] 35))
          have HE2 := Lib.hid ((HE.out.trans HW2.out).alloc (.cells #[(.int .i64 a), (.int .i64 c)] 35))
          have HNews := Lib.hid (blk_second wr (.cells #[(.int .i64 a), (.int .i64 c)] 35) #[(.int .i64 a), (.int .i64 c)] 35).news
          have H63 := Lib.hid (show k + 1 ≤ maxLen by simp [maxLen]; omega)
          have HSz2 := Lib.hid HE2.out.size
          have HSk2 := Lib.hid (show spanCells (cutK x b l (k + 1)) = spanCells (cutK x b l k) ++ [(.int .i64 a), (.int .i64 c)] by rw [HSk.out, spanCells_snoc, HCs1.out])
          have HOk2 := Lib.hid (show okSpan (cutS x b k (l.getD k (0, 0))) = true by rw [HCs1.out]; exact decide_eq_true hok)
          go_wp2_with (at_builtin; refine wpList_append_own _ rfl _ _ 58 rfl w1.heap.size 35 i0 _ 2 16 Try.underlying58 hi0 hz0 hz1 hz2 rfl (by decide) _ _ _ rfl HO2.out ⟨wr.heap.size + 1, 0, none⟩ 1 1 [(.int .i64 a), (.int .i64 c)] rfl rfl HNews.out (by simp [Value.oneCell']) H63.out (by omega) HSz2.out ?_; intro v' w7 hown7 hgrow7 _)
          have HO7 := Lib.hid hown7
          have HE7 := Lib.hid (ext_append HE2.out HO2.out hgrow7)
          clear hown7 hgrow7
          go_wp2
          go_roundw
          case rel => exact ⟨k + 1, by omega, by go_num, HE7.out, by rw [HSk2.out]; exact HO7.out, allTo_succ HAll.out HOk2.out⟩
          case measure => simp [intOf]; omega
        ·
          have HNo2 := Lib.hid (show okSpan (cutS x b k (l.getD k (0, 0))) = false by rw [HCs1.out]; exact decide_eq_false hok)
          go_wp2
          all_goals
            go_ret2
            exact (show CutPost x b l w (.returned (.tuple #[.slice none 0 0, .bool false])) _ from ⟨(HX.out.trans HE.out).alloc _, .inr ⟨HNo.out k (by omega) HNo2.out, rfl⟩⟩)
      · have hmt : (m != -1) = true := by simpa using hm
        have HCs1 := Lib.hid (HCs.out.trans (if_neg hm))
        clear hm
        obtain ⟨u, hu, hur⟩ := max2_run Try.prog a (m - b - err)
        obtain ⟨v, hv, hvr⟩ := min2_run Try.prog c (m - b + err)
        have HCs1 := Lib.hid (show cutS x b k (l.getD k (0, 0)) = (u, v) by rw [HCs1.out, hu, hv])
        clear hu hv
        by_cases hok : u ≤ v
        ·
          have HW2 := Lib.hid (Ext.of_alloc wr (.cells #[(.int .i64 u), (.int .i64 v)] 35))
          have HO2 := Lib.hid ((own_ext Hown.out HW2.out).alloc (.cells #[(.int .i64 u), (.int .i64 v)] 35))
          have HE2 := Lib.hid ((HE.out.trans HW2.out).alloc (.cells #[(.int .i64 u), (.int .i64 v)] 35))
          have HNews := Lib.hid (blk_second wr (.cells #[(.int .i64 u), (.int .i64 v)] 35) #[(.int .i64 u), (.int .i64 v)] 35).news
          have H63 := Lib.hid (show k + 1 ≤ maxLen by simp [maxLen]; omega)
          have HSz2 := Lib.hid HE2.out.size
          have HSk2 := Lib.hid (show spanCells (cutK x b l (k + 1)) = spanCells (cutK x b l k) ++ [(.int .i64 u), (.int .i64 v)] by rw [HSk.out, spanCells_snoc, HCs1.out])
          have HOk2 := Lib.hid (show okSpan (cutS x b k (l.getD k (0, 0))) = true by rw [HCs1.out]; exact decide_eq_true hok)
          go_wp2_with (at_builtin; refine wpList_append_own _ rfl _ _ 58 rfl w1.heap.size 35 i0 _ 2 16 Try.underlying58 hi0 hz0 hz1 hz2 rfl (by decide) _ _ _ rfl HO2.out ⟨wr.heap.size + 1, 0, none⟩ 1 1 [(.int .i64 u), (.int .i64 v)] rfl rfl HNews.out (by simp [Value.oneCell']) H63.out (by omega) HSz2.out ?_; intro v' w7 hown7 hgrow7 _)
          have HO7 := Lib.hid hown7
          have HE7 := Lib.hid (ext_append HE2.out HO2.out hgrow7)
          clear hown7 hgrow7
          go_wp2
          go_roundw
          case rel => exact ⟨k + 1, by omega, by go_num, HE7.out, by rw [HSk2.out]; exact HO7.out, allTo_succ HAll.out HOk2.out⟩
          case measure => simp [intOf]; omega
        ·
          have HNo2 := Lib.hid (show okSpan (cutS x b k (l.getD k (0, 0))) = false by rw [HCs1.out]; exact decide_eq_false hok)
          go_wp2
          all_goals
            go_ret2
            exact (show CutPost x b l w (.returned (.tuple #[.slice none 0 0, .bool false])) _ from ⟨(HX.out.trans HE.out).alloc _, .inr ⟨HNo.out k (by omega) HNo2.out, rfl⟩⟩)
    · obtain rfl : k = l.length := by omega
      obtain ⟨A, cc, rfl, _⟩ := own_form hown
      clear hE hown hall
      go_wp2
      go_ret2
      exact (show CutPost x b l w (.returned (.tuple #[.slice A l.length cc, .bool true])) wr from ⟨HX.out.trans HE.out, .inl ⟨HOk.out HAll.out, A, cc, rfl, fun _ => by rw [HL.out]; exact own_base Hown.out (Nat.zero_le _)⟩⟩)
end Go.Proofs.Ytbpilgflejdhaaa
/-! Exams: the walk over the reference's boxes. -/
namespace Go.Proofs.Ytbpilgflejdhaaa
open Go.RowKit

theorem box_info : (Try.prog.info? 97).map (fun i => (i.zero, i.size, i.bytes)) = some (some (.agg #[.slice none 0 0, .int .i64 0]), 2, 32) := by kernel_rfl

theorem shl16 {k : Nat} (h : k < 4) : 1 <<< k < 16 := by
  match k, h with
  | 0, _ => decide
  | 1, _ => decide
  | 2, _ => decide
  | 3, _ => decide

set_option maxHeartbeats 8000000 in
set_option maxRecDepth 100000 in
theorem boxes_any (p : Paper) (hV : Valid p) : ∀ (l : List Judge) (k : Nat), p.judges.drop k = l → k + l.length = p.judges.length →
    ∀ (iA jA gA bA : Option Addr) (ic jc gc bc : Nat) (ki n : Int) (pts : List (Int × Int)) (r : Nat) (w : World), PaperAt w iA jA gA p → RowAt w 35 2 bA pts.length bc (spanCells pts) → pts.length = p.items.length → r < 16 → ki = k → 0 ≤ n → n ≤ 100 →
    Calls Try.prog 67 #[.agg #[.slice iA p.items.length ic, .slice jA p.judges.length jc, .int .i64 p.wrong, .slice gA p.grades.length gc], .int .i64 ki, .int .i64 n, .agg #[.slice bA pts.length bc, .int .i64 (r : Int)]] w (BoxesPost (boxesM l k n ⟨pts, r⟩) w) := by
  intro l
  induction l with
  | nil =>
    intro k hdr hkl iA jA gA bA ic jc gc bc ki n pts r w h hb hpl hr hki hn0 hn1
    have hkk : k = p.judges.length := by simpa using hkl
    subst hki
    subst hkk
    have hjl := hV.jl
    have HR := Lib.hid hb
    have heq : ((p.judges.length : Int) == (p.judges.length : Int)) = true := by simp
    clear h hb hdr hkl hpl
    go_enter Try.func67, Try.ntmps67
    go_wp2
    go_ret
    have hbl : Blk ((((w.alloc (.cells #[.slice iA p.items.length ic, .slice jA p.judges.length jc, .int .i64 p.wrong, .slice gA p.grades.length gc] 26)).alloc (.cells #[.slice bA pts.length bc, .int .i64 (r : Int)] 97)).alloc (.cells #[.slice bA pts.length bc, .int .i64 (r : Int)] 97))) (w.heap.size + 1 + 1) 97 #[.slice bA pts.length bc, .int .i64 (r : Int)] := by
      have := blk_second (w.alloc (.cells #[.slice iA p.items.length ic, .slice jA p.judges.length jc, .int .i64 p.wrong, .slice gA p.grades.length gc] 26)) (.cells #[.slice bA pts.length bc, .int .i64 (r : Int)] 97) #[.slice bA pts.length bc, .int .i64 (r : Int)] 97
      simpa using this
    have hE := ((Ext.of_alloc w (.cells #[.slice iA p.items.length ic, .slice jA p.judges.length jc, .int .i64 p.wrong, .slice gA p.grades.length gc] 26)).alloc (.cells #[.slice bA pts.length bc, .int .i64 (r : Int)] 97)).alloc (.cells #[.slice bA pts.length bc, .int .i64 (r : Int)] 97)
    exact (show BoxesPost (boxesM [] p.judges.length n ⟨pts, r⟩) w (.returned (.slice (some ⟨w.heap.size + 1 + 1, 0, none⟩) 1 1)) _ from ⟨hE, _, rfl, [(⟨pts, r⟩, bA, bc)], rfl, own_of_blk hbl rfl (by simp [maxLen]) _ (by omega), fun y hy => by
      have e : y = (⟨pts, r⟩, bA, bc) := by simpa using hy
      subst e
      exact HR.out.ext hE⟩)
  | cons x l ih =>
    intro k hdr hkl iA jA gA bA ic jc gc bc ki n pts r w h hb hpl hr hki hn0 hn1
    have hk : k < p.judges.length := by simp only [List.length_cons] at hkl; omega
    have hjl := hV.jl
    have hget : p.judges.getD k default = x := by
      rw [List.drop_eq_getElem_cons hk] at hdr
      injection hdr with h1 h2
      simp [List.getD, hk, h1]
    have hdr1 : p.judges.drop (k + 1) = l := by
      rw [List.drop_eq_getElem_cons hk] at hdr
      injection hdr
    have IH := Lib.hid (ih (k + 1) hdr1 (by simp only [List.length_cons] at hkl; omega))
    have hju := hV.ju k hk
    have hma := hV.ma k hk
    rw [hget] at hju hma
    obtain ⟨hj1, hj2, hj3, hj4, hj5, hj6⟩ := hju
    have hlb : ∀ y ∈ l, -3 ≤ y.lo ∧ y.hi ≤ 3 := fun y hy => judge_bounds hV y (by rw [← List.take_append_drop (k + 1) p.judges, hdr1]; exact List.mem_append_right _ hy)
    have h8 : 8 ^ l.length ≤ 4096 := Nat.le_trans (Nat.pow_le_pow_right (by omega) (show l.length ≤ 4 by simp only [List.length_cons] at hkl; omega)) (by decide)
    have HSz := Lib.hid (fun m => Nat.le_trans (boxK_len x l k n ⟨pts, r⟩ m ⟨hj1, hj3⟩ hlb) (Nat.mul_le_mul_left 8 h8))
    have HSf := Lib.hid (fun c => Nat.le_trans (boxF_len x l k n ⟨pts, r⟩ c hlb) h8)
    have HS0 := Lib.hid (Nat.le_trans (boxes_len l (k + 1) (n - 1) ⟨pts, r⟩ hlb) h8)
    have HSn := Lib.hid (boxK_succ x l k n ⟨pts, r⟩)
    have HFull := Lib.hid (boxK_full x l k n ⟨pts, r⟩)
    have HCt := Lib.hid (biases_count x)
    have H := Lib.hid h
    have HR := Lib.hid hb
    have HPl := Lib.hid hpl
    obtain ⟨jb, joff, lo, hi, err, ma, mA, mc, hjA, hjb, hc1, hc2, hc3, hc4, hmA, hml, hxx⟩ := h.judges.get hk
    have HX := Lib.hid (hget.symm.trans hxx.out)
    have hxe : x = ⟨lo, hi, err, ma⟩ := hget.symm.trans hxx.out
    subst hxe
    simp only at hj1 hj2 hj3 hj4 hj5 hj6 hma
    subst hjA
    have HMa := Lib.hid hma
    have HM6 := Lib.hid hj6
    have HIA := Lib.hid hmA
    have hkl4 : (k : Int) < p.judges.length := by omega
    have hne : ((k : Int) == (p.judges.length : Int)) = false := by simp; omega
    subst hki
    obtain ⟨w2, hw2⟩ : ∃ w2, (w.alloc (.cells #[.slice iA p.items.length ic, .slice (some ⟨jb, joff, none⟩) p.judges.length jc, .int .i64 p.wrong, .slice gA p.grades.length gc] 26)).alloc (.cells #[.slice bA pts.length bc, .int .i64 (r : Int)] 97) = w2 := ⟨_, rfl⟩
    have HW := Lib.hid (show Ext w w2 by rw [← hw2]; exact (Ext.of_alloc _ _).alloc _)
    have HB := Lib.hid (show ∀ W, Ext w2 W → (W.cell? ⟨w.heap.size, 0, none⟩ = some (.slice iA p.items.length ic) ∧ W.cell? ⟨w.heap.size, 1, none⟩ = some (.slice (some ⟨jb, joff, none⟩) p.judges.length jc) ∧ W.cell? ⟨w.heap.size, 2, none⟩ = some (.int .i64 p.wrong) ∧ W.cell? ⟨w.heap.size, 3, none⟩ = some (.slice gA p.grades.length gc) ∧
        W.cell? ⟨w.heap.size + 1, 0, none⟩ = some (.slice bA pts.length bc) ∧ W.cell? ⟨w.heap.size + 1, 1, none⟩ = some (.int .i64 (r : Int)) ∧ w.heap.size + 1 < W.heap.size) from fun W e => by
      rw [← hw2] at e
      obtain ⟨b1, b2, _, _, b3⟩ := box2 e
      exact ⟨b1 0, b1 1, b1 2, b1 3, b2 0, b2 1, b3⟩)
    have HJ := Lib.hid (show ∀ W, Ext w W → (W.cell? ⟨jb, joff + k * 4, none⟩ = some (.int .i64 lo) ∧ W.cell? ⟨jb, joff + k * 4 + 1, none⟩ = some (.int .i64 hi) ∧ W.cell? ⟨jb, joff + k * 4 + 2, none⟩ = some (.int .i64 err) ∧ W.cell? ⟨jb, joff + k * 4 + 3, none⟩ = some (.slice mA ma.length mc) ∧ jb < W.heap.size) from fun W e =>
      ⟨(e.cellOf (p := ⟨jb, _, none⟩) hjb).trans hc1, (e.cellOf (p := ⟨jb, _, none⟩) hjb).trans hc2, (e.cellOf (p := ⟨jb, _, none⟩) hjb).trans hc3, (e.cellOf (p := ⟨jb, _, none⟩) hjb).trans hc4, Nat.lt_of_lt_of_le hjb e.size⟩)
    clear h hb hpl hdr hkl hget hdr1 hma hj6 hmA hc1 hc2 hc3 hc4 hjb hlb h8 ih hxx HX
    obtain ⟨q0, q1, q2, q3, q4, q5, q6⟩ := HB.out w2 (Ext.refl _)
    obtain ⟨i0, hi0, hz0, hz1, hz2⟩ := info_parts box_info
    obtain ⟨nb, hnb⟩ : ∃ nb, (biases ⟨lo, hi, err, ma⟩).length = nb := ⟨_, rfl⟩
    have HNb := Lib.hid hnb
    have hct := HCt.out
    rw [hnb] at hct HFull
    simp only at hct
    have hnb1 : (nb : Int) ≤ hi + 1 - lo := by omega
    have hnb2 : hi + 1 - lo ≤ (nb : Int) := by omega
    have HL4 := Lib.hid (show pts.length ≤ 4 by have := HPl.out; have := hV.il.2; omega)
    have Hr16 := Lib.hid (show r ||| 1 <<< k < 16 from or_lt (n := 4) hr (shl16 (by omega)))
    have Hbit := Lib.hid (bit_or r k hr (by omega))
    have Hr0 := Lib.hid hr
    clear hct hnb hr
    by_cases hn : 0 < n
    · have HK0 := Lib.hid (show boxK ⟨lo, hi, err, ma⟩ l k n ⟨pts, r⟩ 0 = boxesM l (k + 1) (n - 1) ⟨pts, r⟩ by unfold boxK; rw [if_pos hn]; simp)
      have HC1 := Lib.hid (fun W (e : Ext w W) => IH.out iA (some ⟨jb, joff, none⟩) gA bA ic jc gc bc (k + 1) (n - 1) pts r W (H.out.ext e) (HR.out.ext e) HPl.out Hr0.out (by omega) (by omega) (by omega))
      have hs0 := HS0.out
      generalize boxesM l (k + 1) (n - 1) ⟨pts, r⟩ = B3 at *
      go_enter Try.func67, Try.ntmps67
      go_wp2_with fail
      refine (HC1.out _ HW.out).mono ?_
      rintro e w3 ⟨hE3, v3, rfl, hO3⟩
      obtain ⟨L3, hL3, ho3, hs3⟩ := hO3
      obtain ⟨A3, c3, rfl, _⟩ := own_form ho3
      have HE3 := Lib.hid hE3
      have HN3 := Lib.hid (own_none ho3)
      have HC3 := Lib.hid (own_cells ho3)
      have HL3 := Lib.hid ho3.1
      have HM3 := Lib.hid hL3
      have HSr := Lib.hid hs3
      have H63 := Lib.hid (show 0 + B3.length ≤ maxLen by simp [maxLen]; omega)
      have HS3 := Lib.hid HE3.out.size
      obtain ⟨q0, q1, q2, q3, q4, q5, q6⟩ := HB.out _ HE3.out
      clear hE3 hL3 ho3 hs3
      go_wp2_with ((at_builtin; refine wpList_append_any rfl _ _ 86 rfl w2.heap.size 97 i0 _ 2 32 Try.underlying86 hi0 hz0 hz1 hz2 rfl (by decide) _ _ _ rfl (World.ownsRow_nil _ _ _ _) A3 _ c3 (bxC L3) rfl HN3.out HL3.out HC3.out (bxC_one L3) H63.out (by omega) HS3.out ?_; intro v4 w4 hown4 hgrow4; have HX4 := Lib.hid (Ext.of_grown (w := w3) hgrow4); have HE4 := Lib.hid (HE3.out.trans HX4.out); have HO4 := Lib.hid (show BoxOwn w4 w2.heap.size v4 (boxK ⟨lo, hi, err, ma⟩ l k n ⟨pts, r⟩ 0) from ⟨L3, HM3.out.trans HK0.out.symm, by rw [HK0.out]; simpa using hown4, HSr.out.ext HX4.out⟩); obtain ⟨q0, q1, q2, q3, q4, q5, q6⟩ := HB.out _ HE4.out; obtain ⟨j0, j1, j2, j3, j4⟩ := HJ.out _ (HW.out.trans HE4.out); clear hown4 hgrow4))
      go_loopw [9, 11] (fun v9 v11 wr => ∃ m : Nat, m ≤ nb ∧ v11 = .int .i64 (lo + m) ∧ Ext w2 wr ∧ BoxOwn wr w2.heap.size v9 (boxK ⟨lo, hi, err, ma⟩ l k n ⟨pts, r⟩ m) ∧ Blk wr w4.heap.size 37 #[.int .i64 lo, .int .i64 hi, .int .i64 err, .slice mA ma.length mc]) (fun _ v11 _ => (hi + 1 - intOf v11).toNat)
      case atStart => exact ⟨0, by omega, by simp, HE4.out.alloc _, HO4.out.ext (Ext.of_alloc _ _), Blk.new _ _ _⟩
      case round =>
        obtain ⟨m, hm, rfl, hE, hO, hBk⟩ := hrel
        obtain ⟨A9, c9, rfl⟩ := hO.form
        have HSk := Lib.hid (HSn.out m)
        have hlen := HSz.out m
        have HO := Lib.hid hO
        obtain ⟨bk, hbe⟩ : ∃ bk, boxK ⟨lo, hi, err, ma⟩ l k n ⟨pts, r⟩ m = bk := ⟨_, rfl⟩
        have HBe := Lib.hid hbe
        rw [hbe] at hO HO HSk hlen ⊢
        clear hbe
        have HE := Lib.hid hE
        have HBk := Lib.hid hBk
        obtain ⟨q0, q1, q2, q3, q4, q5, q6⟩ := HB.out _ hE
        have g0 : wr.cell? ⟨w4.heap.size, 0, none⟩ = some (.int .i64 lo) := hBk.cell 0
        have g1 : wr.cell? ⟨w4.heap.size, 1, none⟩ = some (.int .i64 hi) := hBk.cell 1
        have g2 : wr.cell? ⟨w4.heap.size, 2, none⟩ = some (.int .i64 err) := hBk.cell 2
        have g3 : wr.cell? ⟨w4.heap.size, 3, none⟩ = some (.slice mA ma.length mc) := hBk.cell 3
        by_cases hlt : m < nb
        · have hle : lo + (m : Int) ≤ hi := by omega
          have HSm := Lib.hid (HSk.out (by rw [HNb.out]; exact hlt))
          have HCut := Lib.hid (cut_any bA mA bc mc lo hi err ma pts (lo + m) wr (RowAt.spans (HR.out.ext (HW.out.trans hE)) rfl) (HIA.out.ext (HW.out.trans hE)) HL4.out (by rw [HM6.out, HPl.out]) (fun j hj => HMa.out j (by have := HPl.out; omega)) ⟨hj4, hj5⟩ ⟨by omega, by omega⟩)
          clear hE hO hBk HSk
          go_wp2_with fail
          refine HCut.out.mono ?_
          rintro e w5 ⟨hE5, (⟨hok, A5, c5, rfl, hS5⟩ | ⟨hno, rfl⟩)⟩
          · have HSy := Lib.hid (show boxK ⟨lo, hi, err, ma⟩ l k n ⟨pts, r⟩ (m + 1) = bk ++ boxesM l (k + 1) n ⟨cutL ⟨lo, hi, err, ma⟩ (lo + m) pts, r ||| 1 <<< k⟩ by rw [HSm.out]; unfold boxF; rw [if_pos hok])
            have HF5 := Lib.hid (show (boxesM l (k + 1) n ⟨cutL ⟨lo, hi, err, ma⟩ (lo + m) pts, r ||| 1 <<< k⟩).length ≤ 4096 by have := HSf.out (lo + m); unfold boxF at this; rw [if_pos hok] at this; exact this)
            have hP5 := cutL_len ⟨lo, hi, err, ma⟩ (lo + m) pts
            generalize cutL ⟨lo, hi, err, ma⟩ (lo + m) pts = P5 at *
            have HC2 := IH.out iA (some ⟨jb, joff, none⟩) gA A5 ic jc gc c5 (k + 1) n P5 (r ||| 1 <<< k) w5 (H.out.ext ((HW.out.trans HE.out).trans hE5)) (by rw [hP5]; exact hS5) (hP5.trans HPl.out) (Hr16.out) (by omega) (by omega) (by omega)
            rw [hP5] at HC2
            have HC3 := Lib.hid HC2
            clear HC2
            have HE5 := Lib.hid (HE.out.trans hE5)
            have HX5 := Lib.hid hE5
            obtain ⟨q0, q1, q2, q3, q4, q5, q6⟩ := HB.out _ HE5.out
            have g0 := (hE5.cellOf (p := ⟨w4.heap.size, 0, none⟩) HBk.out.lt).trans g0
            have g1 := (hE5.cellOf (p := ⟨w4.heap.size, 1, none⟩) HBk.out.lt).trans g1
            have g2 := (hE5.cellOf (p := ⟨w4.heap.size, 2, none⟩) HBk.out.lt).trans g2
            have g3 := (hE5.cellOf (p := ⟨w4.heap.size, 3, none⟩) HBk.out.lt).trans g3
            generalize boxesM l (k + 1) n ⟨P5, r ||| 1 <<< k⟩ = B6 at *
            have hF5 := HF5.out
            clear hE5 hok hS5 hP5
            go_wp2_with fail
            rw [Hbit.out]
            refine HC3.out.mono ?_
            rintro e w6 ⟨hE6, v6, rfl, hO6⟩
            obtain ⟨L6, hL6, ho6, hs6⟩ := hO6
            obtain ⟨A6, c6, rfl, _⟩ := own_form ho6
            obtain ⟨L, hL, ho, hs⟩ := HO.out
            have HE6 := Lib.hid (HE5.out.trans hE6)
            have HX6 := Lib.hid (HX5.out.trans hE6)
            have HN6 := Lib.hid (own_none ho6)
            have HC6 := Lib.hid (own_cells ho6)
            have HL6 := Lib.hid ho6.1
            have HLa := Lib.hid (show (L ++ L6).map (·.1) = bk ++ B6 by rw [List.map_append, hL, hL6])
            have HOw := Lib.hid (own_ext ho HX6.out)
            have HSr := Lib.hid ((hs.ext HX6.out).app hs6)
            have H63 := Lib.hid (show bk.length + B6.length ≤ maxLen by simp [maxLen]; omega)
            have HS6 := Lib.hid HE6.out.size
            clear hE6 hL6 ho6 hs6 hL ho hs
            go_wp2_with (at_builtin; refine wpList_append_any rfl _ _ 86 rfl w2.heap.size 97 i0 _ 2 32 Try.underlying86 hi0 hz0 hz1 hz2 rfl (by decide) _ _ _ rfl HOw.out A6 _ c6 (bxC L6) rfl HN6.out HL6.out HC6.out (bxC_one L6) H63.out (by omega) HS6.out ?_; intro v7 w7 hown7 hgrow7)
            have HE7 := Lib.hid (ext_append HE6.out HOw.out hgrow7)
            have HB7 := Lib.hid ((HBk.out.ext HX6.out).append HOw.out (by decide) hgrow7)
            have HO7 := Lib.hid (show BoxOwn w7 w2.heap.size v7 (boxK ⟨lo, hi, err, ma⟩ l k n ⟨pts, r⟩ (m + 1)) from ⟨L ++ L6, HLa.out.trans HSy.out.symm, by rw [HSy.out, List.length_append, bxC_app]; exact hown7, HSr.out.append HOw.out hgrow7⟩)
            clear hown7 hgrow7
            go_wp2
            go_roundw
            case rel => exact ⟨m + 1, by omega, by simp [Int.add_assoc], HE7.out, HO7.out, HB7.out⟩
            case measure => simp [intOf]; omega
          · have HSy := Lib.hid (show boxK ⟨lo, hi, err, ma⟩ l k n ⟨pts, r⟩ (m + 1) = bk by rw [HSm.out]; unfold boxF; rw [hno]; simp)
            have HE5 := Lib.hid (HE.out.trans hE5)
            have HO5 := Lib.hid (HO.out.ext hE5)
            have HB5 := Lib.hid (HBk.out.ext hE5)
            clear hE5 hno
            go_wp2
            go_roundw
            case rel => exact ⟨m + 1, by omega, by simp [Int.add_assoc], HE5.out, by rw [HSy.out]; exact HO5.out, HB5.out⟩
            case measure => simp [intOf]; omega
        · have hgt : hi < lo + (m : Int) := by omega
          have hmn : nb = m := by omega
          have HFl := Lib.hid (show bk = boxesM (⟨lo, hi, err, ma⟩ :: l) k n ⟨pts, r⟩ by rw [← HBe.out, ← HFull.out, hmn])
          clear hE hO hBk HSk hmn
          go_wp2
          go_ret
          exact (show BoxesPost (boxesM (⟨lo, hi, err, ma⟩ :: l) k n ⟨pts, r⟩) w (.returned (.slice A9 bk.length c9)) wr from ⟨HW.out.trans HE.out, _, rfl, by rw [← HFl.out]; exact HO.out.mono HW.out.size⟩)
    · have HK0 := Lib.hid (show boxK ⟨lo, hi, err, ma⟩ l k n ⟨pts, r⟩ 0 = [] by unfold boxK; rw [if_neg hn]; simp)
      obtain ⟨j0, j1, j2, j3, j4⟩ := HJ.out _ HW.out
      go_enter Try.func67, Try.ntmps67
      go_wp2_with fail
      go_loopw [9, 11] (fun v9 v11 wr => ∃ m : Nat, m ≤ nb ∧ v11 = .int .i64 (lo + m) ∧ Ext w2 wr ∧ BoxOwn wr w2.heap.size v9 (boxK ⟨lo, hi, err, ma⟩ l k n ⟨pts, r⟩ m) ∧ Blk wr w2.heap.size 37 #[.int .i64 lo, .int .i64 hi, .int .i64 err, .slice mA ma.length mc]) (fun _ v11 _ => (hi + 1 - intOf v11).toNat)
      case atStart => exact ⟨0, by omega, by simp, (Ext.refl _).alloc _, (by rw [HK0.out]; exact BoxOwn.nil _ _), Blk.new _ _ _⟩
      case round =>
        obtain ⟨m, hm, rfl, hE, hO, hBk⟩ := hrel
        obtain ⟨A9, c9, rfl⟩ := hO.form
        have HSk := Lib.hid (HSn.out m)
        have hlen := HSz.out m
        have HO := Lib.hid hO
        obtain ⟨bk, hbe⟩ : ∃ bk, boxK ⟨lo, hi, err, ma⟩ l k n ⟨pts, r⟩ m = bk := ⟨_, rfl⟩
        have HBe := Lib.hid hbe
        rw [hbe] at hO HO HSk hlen ⊢
        clear hbe
        have HE := Lib.hid hE
        have HBk := Lib.hid hBk
        obtain ⟨q0, q1, q2, q3, q4, q5, q6⟩ := HB.out _ hE
        have g0 : wr.cell? ⟨w2.heap.size, 0, none⟩ = some (.int .i64 lo) := hBk.cell 0
        have g1 : wr.cell? ⟨w2.heap.size, 1, none⟩ = some (.int .i64 hi) := hBk.cell 1
        have g2 : wr.cell? ⟨w2.heap.size, 2, none⟩ = some (.int .i64 err) := hBk.cell 2
        have g3 : wr.cell? ⟨w2.heap.size, 3, none⟩ = some (.slice mA ma.length mc) := hBk.cell 3
        by_cases hlt : m < nb
        · have hle : lo + (m : Int) ≤ hi := by omega
          have HSm := Lib.hid (HSk.out (by rw [HNb.out]; exact hlt))
          have HCut := Lib.hid (cut_any bA mA bc mc lo hi err ma pts (lo + m) wr (RowAt.spans (HR.out.ext (HW.out.trans hE)) rfl) (HIA.out.ext (HW.out.trans hE)) HL4.out (by rw [HM6.out, HPl.out]) (fun j hj => HMa.out j (by have := HPl.out; omega)) ⟨hj4, hj5⟩ ⟨by omega, by omega⟩)
          clear hE hO hBk HSk
          go_wp2_with fail
          refine HCut.out.mono ?_
          rintro e w5 ⟨hE5, (⟨hok, A5, c5, rfl, hS5⟩ | ⟨hno, rfl⟩)⟩
          · have HSy := Lib.hid (show boxK ⟨lo, hi, err, ma⟩ l k n ⟨pts, r⟩ (m + 1) = bk ++ boxesM l (k + 1) n ⟨cutL ⟨lo, hi, err, ma⟩ (lo + m) pts, r ||| 1 <<< k⟩ by rw [HSm.out]; unfold boxF; rw [if_pos hok])
            have HF5 := Lib.hid (show (boxesM l (k + 1) n ⟨cutL ⟨lo, hi, err, ma⟩ (lo + m) pts, r ||| 1 <<< k⟩).length ≤ 4096 by have := HSf.out (lo + m); unfold boxF at this; rw [if_pos hok] at this; exact this)
            have hP5 := cutL_len ⟨lo, hi, err, ma⟩ (lo + m) pts
            generalize cutL ⟨lo, hi, err, ma⟩ (lo + m) pts = P5 at *
            have HC2 := IH.out iA (some ⟨jb, joff, none⟩) gA A5 ic jc gc c5 (k + 1) n P5 (r ||| 1 <<< k) w5 (H.out.ext ((HW.out.trans HE.out).trans hE5)) (by rw [hP5]; exact hS5) (hP5.trans HPl.out) (Hr16.out) (by omega) (by omega) (by omega)
            rw [hP5] at HC2
            have HC3 := Lib.hid HC2
            clear HC2
            have HE5 := Lib.hid (HE.out.trans hE5)
            have HX5 := Lib.hid hE5
            obtain ⟨q0, q1, q2, q3, q4, q5, q6⟩ := HB.out _ HE5.out
            have g0 := (hE5.cellOf (p := ⟨w2.heap.size, 0, none⟩) HBk.out.lt).trans g0
            have g1 := (hE5.cellOf (p := ⟨w2.heap.size, 1, none⟩) HBk.out.lt).trans g1
            have g2 := (hE5.cellOf (p := ⟨w2.heap.size, 2, none⟩) HBk.out.lt).trans g2
            have g3 := (hE5.cellOf (p := ⟨w2.heap.size, 3, none⟩) HBk.out.lt).trans g3
            generalize boxesM l (k + 1) n ⟨P5, r ||| 1 <<< k⟩ = B6 at *
            have hF5 := HF5.out
            clear hE5 hok hS5 hP5
            go_wp2_with fail
            rw [Hbit.out]
            refine HC3.out.mono ?_
            rintro e w6 ⟨hE6, v6, rfl, hO6⟩
            obtain ⟨L6, hL6, ho6, hs6⟩ := hO6
            obtain ⟨A6, c6, rfl, _⟩ := own_form ho6
            obtain ⟨L, hL, ho, hs⟩ := HO.out
            have HE6 := Lib.hid (HE5.out.trans hE6)
            have HX6 := Lib.hid (HX5.out.trans hE6)
            have HN6 := Lib.hid (own_none ho6)
            have HC6 := Lib.hid (own_cells ho6)
            have HL6 := Lib.hid ho6.1
            have HLa := Lib.hid (show (L ++ L6).map (·.1) = bk ++ B6 by rw [List.map_append, hL, hL6])
            have HOw := Lib.hid (own_ext ho HX6.out)
            have HSr := Lib.hid ((hs.ext HX6.out).app hs6)
            have H63 := Lib.hid (show bk.length + B6.length ≤ maxLen by simp [maxLen]; omega)
            have HS6 := Lib.hid HE6.out.size
            clear hE6 hL6 ho6 hs6 hL ho hs
            go_wp2_with (at_builtin; refine wpList_append_any rfl _ _ 86 rfl w2.heap.size 97 i0 _ 2 32 Try.underlying86 hi0 hz0 hz1 hz2 rfl (by decide) _ _ _ rfl HOw.out A6 _ c6 (bxC L6) rfl HN6.out HL6.out HC6.out (bxC_one L6) H63.out (by omega) HS6.out ?_; intro v7 w7 hown7 hgrow7)
            have HE7 := Lib.hid (ext_append HE6.out HOw.out hgrow7)
            have HB7 := Lib.hid ((HBk.out.ext HX6.out).append HOw.out (by decide) hgrow7)
            have HO7 := Lib.hid (show BoxOwn w7 w2.heap.size v7 (boxK ⟨lo, hi, err, ma⟩ l k n ⟨pts, r⟩ (m + 1)) from ⟨L ++ L6, HLa.out.trans HSy.out.symm, by rw [HSy.out, List.length_append, bxC_app]; exact hown7, HSr.out.append HOw.out hgrow7⟩)
            clear hown7 hgrow7
            go_wp2
            go_roundw
            case rel => exact ⟨m + 1, by omega, by simp [Int.add_assoc], HE7.out, HO7.out, HB7.out⟩
            case measure => simp [intOf]; omega
          · have HSy := Lib.hid (show boxK ⟨lo, hi, err, ma⟩ l k n ⟨pts, r⟩ (m + 1) = bk by rw [HSm.out]; unfold boxF; rw [hno]; simp)
            have HE5 := Lib.hid (HE.out.trans hE5)
            have HO5 := Lib.hid (HO.out.ext hE5)
            have HB5 := Lib.hid (HBk.out.ext hE5)
            clear hE5 hno
            go_wp2
            go_roundw
            case rel => exact ⟨m + 1, by omega, by simp [Int.add_assoc], HE5.out, by rw [HSy.out]; exact HO5.out, HB5.out⟩
            case measure => simp [intOf]; omega
        · have hgt : hi < lo + (m : Int) := by omega
          have hmn : nb = m := by omega
          have HFl := Lib.hid (show bk = boxesM (⟨lo, hi, err, ma⟩ :: l) k n ⟨pts, r⟩ by rw [← HBe.out, ← HFull.out, hmn])
          clear hE hO hBk HSk hmn
          go_wp2
          go_ret
          exact (show BoxesPost (boxesM (⟨lo, hi, err, ma⟩ :: l) k n ⟨pts, r⟩) w (.returned (.slice A9 bk.length c9)) wr from ⟨HW.out.trans HE.out, _, rfl, by rw [← HFl.out]; exact HO.out.mono HW.out.size⟩)
end Go.Proofs.Ytbpilgflejdhaaa
/-! Exams: the walks over the reference's all, known. -/
namespace Go.Proofs.Ytbpilgflejdhaaa
open Go.RowKit

def spansTo (p : Paper) (k : Nat) : List (Int × Int) := (p.items.take k).map (fun i => (0, i.most))
theorem spansTo_succ (p : Paper) (k : Nat) (h : k < p.items.length) : spansTo p (k + 1) = spansTo p k ++ [(0, (p.items.getD k default).most)] := by
  unfold spansTo
  rw [List.take_succ_eq_append_getElem h, List.map_append]
  simp [List.getD, h]
theorem spansTo_full (p : Paper) : spansTo p p.items.length = (box0 p).pts := by unfold spansTo box0; rw [List.take_length]

set_option maxHeartbeats 8000000 in
set_option maxRecDepth 100000 in
theorem all_any (p : Paper) (hV : Valid p) (iA jA gA : Option Addr) (ic jc gc : Nat) (n : Int) (w : World) (h : PaperAt w iA jA gA p) (hn0 : 0 ≤ n) (hn1 : n ≤ 100) :
    Calls Try.prog 53 #[.agg #[.slice iA p.items.length ic, .slice jA p.judges.length jc, .int .i64 p.wrong, .slice gA p.grades.length gc], .int .i64 n] w (BoxesPost (allM p n) w) := by
  obtain ⟨i0, hi0, hz0, hz1, hz2⟩ := info_parts span_info
  have hil4 := hV.il.2
  have HIt := Lib.hid h.items
  have HC := Lib.hid (fun W (bA : Option Addr) bc (e : Ext w W) hb => boxes_any p hV p.judges 0 (by simp) (by simp) iA jA gA bA ic jc gc bc 0 n (box0 p).pts 0 W (h.ext e) hb (by simp [box0]) (by omega) rfl hn0 hn1)
  have HAll := Lib.hid (show boxesM p.judges 0 n ⟨(box0 p).pts, 0⟩ = allM p n from rfl)
  have HSn := Lib.hid (spansTo_succ p)
  have HFl := Lib.hid (spansTo_full p)
  have HLn := Lib.hid (show (box0 p).pts.length = p.items.length by simp [box0])
  clear h
  obtain ⟨w1, hw1⟩ : ∃ w1, (w.alloc (.cells #[.slice iA p.items.length ic, .slice jA p.judges.length jc, .int .i64 p.wrong, .slice gA p.grades.length gc] 26)) = w1 := ⟨_, rfl⟩
  have HW := Lib.hid (show Ext w w1 by rw [← hw1]; exact Ext.of_alloc _ _)
  have HB := Lib.hid (show ∀ W, Ext w1 W → (W.cell? ⟨w.heap.size, 0, none⟩ = some (.slice iA p.items.length ic) ∧ W.cell? ⟨w.heap.size, 1, none⟩ = some (.slice jA p.judges.length jc) ∧ W.cell? ⟨w.heap.size, 2, none⟩ = some (.int .i64 p.wrong) ∧ W.cell? ⟨w.heap.size, 3, none⟩ = some (.slice gA p.grades.length gc) ∧ w.heap.size < W.heap.size) from fun W e => by
    rw [← hw1] at e
    exact ⟨e.box 0, e.box 1, e.box 2, e.box 3, e.lt⟩)
  obtain ⟨q0, q1, q2, q3, q4⟩ := HB.out w1 (Ext.refl _)
  go_enter Try.func53, Try.ntmps53
  go_wp2_with fail
  clear hw1
  go_loopw [6] (fun v6 wr => ∃ k : Nat, k ≤ p.items.length ∧ v6 = .int .i64 k ∧ Ext w1 wr ∧ ∃ A c, Blk wr w1.heap.size 97 #[.slice A k c, .int .i64 0] ∧ wr.ownsRow (w1.heap.size + 1) 35 2 (.slice A k c) k (spanCells (spansTo p k))) (fun v6 _ => p.items.length - (intOf v6).toNat)
  case atStart => exact ⟨0, by omega, rfl, Ext.of_alloc _ _, none, 0, Blk.new _ _ _, World.ownsRow_nil _ _ _ _⟩
  case round =>
    obtain ⟨k, hk, rfl, hE, A, c, hB, hO⟩ := hrel
    have HE := Lib.hid hE
    have HBk := Lib.hid hB
    have HO := Lib.hid hO
    obtain ⟨q0, q1, q2, q3, q4⟩ := HB.out wr hE
    have g0 : wr.cell? ⟨w1.heap.size, 0, none⟩ = some (.slice A k c) := hB.cell 0
    have g1 : wr.cell? ⟨w1.heap.size, 1, none⟩ = some (.int .i64 0) := hB.cell 1
    by_cases hlt : (k : Int) < p.items.length
    · obtain ⟨ib, ioff, wt, mo, rfl, hib, hi1, hi2, _, hmo⟩ := (HIt.out.ext (HW.out.trans hE)).get (show k < p.items.length by omega)
      have HSk := Lib.hid (HSn.out k (by omega))
      clear hE hB hO
      have g2 : w1.heap.size < wr.heap.size := HBk.out.lt
      have HK := Lib.hid (show ∀ W, Ext wr W → (W.cell? ⟨w1.heap.size, 0, none⟩ = some (.slice A k c) ∧ W.cell? ⟨w.heap.size, 0, none⟩ = some (.slice (some ⟨ib, ioff, none⟩) p.items.length ic) ∧ W.cell? ⟨ib, ioff + k * 2 + 1, none⟩ = some (.int .i64 mo)) from fun W e =>
        ⟨(e.cellOf (p := ⟨w1.heap.size, 0, none⟩) g2).trans g0, (e.cellOf (p := ⟨w.heap.size, 0, none⟩) q4).trans q0, (e.cellOf (p := ⟨ib, _, none⟩) hib).trans hi2⟩)
      have H63 := Lib.hid (show k + 1 ≤ maxLen by simp [maxLen]; omega)
      go_wp2_with fail
      go_region_law ((refine step_append_own (by rfl) _ _ 58 (by rfl) (w1.heap.size + 1) 35 i0 _ 2 16 Try.underlying58 hi0 hz0 hz1 hz2 rfl (by decide) _ _ _ (by rfl) (own_ext HO.out (by repeat (first | with_reducible exact Ext.refl _ | with_reducible refine Ext.drew ?_ | with_reducible refine Ext.alloc ?_ _))) ⟨wr.heap.size, 0, none⟩ 1 1 [.int .i64 0, .int .i64 mo] (by rfl) (by rfl) (Blk.news (t := 35) (by first | ((with_reducible refine Blk.drew ?_); (with_reducible refine Blk.new' ?_); rfl) | ((with_reducible refine Blk.new' ?_); rfl))) (by simp [Value.oneCell']) H63.out (by omega) (by simp; omega) ?_; intro v5 w5 hown5 hgrow5; obtain ⟨A5, c5, rfl, _⟩ := own_form hown5; have hB5 := Blk.append (HBk.out.ext (by repeat (first | with_reducible exact Ext.refl _ | with_reducible refine Ext.drew ?_ | with_reducible refine Ext.alloc ?_ _))) (own_ext HO.out (by repeat (first | with_reducible exact Ext.refl _ | with_reducible refine Ext.drew ?_ | with_reducible refine Ext.alloc ?_ _))) (by decide) hgrow5; have hE5 := ext_append (HE.out.trans (by repeat (first | with_reducible exact Ext.refl _ | with_reducible refine Ext.drew ?_ | with_reducible refine Ext.alloc ?_ _))) (own_base (own_ext HO.out (by repeat (first | with_reducible exact Ext.refl _ | with_reducible refine Ext.drew ?_ | with_reducible refine Ext.alloc ?_ _))) (Nat.le_succ _)) hgrow5; have z5 : w5.cell? ⟨w1.heap.size, 0, none⟩ = some (.slice A k c) := hB5.cell 0; have zf5 : w5.frozen? ⟨w1.heap.size, 0, none⟩ = false := hB5.free 0; have HB5 := Lib.hid hB5; have HE5 := Lib.hid hE5; have HO5 := Lib.hid hown5; clear hB5 hE5 hown5 hgrow5))
      all_goals
        have HO6 := Lib.hid (ownsRow_setCell_other HO5.out (a := ⟨w1.heap.size, 0, none⟩) (fun e => by have := (HO5.out.lt _ e).1; simp at this; omega) (.slice A5 (k + 1) c5))
        have HE6 := Lib.hid (HE5.out.setCell (p := ⟨w1.heap.size, 0, none⟩) (Nat.le_refl _) (.slice A5 (k + 1) c5))
        have HB6 := Lib.hid (HB5.out.set 0 (.slice A5 (k + 1) c5))
        go_wp2
        go_roundw
        case rel => exact ⟨k + 1, by omega, by go_num, HE6.out, A5, c5, HB6.out, by rw [HSk.out, spanCells_snoc, hmo.out]; exact HO6.out⟩
        case measure => simp [intOf]; omega
    · obtain rfl : k = p.items.length := by omega
      have HC1 := Lib.hid (HC.out wr A c (HW.out.trans hE) (fun _ => by rw [HLn.out, ← HFl.out]; exact own_base hO (Nat.zero_le _)))
      rw [HAll.out, HLn.out] at HC1
      clear hE hB hO
      go_wp2_with fail
      refine HC1.out.mono ?_
      rintro e w5 ⟨hE5, v5, rfl, hO5⟩
      obtain ⟨A5, c5, rfl⟩ := hO5.form
      have HE5 := Lib.hid hE5
      have HO5 := Lib.hid hO5
      clear hE5 hO5
      go_wp2
      go_ret
      exact (show BoxesPost (allM p n) w (.returned (.slice A5 (allM p n).length c5)) w5 from ⟨(HW.out.trans HE.out).trans HE5.out, _, rfl, HO5.out.mono ((HW.out.trans HE.out).size)⟩)
end Go.Proofs.Ytbpilgflejdhaaa
/-! Exams: the walks over the reference's known, Fewest. -/
namespace Go.Proofs.Ytbpilgflejdhaaa
open Go.RowKit

set_option maxHeartbeats 2000000 in
theorem knownB_err (iA jA gA : Option Addr) (ic jc gc : Nat) (p : Paper) (c : Int) (w : World) (h : PaperAt w iA jA gA p) (hk : knownE p true = c) (hc : c ≠ 0) :
    Calls Try.prog 65 #[.agg #[.slice iA p.items.length ic, .slice jA p.judges.length jc, .int .i64 p.wrong, .slice gA p.grades.length gc]] w fun e w' => e = .returned (.tuple #[.slice none 0 0, .int .i64 c]) ∧ Ext w w' := by
  have HX := Lib.hid (Ext.of_alloc w (.cells #[.slice iA p.items.length ic, .slice jA p.judges.length jc, .int .i64 p.wrong, .slice gA p.grades.length gc] 26))
  have HC := Lib.hid (checkR_any iA jA gA ic jc gc p _ (h.ext HX.out))
  have H := Lib.hid h
  clear h
  rcases knownE_err hk hc with ⟨hv, rfl⟩ | ⟨hv, ht, rfl⟩ | ⟨hv, _, hp, rfl⟩
  · rw [show checkE p = 90 by simp [checkE, hv]] at HC
    clear hk hc hv
    go_enter Try.func65, Try.ntmps65
    go_wp2_with fail
    refine HC.out.mono ?_
    rintro e w1 ⟨rfl, hE1⟩
    have HE1 := Lib.hid hE1
    clear hE1
    go_wp2
    go_ret2
    exact ⟨rfl, HX.out.trans HE1.out⟩
  · cases ht
  · have hV := valid_of hv
    rw [show checkE p = 0 by simp [checkE, hv]] at HC
    have hnil := (all_nil_poss hV).2 hp
    have HA := Lib.hid (fun W (e : Ext w W) => all_any p hV iA jA gA ic jc gc p.wrong W (H.out.ext e) hV.wr.1 (by have := hV.wr.2; omega))
    rw [hnil] at HA
    clear hk hc hv hp hnil
    go_enter Try.func65, Try.ntmps65
    go_wp2_with fail
    refine HC.out.mono ?_
    rintro e w1 ⟨rfl, hE1⟩
    have HE1 := Lib.hid hE1
    have b0 := hE1.box 0
    have b1 := hE1.box 1
    have b2 := hE1.box 2
    have b3 := hE1.box 3
    clear hE1
    go_wp2_with fail
    refine (HA.out _ (HX.out.trans HE1.out)).mono ?_
    rintro e w2 ⟨hE2, v2, rfl, hO2⟩
    obtain ⟨A2, c2, rfl⟩ := hO2.form
    have HE2 := Lib.hid hE2
    clear hE2 hO2
    go_wp2
    go_ret2
    exact ⟨rfl, (HX.out.trans HE1.out).trans HE2.out⟩

set_option maxHeartbeats 2000000 in
theorem knownB_ok (iA jA gA : Option Addr) (ic jc gc : Nat) (p : Paper) (w : World) (h : PaperAt w iA jA gA p) (hk : knownE p true = 0) :
    Calls Try.prog 65 #[.agg #[.slice iA p.items.length ic, .slice jA p.judges.length jc, .int .i64 p.wrong, .slice gA p.grades.length gc]] w fun e w' => ∃ A c, e = .returned (.tuple #[.slice A (allM p p.wrong).length c, .int .i64 0]) ∧ BoxOwn w' w.heap.size (.slice A (allM p p.wrong).length c) (allM p p.wrong) ∧ Ext w w' := by
  have HX := Lib.hid (Ext.of_alloc w (.cells #[.slice iA p.items.length ic, .slice jA p.judges.length jc, .int .i64 p.wrong, .slice gA p.grades.length gc] 26))
  have HC := Lib.hid (checkR_any iA jA gA ic jc gc p _ (h.ext HX.out))
  obtain ⟨hv, _, hp⟩ := knownE_ok hk
  have hV := valid_of hv
  rw [show checkE p = 0 by simp [checkE, hv]] at HC
  have hnil : allM p p.wrong ≠ [] := fun e => by rw [(all_nil_poss hV).1 e] at hp; cases hp
  have HA := Lib.hid (fun W (e : Ext w W) => all_any p hV iA jA gA ic jc gc p.wrong W (h.ext e) hV.wr.1 (by have := hV.wr.2; omega))
  have hpos : (((allM p p.wrong).length : Int) == 0) = false := by
    have := List.length_pos_iff.2 hnil
    simp
    exact hnil
  clear hk hv hp hnil h
  generalize allM p p.wrong = L at *
  go_enter Try.func65, Try.ntmps65
  go_wp2_with fail
  refine HC.out.mono ?_
  rintro e w1 ⟨rfl, hE1⟩
  have HE1 := Lib.hid hE1
  have b0 := hE1.box 0
  have b1 := hE1.box 1
  have b2 := hE1.box 2
  have b3 := hE1.box 3
  clear hE1
  go_wp2_with fail
  refine (HA.out _ (HX.out.trans HE1.out)).mono ?_
  rintro e w2 ⟨hE2, v2, rfl, hO2⟩
  obtain ⟨A2, c2, rfl⟩ := hO2.form
  have HE2 := Lib.hid hE2
  have HO2 := Lib.hid hO2
  clear hE2 hO2
  go_wp2
  go_ret2
  exact ⟨A2, c2, rfl, HO2.out.mono ((HX.out.trans HE1.out).size), (HX.out.trans HE1.out).trans HE2.out⟩

set_option maxHeartbeats 4000000 in
theorem fewestB_any (iA jA gA : Option Addr) (ic jc gc : Nat) (p : Paper) (n c : Int) (w : World) (h : PaperAt w iA jA gA p) (hr : fewestM p = (n, c)) :
    Calls Try.prog 44 #[.agg #[.slice iA p.items.length ic, .slice jA p.judges.length jc, .int .i64 p.wrong, .slice gA p.grades.length gc]] w fun e w' => e = .returned (.tuple #[.int .i64 n, .int .i64 c]) ∧ Ext w w' := by
  have HX := Lib.hid (Ext.of_alloc w (.cells #[.slice iA p.items.length ic, .slice jA p.judges.length jc, .int .i64 p.wrong, .slice gA p.grades.length gc] 26))
  have HC := Lib.hid (checkR_any iA jA gA ic jc gc p _ (h.ext HX.out))
  unfold fewestM at hr
  cases hv : validB p
  · rw [hv] at hr
    simp only [Bool.false_eq_true, if_false] at hr
    injection hr with h1 h2
    subst h1
    subst h2
    rw [show checkE p = 90 by simp [checkE, hv]] at HC
    clear h hv
    go_enter Try.func44, Try.ntmps44
    go_wp2_with fail
    refine HC.out.mono ?_
    rintro e w1 ⟨rfl, hE1⟩
    have HE1 := Lib.hid hE1
    clear hE1
    go_wp2
    go_ret2
    exact ⟨rfl, HX.out.trans HE1.out⟩
  · rw [hv] at hr
    simp only [if_true] at hr
    injection hr with h1 h2
    subst h2
    have hV := valid_of hv
    rw [show checkE p = 0 by simp [checkE, hv]] at HC
    obtain ⟨hf, t, ht, he⟩ := open_fewest hV
    have hb0 : 0 ≤ n := by omega
    have hb1 : n ≤ 4 := by have := wrongsTo_le p t p.judges.length; unfold wrongs at he; have := hV.jl; omega
    have HN := Lib.hid (show ∀ k : Nat, allM p k = [] ↔ (k : Int) < n from fun k => by rw [← h1]; exact all_nil_fewest hV (by omega))
    have HA := Lib.hid (fun W (k : Int) (e : Ext w W) h0 h4 => all_any p hV iA jA gA ic jc gc k W (h.ext e) h0 h4)
    clear h hv hf ht he h1
    go_enter Try.func44, Try.ntmps44
    go_wp2_with fail
    refine HC.out.mono ?_
    rintro e w1 ⟨rfl, hE1⟩
    have HE1 := Lib.hid (HX.out.trans hE1)
    have HBx := Lib.hid (show ∀ W, Ext w1 W → (W.cell? ⟨w.heap.size, 0, none⟩ = some (.slice iA p.items.length ic) ∧ W.cell? ⟨w.heap.size, 1, none⟩ = some (.slice jA p.judges.length jc) ∧ W.cell? ⟨w.heap.size, 2, none⟩ = some (.int .i64 p.wrong) ∧ W.cell? ⟨w.heap.size, 3, none⟩ = some (.slice gA p.grades.length gc)) from fun W e =>
      ⟨(hE1.trans e).box 0, (hE1.trans e).box 1, (hE1.trans e).box 2, (hE1.trans e).box 3⟩)
    clear hE1
    go_wp2_with fail
    go_loopw [4] (fun v4 wr => ∃ k : Nat, (k : Int) ≤ n ∧ v4 = .int .i64 k ∧ Ext w1 wr) (fun v4 _ => (n - intOf v4).toNat)
    case atStart => exact ⟨0, by omega, rfl, Ext.refl _⟩
    case round =>
      obtain ⟨k, hk, rfl, hE⟩ := hrel
      have HE := Lib.hid hE
      obtain ⟨b0, b1, b2, b3⟩ := HBx.out _ hE
      have HA2 := Lib.hid (HA.out wr k (HE1.out.trans hE) (by omega) (by omega))
      clear hE
      by_cases hlt : (k : Int) < n
      · have hnil := (HN.out k).2 hlt
        rw [hnil] at HA2
        clear hnil
        go_wp2_with fail
        refine HA2.out.mono ?_
        rintro e w2 ⟨hE2, v2, rfl, hO2⟩
        obtain ⟨A2, c2, rfl⟩ := hO2.form
        have HE2 := Lib.hid (HE.out.trans hE2)
        clear hE2 hO2
        go_wp2
        go_roundw
        case rel => exact ⟨k + 1, by omega, by go_num, HE2.out⟩
        case measure => simp [intOf]; omega
      · have hkn : n = k := by omega
        have hnil : allM p k ≠ [] := fun e => hlt ((HN.out k).1 e)
        have hpos : (((allM p k).length : Int) == 0) = false := by simp; exact hnil
        clear hnil
        subst hkn
        generalize allM p k = L at *
        go_wp2_with fail
        refine HA2.out.mono ?_
        rintro e w2 ⟨hE2, v2, rfl, hO2⟩
        obtain ⟨A2, c2, rfl⟩ := hO2.form
        have HE2 := Lib.hid (HE.out.trans hE2)
        clear hE2 hO2
        go_wp2
        go_ret2
        exact ⟨rfl, HE1.out.trans HE2.out⟩
end Go.Proofs.Ytbpilgflejdhaaa
