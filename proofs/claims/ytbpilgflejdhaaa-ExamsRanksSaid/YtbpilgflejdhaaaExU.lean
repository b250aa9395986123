/- Exams: the walk over Grade. / Exams: the walk over Points. / Exams: the walk over Points. -/
import Derived.Test.YtbpilgflejdhaaaExS
import Derived.Deep.RegionHeld3
import Derived.Test.YtbpilgflejdhaaaExT
import Derived.Test.YtbpilgflejdhaaaExV
import Derived.Deep.MidRow
/-! Exams: the walk over Grade. -/
namespace Go.Proofs.Ytbpilgflejdhaaa
open Go.RowKit



set_option maxHeartbeats 2000000 in
theorem grade_any (iA jA gA : Option Addr) (ic jc gc : Nat) (p : Paper) (lo hi c : Int) (w : World) (h : PaperAt w iA jA gA p) (hr : gradeMod p = ((lo, hi), c)) :
    Calls Try.prog 30 #[.agg #[.slice iA p.items.length ic, .slice jA p.judges.length jc, .int .i64 p.wrong, .slice gA p.grades.length gc]] w fun e w' => e = .returned (.tuple #[.agg #[.int .i64 lo, .int .i64 hi], .int .i64 c]) ∧ Ext w w' := by
  have HX := Lib.hid ((Ext.of_alloc w (.cells #[.slice iA p.items.length ic, .slice jA p.judges.length jc, .int .i64 p.wrong, .slice gA p.grades.length gc] 26)).alloc (.cells #[.int .i64 0, .int .i64 0] 35))
  unfold gradeMod at hr
  by_cases hk : knownE p true = 0
  · rw [if_pos hk] at hr
    have HO := Lib.hid (known_ok iA jA gA ic jc gc p true _ (h.ext HX.out) hk)
    have hgl := (valid_of (knownE_ok hk).1).gl
    injection hr with hr hc
    injection hr with h1 h2
    subst hc
    have H1 := Lib.hid h1
    have H2 := Lib.hid h2
    obtain ⟨r1, hr1⟩ : ∃ r1, (openM p).res.1 = r1 := ⟨_, rfl⟩
    obtain ⟨r2, hr2⟩ : ∃ r2, (openM p).res.2 = r2 := ⟨_, rfl⟩
    have HR1 := Lib.hid hr1
    have HR2 := Lib.hid hr2
    have HG := Lib.hid h.grades
    clear hk h1 h2 h hr1 hr2
    go_enter Try.func30, Try.ntmps30
    go_wp2_with fail
    refine HO.out.mono ?_
    rintro e w1 ⟨B, M, R, rc, rfl, hS1, hE1⟩
    have HE1 := Lib.hid hE1
    obtain ⟨c0, c1, c2, c3, c4, c5, c6, c7, c8, c9⟩ := hS1.cell
    rw [HR1.out] at c8
    rw [HR2.out] at c9
    have hB := hS1.ltB
    obtain ⟨b1, b2, f1, f2, hlt⟩ := box2 hE1
    have hne : ¬ B = w.heap.size + 1 := by
      intro e
      rw [e, b2 4] at c8
      cases c8
    have hne' : ¬ w.heap.size + 1 = B := fun e => hne e.symm
    have d0 : w1.cell? ⟨w.heap.size + 1, 0, none⟩ = some (.int .i64 0) := b2 0
    have d1 : w1.cell? ⟨w.heap.size + 1, 1, none⟩ = some (.int .i64 0) := b2 1
    have e0 := f2 0
    have e1 := f2 1
    have HF := Lib.hid (show ∀ W, Below w.heap.size w1 W → Ext w W from fun W hb => Below.trans (HX.out.trans hE1) hb)
    have HC := Lib.hid (show ∀ W r, Ext w1 W → Calls Try.prog 57 #[.pointer (some ⟨B, 0, none⟩), .int .i64 r] W fun e W' => e = .returned (.int .i64 (gradeP p.grades r)) ∧ W = W' from fun W r e => gradeS_any ⟨B, M, R, rc, iA, jA, gA, ic, jc, gc⟩ p (openM p) r W (hS1.ext e) (HG.out.ext ((HX.out.trans hE1).trans e)) hgl)
    clear hE1 hS1 b1 b2 f1 f2
    go_wp2_with fail
    go_region_held3 (fun w' => w'.cell? ⟨B, 4, none⟩ = some (.int .i64 r1) ∧ w'.cell? ⟨B, 5, none⟩ = some (.int .i64 r2)) (go_keep)
      (first
        | (go_at_call 57; refine (HC.out _ _ (Ext.refl _).drew).mono ?_; rintro e w' ⟨rfl, rfl⟩))
    all_goals
      go_wp2
      have q1 := HR1.out
      have q2 := HR2.out
      have h1 := H1.out
      have h2 := H2.out
      rw [q1] at h1
      rw [q2] at h2
      subst h1
      subst h2
      refine bodyPost_ret (v := .tuple #[.agg #[.int .i64 (gradeP p.grades r1 : Nat), .int .i64 (gradeP p.grades r2 : Nat)], .int .i64 0]) (by simp [results, Try.results30, go_sem, d0, d1]) rfl ⟨rfl, HF.out _ ?_⟩
      repeat (first | exact Below.refl _ _ | refine Below.drew ?_ | (refine Below.setCell ?_ (by simp) _))
  · rw [if_neg hk] at hr
    have HO := Lib.hid (known_err iA jA gA ic jc gc p true _ _ (h.ext HX.out) rfl hk)
    injection hr with hr hc
    injection hr with h1 h2
    subst h1; subst h2
    rw [hc] at HO hk
    have hc0 : (c != 0) = true := by simpa using hk
    clear hk hc h
    go_enter Try.func30, Try.ntmps30
    go_wp2_with fail
    refine HO.out.mono ?_
    rintro e w1 ⟨rfl, hE1⟩
    have HE1 := Lib.hid hE1
    obtain ⟨b1, b2, f1, f2, hlt⟩ := box2 hE1
    have HF := Lib.hid (show ∀ W, Below w.heap.size w1 W → Ext w W from fun W hb => Below.trans (HX.out.trans hE1) hb)
    clear hE1
    go_wp2
    refine bodyPost_ret (v := .tuple #[.agg #[.int .i64 0, .int .i64 0], .int .i64 c]) (by simp [results, Try.results30, go_sem, b2]) rfl ⟨rfl, HF.out _ ?_⟩
    exact ((Below.refl _ _).setCell (by simp) _).setCell (by simp) _
end Go.Proofs.Ytbpilgflejdhaaa
/-! Exams: the walk over Points. -/
namespace Go.Proofs.Ytbpilgflejdhaaa
open Go.RowKit

/-- The cells of an item's spans. -/
def itCells (S : Surv) (i : Nat) : List Value := spanCells ((List.range 31).map (S.it i))
theorem itCells_len (S : Surv) (i : Nat) : (itCells S i).length = 62 := by unfold itCells; rw [spanCells_length]; simp
theorem itCells_get (S : Surv) (i k : Nat) (hk : k < 31) : (itCells S i)[k * 2]? = some (.int .i64 (S.it i k).1) ∧ (itCells S i)[k * 2 + 1]? = some (.int .i64 (S.it i k).2) := by
  unfold itCells
  have := spanCells_get ((List.range 31).map (S.it i)) k
  rw [this.1, this.2]
  simp [hk]
set_option maxRecDepth 100000 in
theorem run_index_spans (cs : Array Value) (k : Nat) (x y : Value) (hk : k < 31) (h1 : cs[k * 2]? = some x) (h2 : cs[k * 2 + 1]? = some y) (w : World) :
    (Instr.index 79 (.agg cs) (.int .i64 k)).run Try.prog w = .ok (.agg #[x, y]) w := by
  have hinfo : (Try.prog.info? 35).map (·.size) = some 2 := by kernel_rfl
  cases hq : Try.prog.info? 35 with
  | none => simp [hq] at hinfo
  | some i =>
    have hs : i.size = 2 := by simpa [hq] using hinfo
    have hagg : (isAgg 35).run Try.prog w = .ok true w := by
      unfold isAgg
      rw [Sem.run_bind, run_underlying Try.underlying35 w]
      rfl
    have hlt : k * 2 + 1 < cs.size := by
      rcases Nat.lt_or_ge (k * 2 + 1) cs.size with h | h
      · exact h
      · rw [Array.getElem?_eq_none h] at h2; cases h2
    have hex : cs.extract (k * 2) (k * 2 + 2) = #[x, y] := by
      apply Array.ext'
      rw [Array.toList_extract, List.extract_eq_take_drop]
      have e1 : cs.toList[k * 2]? = some x := by simpa using h1
      have e2 : cs.toList[k * 2 + 1]? = some y := by simpa using h2
      have hl : k * 2 + 1 < cs.toList.length := by simpa using hlt
      rw [List.drop_eq_getElem_cons (by omega), List.drop_eq_getElem_cons (by omega)]
      rw [List.getElem?_eq_getElem (by omega)] at e1 e2
      injection e1 with e1
      injection e2 with e2
      simp [e1, e2]
    have h0 : (0 : Int) ≤ (k : Int) ∧ (k : Int) < (31 : Nat) := by omega
    simp [Instr.index, run_underlying Try.underlying79, asIntOf, part, hagg, sizeOf, typeInfo, hq, hs, hex, Result.andThen]
    omega
end Go.Proofs.Ytbpilgflejdhaaa
/-! Exams: the walk over Points. -/
namespace Go.Proofs.Ytbpilgflejdhaaa
open Go.RowKit

set_option maxHeartbeats 4000000 in
set_option maxRecDepth 100000 in
theorem points_any (iA jA gA : Option Addr) (ic jc gc : Nat) (p : Paper) (l : List (Int × Int)) (c : Int) (w : World) (h : PaperAt w iA jA gA p) (hr : pointsM p = (l, c)) :
    Calls Try.prog 32 #[.agg #[.slice iA p.items.length ic, .slice jA p.judges.length jc, .int .i64 p.wrong, .slice gA p.grades.length gc]] w fun e w' => ∃ A cc, e = .returned (.tuple #[.slice A l.length cc, .int .i64 c]) ∧ Spans w' A l ∧ Ext w w' := by
  have HX := Lib.hid ((Ext.of_alloc w (.cells #[.slice iA p.items.length ic, .slice jA p.judges.length jc, .int .i64 p.wrong, .slice gA p.grades.length gc] 26)))
  unfold pointsM at hr
  by_cases hk : knownE p true = 0
  · rw [if_pos hk] at hr
    have HO := Lib.hid (known_ok iA jA gA ic jc gc p true _ (h.ext HX.out) hk)
    injection hr with hr hc
    subst hc
    have HR := Lib.hid hr
    have hil := (valid_of (knownE_ok hk).1).il.2
    obtain ⟨i0, hi0, hz0, hz1, hz2⟩ := info_parts span_info
    have HSn := Lib.hid (ptsTo_succ (openM p))
    have HLn := Lib.hid (ptsTo_len (openM p))
    clear hk hr h
    go_enter Try.func32, Try.ntmps32
    go_wp2_with fail
    refine HO.out.mono ?_
    rintro e w1 ⟨B, M, R, rc, rfl, hS1, hE1⟩
    have HE1 := Lib.hid hE1
    have hB := hS1.ltB
    have hbox := hE1.box
    have hRng := Lib.hid (show ∀ W i, Ext w1 W → i < 4 → W.rangeAt B (6 + i * 62) (itCells (openM p) i) from fun W i e hi => by
      intro j v hv
      have hj : j < 62 := by
        rcases Nat.lt_or_ge j 62 with h | h
        · exact h
        · rw [List.getElem?_eq_none (by rw [itCells_len]; exact h)] at hv; cases hv
      obtain ⟨cs, hb, hc⟩ := (hS1.ext e).cs
      obtain ⟨g1, g2⟩ := itCells_get (openM p) i (j / 2) (by omega)
      by_cases hp : j % 2 = 0
      · have e1 : j / 2 * 2 = j := by omega
        have hq := hc.it1 i (j / 2) hi (by omega)
        rw [e1] at g1 hq
        rw [g1] at hv
        rw [hb.cell, hq, hv]
      · have e1 : j / 2 * 2 + 1 = j := by omega
        have hq := hc.it2 i (j / 2) hi (by omega)
        rw [e1] at g2
        rw [show 6 + i * 62 + j / 2 * 2 + 1 = 6 + i * 62 + j by omega] at hq
        rw [g2] at hv
        rw [hb.cell, hq, hv])
    have hidx := Lib.hid (show ∀ (i k : Nat) (w' : World), k < 31 → (Instr.index 79 (.agg (itCells (openM p) i).toArray) (.int .i64 k)).run Try.prog w' = .ok (.agg #[.int .i64 ((openM p).it i k).1, .int .i64 ((openM p).it i k).2]) w' from fun i k w' hk => by
      obtain ⟨g1, g2⟩ := itCells_get (openM p) i k hk
      exact run_index_spans _ k _ _ hk (by simpa using g1) (by simpa using g2) w')
    have hinfo : (Try.prog.info? 79).map (·.size) = some 62 := by kernel_rfl
    have HIL := Lib.hid (itCells_len (openM p))
    have HPt := Lib.hid (show ∀ (i k : Nat), ptTo (openM p) i (k + 1) = if ((openM p).it i k).1 ≤ ((openM p).it i k).2 then addS (ptTo (openM p) i k) ((k : Int), (k : Int)) else ptTo (openM p) i k from fun i k => rfl)
    have HP0 := Lib.hid (show ∀ i, ptTo (openM p) i 0 = noSpan from fun i => rfl)
    have HI0 := Lib.hid (show ptsTo (openM p) 0 = [] from rfl)
    generalize openM p = S at *
    clear hE1 hS1
    go_wp2_with fail
    go_loopw [6, 22] (fun v cn wr => ∃ k : Nat, k ≤ p.items.length ∧ cn = .int .i64 k ∧ Ext w1 wr ∧ wr.ownsRow w1.heap.size 35 2 v k (spanCells (ptsTo S k))) (fun _ cn _ => p.items.length - (intOf cn).toNat)
    case atStart => exact ⟨0, by omega, rfl, Ext.refl _, by rw [HI0.out]; exact World.ownsRow_nil _ _ _ _⟩
    case round =>
      obtain ⟨k, hk, rfl, hE, hown⟩ := hrel
      have HE := Lib.hid hE
      have Hown := Lib.hid hown
      by_cases hlt : (k : Int) < p.items.length
      · have hk4 : k < 4 := by omega
        have hk4' : (k : Int) < 4 := by omega
        clear hE hown
        go_wp2_with fail
        refine (none_any _).mono ?_
        rintro e w2 ⟨rfl, rfl⟩
        have HE2 := Lib.hid ((Ext.of_alloc wr (.cells #[.int .i64 1073741824, .int .i64 (-1073741824)] 35)).alloc (.cells #[.int .i64 1073741824, .int .i64 (-1073741824)] 35))
        have HB2 := Lib.hid (blk_second wr (.cells #[.int .i64 1073741824, .int .i64 (-1073741824)] 35) #[.int .i64 1073741824, .int .i64 (-1073741824)] 35)
        obtain ⟨wo, rfl⟩ : ∃ wo : World, wo = wr := ⟨_, rfl⟩
        have hrg := hRng.out ((wo.alloc (.cells #[.int .i64 1073741824, .int .i64 (-1073741824)] 35)).alloc (.cells #[.int .i64 1073741824, .int .i64 (-1073741824)] 35)) k (HE.out.trans HE2.out) hk4
        go_wp2_with (refine wpList_load_mid (by rfl) 79 (.tmp 30) (by rfl) B (6 + k * 62) (by rfl) (itCells S k) _ hrg Try.underlying79 (by rfl) (by rw [HIL.out]; exact hinfo) ?_)
        go_loopw [32] (fun cn wr => ∃ q : Nat, q ≤ 31 ∧ cn = .int .i64 q ∧ Ext wo wr ∧ Blk wr (wo.heap.size + 1) 35 #[.int .i64 (ptTo S k q).1, .int .i64 (ptTo S k q).2]) (fun cn _ => 31 - (intOf cn).toNat)
        case atStart => exact ⟨0, by omega, rfl, HE2.out, by rw [HP0.out]; exact HB2.out⟩
        case round =>
          obtain ⟨q, hq, rfl, hE3, hB3⟩ := hrel
          have HE3 := Lib.hid hE3
          have HB3 := Lib.hid hB3
          by_cases hlq : (q : Int) < 31
          · have hix := fun w' => hidx.out k q w' (by omega)
            have HPq := Lib.hid (HPt.out k q)
            generalize S.it k q = sp at *
            obtain ⟨sx, sy⟩ := sp
            simp only at hix HPq
            have HB4 := Lib.hid (hB3.ext (Ext.of_alloc wr (.cells #[.int .i64 sx, .int .i64 sy] 35)))
            have HAdd := Lib.hid (add_any (wo.heap.size + 1) 0 35 _ (ptTo S k q).1 (ptTo S k q).2 q q _ HB4.out rfl rfl)
            clear hE3 hB3
            by_cases hs : sx ≤ sy
            · have HPq2 := Lib.hid (show ptTo S k (q + 1) = addS (ptTo S k q) ((q : Int), (q : Int)) by rw [HPq.out]; exact if_pos hs)
              go_wp2_with fail
              refine HAdd.out.mono ?_
              rintro e w5 ⟨rfl, hB5, hG5⟩
              have HE5 := Lib.hid (Below.grown (HE3.out.alloc (.cells #[.int .i64 sx, .int .i64 sy] 35)) hG5 (by have := HE3.out.size; simp; omega) (fun j hj => by injection hj with hj; omega))
              have HB5 := Lib.hid (show Blk w5 (wo.heap.size + 1) 35 #[.int .i64 (ptTo S k (q + 1)).1, .int .i64 (ptTo S k (q + 1)).2] by rw [HPq2.out]; exact hB5)
              clear hB5 hG5
              go_wp2
              go_roundw
              case rel => exact ⟨q + 1, by omega, by go_num, HE5.out, HB5.out⟩
              case measure => simp [intOf]; omega
            · have HPq2 := Lib.hid (show ptTo S k (q + 1) = ptTo S k q by rw [HPq.out]; exact if_neg hs)
              go_wp2
              go_roundw
              case rel => exact ⟨q + 1, by omega, by go_num, HE3.out.alloc _, by rw [HPq2.out]; exact HB4.out⟩
              case measure => simp [intOf]; omega
          · obtain rfl : q = 31 := by omega
            have hb0 : wr.cell? ⟨wo.heap.size + 1, 0, none⟩ = some (.int .i64 (ptTo S k 31).1) := hB3.cell 0
            have hb1 : wr.cell? ⟨wo.heap.size + 1, 1, none⟩ = some (.int .i64 (ptTo S k 31).2) := hB3.cell 1
            have HSk := Lib.hid (HSn.out k)
            generalize ptTo S k 31 = sp at *
            obtain ⟨sx, sy⟩ := sp
            have HO2 := Lib.hid ((own_ext Hown.out hE3).alloc (.cells #[.int .i64 sx, .int .i64 sy] 35))
            have HE6 := Lib.hid ((HE.out.trans hE3).alloc (.cells #[.int .i64 sx, .int .i64 sy] 35))
            have HNews := Lib.hid (Blk.new wr 35 #[.int .i64 sx, .int .i64 sy]).news
            have H63 := Lib.hid (show k + 1 ≤ maxLen by simp [maxLen]; omega)
            have HSz2 := Lib.hid HE6.out.size
            clear hE3 hB3
            go_wp2_with (at_builtin; refine wpList_append_own _ rfl _ _ 58 rfl w1.heap.size 35 i0 _ 2 16 Try.underlying58 hi0 hz0 hz1 hz2 rfl (by decide) _ _ _ rfl HO2.out ⟨wr.heap.size, 0, none⟩ 1 1 [.int .i64 sx, .int .i64 sy] rfl rfl HNews.out (by simp [Value.oneCell']) H63.out (by omega) HSz2.out ?_; intro v' w7 hown7 hgrow7 _)
            have HO7 := Lib.hid hown7
            have HE7 := Lib.hid (ext_append HE6.out HO2.out hgrow7)
            clear hown7 hgrow7
            go_wp2
            go_roundw
            case rel => exact ⟨k + 1, by omega, by go_num, HE7.out, by rw [HSk.out, spanCells_snoc]; exact HO7.out⟩
            case measure => simp [intOf]; omega
      · obtain rfl : k = p.items.length := by omega
        obtain ⟨A, cc, rfl, _⟩ := own_form hown
        clear hE hown
        go_wp2
        go_ret2
        have hI := (Spans.of_own Hown.out).2
        have hlen : l.length = p.items.length := by rw [← HR.out, HLn.out]
        rw [HR.out] at hI
        exact ⟨A, ⟨cc, by rw [hlen]; rfl⟩, hI, (HX.out.trans HE1.out).trans HE.out⟩
  · rw [if_neg hk] at hr
    have HO := Lib.hid (known_err iA jA gA ic jc gc p true _ _ (h.ext HX.out) rfl hk)
    injection hr with h1 h2
    subst h1
    rw [h2] at HO hk
    have hc0 : (c != 0) = true := by simpa using hk
    clear hk h2 h
    go_enter Try.func32, Try.ntmps32
    go_wp2_with fail
    refine HO.out.mono ?_
    rintro e w1 ⟨rfl, hE1⟩
    have HE1 := Lib.hid hE1
    clear hE1
    go_wp2
    go_ret2
    exact ⟨none, 0, rfl, fun k hk => by simp at hk, HX.out.trans HE1.out⟩
end Go.Proofs.Ytbpilgflejdhaaa
