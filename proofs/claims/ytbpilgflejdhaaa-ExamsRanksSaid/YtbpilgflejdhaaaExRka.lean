/- Exams: the plain model of Ranks; papers in memory. / Exams: the walk over Ranks (the program). / Exams: the walk over Ranks (the reference). / Exams: papers in a slice that came in, and in a row of the call's own. -/
import Derived.Test.YtbpilgflejdhaaaExLaw3
import Derived.Test.YtbpilgflejdhaaaExPl
import Derived.Test.YtbpilgflejdhaaaExS
import Derived.Test.YtbpilgflejdhaaaExO
import Derived.Test.YtbpilgflejdhaaaExYb
import Derived.Test.YtbpilgflejdhaaaExRead
import Derived.Test.YtbpilgflejdhaaaBoxMem
/-! Exams: the plain model of Ranks; papers in memory. -/
namespace Go.Proofs.Ytbpilgflejdhaaa
open Go.RowKit

def rkLo (R : List (Int × Int)) (i : Nat) : Nat → Int
  | 0 => 1
  | k + 1 => if (R.getD i (0, 0)).2 < (R.getD k (0, 0)).1 then rkLo R i k + 1 else rkLo R i k
def rkHi (R : List (Int × Int)) (i : Nat) : Nat → Int
  | 0 => 1
  | k + 1 => if k ≠ i ∧ (R.getD i (0, 0)).1 < (R.getD k (0, 0)).2 then rkHi R i k + 1 else rkHi R i k
theorem rkLo_bd (R : List (Int × Int)) (i : Nat) : ∀ k : Nat, 1 ≤ rkLo R i k ∧ rkLo R i k ≤ 1 + k
  | 0 => by simp [rkLo]
  | k + 1 => by have := rkLo_bd R i k; rw [rkLo]; split <;> omega
theorem rkHi_bd (R : List (Int × Int)) (i : Nat) : ∀ k : Nat, 1 ≤ rkHi R i k ∧ rkHi R i k ≤ 1 + k
  | 0 => by simp [rkHi]
  | k + 1 => by have := rkHi_bd R i k; rw [rkHi]; split <;> omega
def rkTo (R : List (Int × Int)) (k : Nat) : List (Int × Int) := (List.range k).map (fun i => (rkLo R i R.length, rkHi R i R.length))
theorem rkTo_succ (R : List (Int × Int)) (k : Nat) : rkTo R (k + 1) = rkTo R k ++ [(rkLo R k R.length, rkHi R k R.length)] := by
  unfold rkTo; rw [List.range_succ, List.map_append]; rfl
theorem rkTo_len (R : List (Int × Int)) (k : Nat) : (rkTo R k).length = k := by simp [rkTo]
theorem rkTo_get (R : List (Int × Int)) {k i : Nat} (h : i < k) : (rkTo R k).getD i (0, 0) = (rkLo R i R.length, rkHi R i R.length) := by simp [rkTo, List.getD, h]
def resTo (l : List Paper) (k : Nat) : List (Int × Int) := (l.take k).map (fun p => (rangeM p).1)
theorem resTo_succ (l : List Paper) (k : Nat) (h : k < l.length) : resTo l (k + 1) = resTo l k ++ [(rangeM (l.getD k default)).1] := by
  unfold resTo
  rw [List.take_succ_eq_append_getElem h, List.map_append]
  simp [List.getD, h]
theorem resTo_len (l : List Paper) : (resTo l l.length).length = l.length := by simp [resTo]
theorem resTo_get (l : List Paper) {k : Nat} (h : k < l.length) : (resTo l l.length).getD k (0, 0) = (rangeM (l.getD k default)).1 := by simp [resTo, List.getD, h]
def badP (p : Paper) : Bool := decide ((rangeM p).2 ≠ 0)
def ranksM (l : List Paper) : List (Int × Int) × Int :=
  if 6 < l.length then ([], 1) else match l.find? badP with
    | some p => ([], (rangeM p).2)
    | none => (rkTo (resTo l l.length) l.length, 0)
theorem find_at {α : Type} (q : α → Bool) (d : α) : ∀ (l : List α) (k : Nat), k < l.length → (∀ j, j < k → q (l.getD j d) = false) → q (l.getD k d) = true → l.find? q = some (l.getD k d)
  | [], k, h, _, _ => absurd h (by simp)
  | x :: l, 0, _, _, h => by
    have h : q x = true := h
    rw [List.find?_cons, h]
    rfl
  | x :: l, k + 1, hk, h0, h => by
    have hx : q x = false := h0 0 (by omega)
    rw [List.find?_cons, hx]
    exact find_at q d l k (by simpa using hk) (fun j hj => h0 (j + 1) (by omega)) h
theorem find_no {α : Type} (q : α → Bool) (d : α) (l : List α) (h : ∀ j, j < l.length → q (l.getD j d) = false) : l.find? q = none := by
  rw [List.find?_eq_none]
  intro x hx
  obtain ⟨k, hk, rfl⟩ := List.getElem_of_mem hx
  have := h k hk
  rw [List.getD, List.getElem?_eq_getElem hk] at this
  simp only [Option.getD_some] at this
  rw [this]
  exact Bool.false_ne_true
theorem ranksM_bad {l : List Paper} {k : Nat} {c : Int} (hl : l.length ≤ 6) (hk : k < l.length) (h0 : ∀ j, j < k → (rangeM (l.getD j default)).2 = 0) (hc : (rangeM (l.getD k default)).2 = c) (hn : c ≠ 0) : ranksM l = ([], c) := by
  unfold ranksM
  rw [if_neg (by omega), find_at badP default l k hk (fun j hj => by unfold badP; rw [h0 j hj]; rfl) (by unfold badP; rw [hc]; simpa using hn)]
  simp only [hc]
theorem ranksM_ok {l : List Paper} (hl : l.length ≤ 6) (h0 : ∀ j, j < l.length → (rangeM (l.getD j default)).2 = 0) : ranksM l = (rkTo (resTo l l.length) l.length, 0) := by
  unfold ranksM
  rw [if_neg (by omega), find_no badP default l (fun j hj => by unfold badP; rw [h0 j hj]; rfl)]
theorem range_le {p : Paper} (_h : (rangeM p).2 = 0) : (rangeM p).1.1 ≤ (rangeM p).1.2 := by
  unfold rangeM
  split
  · rename_i hk
    obtain ⟨hv, _, hp⟩ := knownE_ok hk
    have hV := valid_of hv
    obtain ⟨t, ht⟩ := (open_poss hV).1 hp
    have := open_res_in hV ht
    show (openM p).res.1 ≤ (openM p).res.2
    omega
  · exact Int.le_refl _

/-- A slice of papers. -/
def PapersAt (w : World) (A : Option Addr) (l : List Paper) : Prop := ∀ k, k < l.length → ∃ b off iA jA gA ic jc gc, A = some ⟨b, off, none⟩ ∧ b < w.heap.size ∧
  w.cell? ⟨b, off + k * 4, none⟩ = some (.slice iA (l.getD k default).items.length ic) ∧ w.cell? ⟨b, off + k * 4 + 1, none⟩ = some (.slice jA (l.getD k default).judges.length jc) ∧ w.cell? ⟨b, off + k * 4 + 2, none⟩ = some (.int .i64 (l.getD k default).wrong) ∧ w.cell? ⟨b, off + k * 4 + 3, none⟩ = some (.slice gA (l.getD k default).grades.length gc) ∧ PaperAt w iA jA gA (l.getD k default)
theorem PapersAt.ext {w w' : World} {A : Option Addr} {l : List Paper} (h : PapersAt w A l) (e : Ext w w') : PapersAt w' A l := fun k hk => by
  obtain ⟨b, off, iA, jA, gA, ic, jc, gc, hA, hb, h0, h1, h2, h3, hP⟩ := h k hk
  exact ⟨b, off, iA, jA, gA, ic, jc, gc, hA, Nat.lt_of_lt_of_le hb e.size, (e.cellOf (p := ⟨b, _, none⟩) hb).trans h0, (e.cellOf (p := ⟨b, _, none⟩) hb).trans h1, (e.cellOf (p := ⟨b, _, none⟩) hb).trans h2, (e.cellOf (p := ⟨b, _, none⟩) hb).trans h3, hP.ext e⟩
/-- What Ranks returns. -/
def RanksPost (L : List (Int × Int)) (c : Int) (w : World) (e : Ending) (w' : World) : Prop := Ext w w' ∧ ∃ A cc, e = .returned (.tuple #[.slice A L.length cc, .int .i64 c]) ∧ Spans w' A L
end Go.Proofs.Ytbpilgflejdhaaa
/-! Exams: the walk over Ranks (the program). -/
namespace Go.Proofs.Ytbpilgflejdhaaa
open Go.RowKit

set_option maxHeartbeats 8000000 in
set_option maxRecDepth 100000 in
theorem ranksP_any (A : Option Addr) (cp : Nat) (l : List Paper) (L : List (Int × Int)) (c : Int) (w : World) (h : PapersAt w A l) (hl : l.length ≤ 9223372036854775807) (hr : ranksM l = (L, c)) :
    Calls Try.prog 36 #[.slice A l.length cp] w (RanksPost L c w) := by
  by_cases h6 : 6 < l.length
  · have h6' : (6 : Int) < l.length := by omega
    unfold ranksM at hr
    rw [if_pos h6] at hr
    injection hr with h1 h2
    subst h1
    subst h2
    clear h h6
    go_enter Try.func36, Try.ntmps36
    go_wp2
    go_ret2
    exact (show RanksPost [] 1 w (.returned (.tuple #[.slice none 0 0, .int .i64 1])) w from ⟨Ext.refl _, none, 0, rfl, fun k hk => by simp at hk⟩)
  · have h6' : (l.length : Int) ≤ 6 := by omega
    have h6n : l.length ≤ 6 := by omega
    obtain ⟨i0, hi0, hz0, hz1, hz2⟩ := info_parts span_info
    have HP := Lib.hid h
    have HBad := Lib.hid (fun k cc hk h0 hc hn => ((ranksM_bad (l := l) (k := k) (c := cc) h6n hk h0 hc hn).symm.trans hr))
    have HOk := Lib.hid (fun h0 => ((ranksM_ok (l := l) h6n h0).symm.trans hr))
    have HSn := Lib.hid (resTo_succ l)
    have HZ := Lib.hid (show resTo l 0 = [] from rfl)
    have HRl := Lib.hid (resTo_len l)
    have HRg := Lib.hid (fun k => @resTo_get l k)
    clear h hr h6
    go_enter Try.func36, Try.ntmps36
    go_wp2_with fail
    go_loopw [4, 20] (fun v4 vc wr => ∃ k : Nat, k ≤ l.length ∧ vc = .int .i64 k ∧ Ext w wr ∧ wr.ownsRow w.heap.size 35 2 v4 k (spanCells (resTo l k)) ∧ ∀ j, j < k → (rangeM (l.getD j default)).2 = 0) (fun _ vc _ => l.length - (intOf vc).toNat)
    case atStart => exact ⟨0, by omega, rfl, Ext.refl _, by rw [HZ.out]; exact World.ownsRow_nil _ _ _ _, fun j hj => by omega⟩
    case round =>
      obtain ⟨k, hk, rfl, hE, hO, hall⟩ := hrel
      have HE := Lib.hid hE
      have HO := Lib.hid hO
      have HAl := Lib.hid hall
      by_cases hlt : (k : Int) < l.length
      · obtain ⟨pb, poff, iA, jA, gA, ic, jc, gc, rfl, hpb, hp0, hp1, hp2, hp3, hP⟩ := (HP.out.ext hE) k (by omega)
        have HSk := Lib.hid (HSn.out k (by omega))
        have HBk := Lib.hid (fun cc => HBad.out k cc (by omega) HAl.out)
        have HNo := Lib.hid (show (rangeM (l.getD k default)).2 = 0 → ∀ j, j < k + 1 → (rangeM (l.getD j default)).2 = 0 from fun hq j hj => by
          by_cases e : j = k
          · rw [e]; exact hq
          · exact HAl.out j (by omega))
        generalize l.getD k default = pk at *
        obtain ⟨lo, hi, rc, hR⟩ : ∃ lo hi rc, rangeM pk = ((lo, hi), rc) := ⟨_, _, _, rfl⟩
        have HRr := Lib.hid (fun W (e : Ext wr W) => range_any iA jA gA ic jc gc pk lo hi rc W (hP.ext e) hR)
        rw [hR] at HSk HBk HNo
        clear hE hO hall hP hR
        by_cases hc : rc = 0
        · subst hc
          have HNo2 := Lib.hid (HNo.out rfl)
          clear HNo HBk
          go_wp2_with fail
          refine (HRr.out _ (by repeat (first | with_reducible exact Ext.refl _ | with_reducible refine Ext.alloc ?_ _))).mono ?_
          rintro e w2 ⟨rfl, hE2⟩
          have HX2 := Lib.hid (show Ext wr w2 from Ext.trans (by repeat (first | with_reducible exact Ext.refl _ | with_reducible refine Ext.alloc ?_ _)) hE2)
          have HE3 := Lib.hid (((HE.out.trans HX2.out).alloc (.cells #[.int .i64 lo, .int .i64 hi] 35)).alloc (.cells #[.int .i64 lo, .int .i64 hi] 35))
          have HO3 := Lib.hid (own_alloc (own_alloc (own_ext HO.out HX2.out) (.cells #[.int .i64 lo, .int .i64 hi] 35)) (.cells #[.int .i64 lo, .int .i64 hi] 35))
          have HNews := Lib.hid (blk_second w2 (.cells #[.int .i64 lo, .int .i64 hi] 35) #[.int .i64 lo, .int .i64 hi] 35).news
          have H63 := Lib.hid (show k + 1 ≤ maxLen by simp [maxLen]; omega)
          have HSz := Lib.hid HE3.out.size
          clear hE2
          go_wp2_with (at_builtin; refine wpList_append_own _ rfl _ _ 58 rfl w.heap.size 35 i0 _ 2 16 Try.underlying58 hi0 hz0 hz1 hz2 rfl (by decide) _ _ _ rfl HO3.out ⟨w2.heap.size + 1, 0, none⟩ 1 1 [.int .i64 lo, .int .i64 hi] rfl rfl HNews.out (by simp [Value.oneCell']) H63.out (by omega) HSz.out ?_; intro v7 w7 hown7 hgrow7 _)
          have HO7 := Lib.hid hown7
          have HE7 := Lib.hid (ext_append HE3.out HO3.out hgrow7)
          clear hown7 hgrow7
          go_wp2
          go_roundw
          case rel => exact ⟨k + 1, by omega, by go_num, HE7.out, by rw [HSk.out, spanCells_snoc]; exact HO7.out, HNo2.out⟩
          case measure => simp [intOf]; omega
        · have hcb : (rc != 0) = true := by simpa using hc
          have HB2 := Lib.hid (HBk.out rc rfl hc)
          clear hc
          go_wp2_with fail
          refine (HRr.out _ (by repeat (first | with_reducible exact Ext.refl _ | with_reducible refine Ext.alloc ?_ _))).mono ?_
          rintro e w2 ⟨rfl, hE2⟩
          have HX2 := Lib.hid (show Ext wr w2 from Ext.trans (by repeat (first | with_reducible exact Ext.refl _ | with_reducible refine Ext.alloc ?_ _)) hE2)
          clear hE2
          go_wp2
          go_ret2
          have hq := HB2.out
          injection hq with hq1 hq2
          exact (show RanksPost L c w (.returned (.tuple #[.slice none 0 0, .int .i64 rc])) _ from ⟨(HE.out.trans HX2.out).alloc _, none, 0, by rw [← hq1, ← hq2]; rfl, by rw [← hq1]; exact fun k hk => by simp at hk⟩)
      · obtain rfl : k = l.length := by omega
        have HFin := Lib.hid (HOk.out HAl.out)
        obtain ⟨A4, c4, rfl, -⟩ := own_form hO
        have HSp := Lib.hid (Spans.of_own hO).2
        have HLe := Lib.hid (show ∀ k, k < l.length → ((resTo l l.length).getD k (0, 0)).1 ≤ ((resTo l l.length).getD k (0, 0)).2 from fun k hk => by rw [HRg.out k hk]; exact range_le (HAl.out k hk))
        generalize resTo l l.length = R at *
        have HRl2 := Lib.hid HRl.out
        have HTn := Lib.hid (rkTo_succ R)
        have HT0 := Lib.hid (show rkTo R 0 = [] from rfl)
        obtain ⟨wa, rfl⟩ : ∃ wa : World, wa = wr := ⟨_, rfl⟩
        clear hE hO hall HAl HBad HOk
        go_wp2_with fail
        go_loopw [5, 39] (fun v5 vc wr => ∃ i : Nat, i ≤ l.length ∧ vc = .int .i64 i ∧ Ext wa wr ∧ wr.ownsRow wa.heap.size 35 2 v5 i (spanCells (rkTo R i))) (fun _ vc _ => l.length - (intOf vc).toNat)
        case atStart => exact ⟨0, by omega, rfl, Ext.refl _, by rw [HT0.out]; exact World.ownsRow_nil _ _ _ _⟩
        case round =>
          obtain ⟨i, hi, rfl, hE2, hO2⟩ := hrel
          have HE2 := Lib.hid hE2
          have HO2 := Lib.hid hO2
          by_cases hli : (i : Int) < l.length
          · obtain ⟨sb, soff, sx, sy, rfl, hsb, hs1, hs2, hsi⟩ := (HSp.out.ext hE2).get (show i < R.length by have := HRl2.out; omega)
            have hle := HLe.out i (by omega)
            rw [hsi.out] at hle
            simp only at hle
            have HTi := Lib.hid (HTn.out i)
            have HLb := Lib.hid (rkLo_bd R i)
            have HHb := Lib.hid (rkHi_bd R i)
            have HLn := Lib.hid (show ∀ k x y, R.getD k (0, 0) = (x, y) → rkLo R i (k + 1) = if sy < x then rkLo R i k + 1 else rkLo R i k from fun k x y hq => by rw [rkLo, hsi.out, hq])
            have HHn := Lib.hid (show ∀ k x y, R.getD k (0, 0) = (x, y) → rkHi R i (k + 1) = if k ≠ i ∧ sx < y then rkHi R i k + 1 else rkHi R i k from fun k x y hq => by rw [rkHi, hsi.out, hq])
            have HL0 := Lib.hid (show rkLo R i 0 = 1 ∧ rkHi R i 0 = 1 from ⟨rfl, rfl⟩)
            obtain ⟨wo, rfl⟩ : ∃ wo : World, wo = wr := ⟨_, rfl⟩
            have HCell := Lib.hid (show ∀ W, Ext wo W → sb < W.heap.size ∧ W.cell? ⟨sb, soff + i * 2, none⟩ = some (.int .i64 sx) ∧ W.cell? ⟨sb, soff + i * 2 + 1, none⟩ = some (.int .i64 sy) from fun W e => ⟨Nat.lt_of_lt_of_le hsb e.size, (e.cellOf (p := ⟨sb, _, none⟩) hsb).trans hs1, (e.cellOf (p := ⟨sb, _, none⟩) hsb).trans hs2⟩)
            clear hE2 hO2
            go_wp2_with fail
            go_loopw [47] (fun vc wr => ∃ k : Nat, k ≤ l.length ∧ vc = .int .i64 k ∧ Ext wo wr ∧ Blk wr wo.heap.size 35 #[.int .i64 sx, .int .i64 sy] ∧ Blk wr (wo.heap.size + 1) 35 #[.int .i64 (rkLo R i k), .int .i64 (rkHi R i k)]) (fun vc _ => l.length - (intOf vc).toNat)
            case atStart => exact ⟨0, by omega, rfl, ((Ext.refl _).alloc _).alloc _, Blk.alloc (Blk.new _ _ _) _, by rw [HL0.out.1, HL0.out.2]; exact blk_second _ _ _ _⟩
            case round =>
              obtain ⟨k, hk, rfl, hE3, hB11, hB12⟩ := hrel
              have HE3 := Lib.hid hE3
              have HB12 := Lib.hid hB12
              have HB11 := Lib.hid hB11
              by_cases hlk : (k : Int) < l.length
              · obtain ⟨sb', soff', x, y, he, hkb, hk1, hk2, hki⟩ := (HSp.out.ext (HE2.out.trans hE3)).get (show k < R.length by have := HRl2.out; omega)
                injection he with he
                injection he with he1 he2
                subst he1
                subst he2
                obtain ⟨z0, z1, z2⟩ := HCell.out _ hE3
                have hlb := HLb.out k
                have hhb := HHb.out k
                have HLk := Lib.hid (HLn.out k x y hki.out)
                have HHk := Lib.hid (HHn.out k x y hki.out)
                have HSame := Lib.hid (show k = i → x = sx ∧ y = sy from fun e => by
                  have hq := hki.out
                  rw [e, hsi.out] at hq
                  injection hq with q1 q2
                  exact ⟨q1.symm, q2.symm⟩)
                have hB12' := hB12
                generalize rkLo R i k = lk at *
                generalize rkHi R i k = hk' at *
                have g0 : wr.cell? ⟨wo.heap.size + 1, 0, none⟩ = some (.int .i64 lk) := hB12.cell 0
                have g1 : wr.cell? ⟨wo.heap.size + 1, 1, none⟩ = some (.int .i64 hk') := hB12.cell 1
                have f0 : wr.frozen? ⟨wo.heap.size + 1, 0, none⟩ = false := hB12.free 0
                have f1 : wr.frozen? ⟨wo.heap.size + 1, 1, none⟩ = false := hB12.free 1
                have hlt12 : wo.heap.size + 1 < wr.heap.size := hB12.lt
                have s0 : wr.cell? ⟨wo.heap.size, 0, none⟩ = some (.int .i64 sx) := hB11.cell 0
                have s1 : wr.cell? ⟨wo.heap.size, 1, none⟩ = some (.int .i64 sy) := hB11.cell 1
                have hlt11 : wo.heap.size < wr.heap.size := hB11.lt
                obtain ⟨hl1, hl2⟩ := hlb
                obtain ⟨hh1, hh2⟩ := hhb
                clear hE3 hB12 hB12' hB11 hki
                by_cases hsame : k = i
                ·
                  have hxy := HSame.out hsame
                  obtain ⟨hx1, hy1⟩ := hxy
                  have hnk : ((k : Int) != (i : Int)) = false := by simp; omega
                  have hq1 : x ≤ sy := by omega
                  have HL := Lib.hid (show rkLo R i (k + 1) = lk by rw [HLk.out, if_neg (by omega)])
                  have HH := Lib.hid (show rkHi R i (k + 1) = hk' by rw [HHk.out, if_neg (fun q => q.1 hsame)])
                  clear hx1 hy1 hsame
                  go_wp2
                  go_roundw
                  case rel => exact ⟨k + 1, by omega, by go_num, (by repeat (first | with_reducible exact HE3.out | with_reducible refine Ext.drew ?_ | with_reducible refine Ext.drewN ?_ _ | with_reducible refine Ext.alloc ?_ _ | ((with_reducible refine Below.setCell ?_ ?_ _); rotate_left; simp))), HB11.out.alloc _, by rw [HL.out, HH.out]; exact (HB12.out.alloc _)⟩
                  case measure => simp [intOf]; omega
                ·
                  by_cases ha : sy < x
                  ·
                    by_cases hb : sx < y
                    ·
                      have hnk : ((k : Int) != (i : Int)) = true := by simp; omega
                      have HL := Lib.hid (show rkLo R i (k + 1) = (lk + 1) by rw [HLk.out, if_pos ha])
                      have HH := Lib.hid (show rkHi R i (k + 1) = (hk' + 1) by rw [HHk.out, if_pos ⟨hsame, hb⟩])
                      clear hsame
                      go_wp2
                      go_roundw
                      case rel => exact ⟨k + 1, by omega, by go_num, (by repeat (first | with_reducible exact HE3.out | with_reducible refine Ext.drew ?_ | with_reducible refine Ext.drewN ?_ _ | with_reducible refine Ext.alloc ?_ _ | ((with_reducible refine Below.setCell ?_ ?_ _); rotate_left; simp))), ((HB11.out.far (p := ⟨wo.heap.size + 1, 0, none⟩) (by simp) (.int .i64 (lk + 1))).far (p := ⟨wo.heap.size + 1, 1, none⟩) (by simp) (.int .i64 (hk' + 1))).alloc _, by rw [HL.out, HH.out]; exact (((HB12.out.set 0 (.int .i64 (lk + 1))).set 1 (.int .i64 (hk' + 1))).alloc _)⟩
                      case measure => simp [intOf]; omega
                    ·
                      have hnk : ((k : Int) != (i : Int)) = true := by simp; omega
                      have HL := Lib.hid (show rkLo R i (k + 1) = (lk + 1) by rw [HLk.out, if_pos ha])
                      have HH := Lib.hid (show rkHi R i (k + 1) = hk' by rw [HHk.out, if_neg (fun q => hb q.2)])
                      have hb2 : y ≤ sx := by omega
                      clear hb
                      clear hsame
                      go_wp2
                      go_roundw
                      case rel => exact ⟨k + 1, by omega, by go_num, (by repeat (first | with_reducible exact HE3.out | with_reducible refine Ext.drew ?_ | with_reducible refine Ext.drewN ?_ _ | with_reducible refine Ext.alloc ?_ _ | ((with_reducible refine Below.setCell ?_ ?_ _); rotate_left; simp))), (HB11.out.far (p := ⟨wo.heap.size + 1, 0, none⟩) (by simp) (.int .i64 (lk + 1))).alloc _, by rw [HL.out, HH.out]; exact ((HB12.out.set 0 (.int .i64 (lk + 1))).alloc _)⟩
                      case measure => simp [intOf]; omega
                  ·
                    by_cases hb : sx < y
                    ·
                      have hnk : ((k : Int) != (i : Int)) = true := by simp; omega
                      have HL := Lib.hid (show rkLo R i (k + 1) = lk by rw [HLk.out, if_neg ha])
                      have HH := Lib.hid (show rkHi R i (k + 1) = (hk' + 1) by rw [HHk.out, if_pos ⟨hsame, hb⟩])
                      have ha2 : x ≤ sy := by omega
                      clear ha
                      clear hsame
                      go_wp2
                      go_roundw
                      case rel => exact ⟨k + 1, by omega, by go_num, (by repeat (first | with_reducible exact HE3.out | with_reducible refine Ext.drew ?_ | with_reducible refine Ext.drewN ?_ _ | with_reducible refine Ext.alloc ?_ _ | ((with_reducible refine Below.setCell ?_ ?_ _); rotate_left; simp))), (HB11.out.far (p := ⟨wo.heap.size + 1, 1, none⟩) (by simp) (.int .i64 (hk' + 1))).alloc _, by rw [HL.out, HH.out]; exact ((HB12.out.set 1 (.int .i64 (hk' + 1))).alloc _)⟩
                      case measure => simp [intOf]; omega
                    ·
                      have hnk : ((k : Int) != (i : Int)) = true := by simp; omega
                      have HL := Lib.hid (show rkLo R i (k + 1) = lk by rw [HLk.out, if_neg ha])
                      have HH := Lib.hid (show rkHi R i (k + 1) = hk' by rw [HHk.out, if_neg (fun q => hb q.2)])
                      have ha2 : x ≤ sy := by omega
                      clear ha
                      have hb2 : y ≤ sx := by omega
                      clear hb
                      clear hsame
                      go_wp2
                      go_roundw
                      case rel => exact ⟨k + 1, by omega, by go_num, (by repeat (first | with_reducible exact HE3.out | with_reducible refine Ext.drew ?_ | with_reducible refine Ext.drewN ?_ _ | with_reducible refine Ext.alloc ?_ _ | ((with_reducible refine Below.setCell ?_ ?_ _); rotate_left; simp))), HB11.out.alloc _, by rw [HL.out, HH.out]; exact (HB12.out.alloc _)⟩
                      case measure => simp [intOf]; omega
              · obtain rfl : k = l.length := by omega
                have HTj := Lib.hid (show rkTo R (i + 1) = rkTo R i ++ [(rkLo R i l.length, rkHi R i l.length)] by rw [HTi.out, HRl2.out])
                generalize rkLo R i l.length = lk at *
                generalize rkHi R i l.length = hk' at *
                have g0 : wr.cell? ⟨wo.heap.size + 1, 0, none⟩ = some (.int .i64 lk) := hB12.cell 0
                have g1 : wr.cell? ⟨wo.heap.size + 1, 1, none⟩ = some (.int .i64 hk') := hB12.cell 1
                have HE4 := Lib.hid ((HE2.out.trans hE3).alloc (.cells #[.int .i64 lk, .int .i64 hk'] 35))
                have HO4 := Lib.hid (own_alloc (own_ext HO2.out hE3) (.cells #[.int .i64 lk, .int .i64 hk'] 35))
                have HNews := Lib.hid (Blk.new wr 35 #[.int .i64 lk, .int .i64 hk']).news
                have H63 := Lib.hid (show i + 1 ≤ maxLen by simp [maxLen]; omega)
                have HSz := Lib.hid HE4.out.size
                clear hE3 hB12 hB11
                go_wp2_with (at_builtin; refine wpList_append_own _ rfl _ _ 58 rfl wa.heap.size 35 i0 _ 2 16 Try.underlying58 hi0 hz0 hz1 hz2 rfl (by decide) _ _ _ rfl HO4.out ⟨wr.heap.size, 0, none⟩ 1 1 [.int .i64 lk, .int .i64 hk'] rfl rfl HNews.out (by simp [Value.oneCell']) H63.out (by omega) HSz.out ?_; intro v7 w7 hown7 hgrow7 _)
                have HO7 := Lib.hid hown7
                have HE7 := Lib.hid (ext_append HE4.out HO4.out hgrow7)
                clear hown7 hgrow7
                go_wp2
                go_roundw
                case rel => exact ⟨i + 1, by omega, by go_num, HE7.out, by rw [HTj.out, spanCells_snoc]; exact HO7.out⟩
                case measure => simp [intOf]; omega
          · obtain rfl : i = l.length := by omega
            obtain ⟨A5, c5, rfl, -⟩ := own_form hO2
            have HSp5 := Lib.hid (Spans.of_own hO2).2
            clear hE2 hO2
            go_wp2
            go_ret2
            have hq := HFin.out
            injection hq with hq1 hq2
            have hlen : L.length = l.length := by rw [← hq1, rkTo_len]
            exact (show RanksPost L c w (.returned (.tuple #[.slice A5 l.length c5, .int .i64 0])) wr from ⟨HE.out.trans HE2.out, A5, c5, by rw [hlen, hq2], by rw [← hq1]; exact HSp5.out⟩)
end Go.Proofs.Ytbpilgflejdhaaa
/-! Exams: the walk over Ranks (the reference). -/
namespace Go.Proofs.Ytbpilgflejdhaaa
open Go.RowKit

set_option maxHeartbeats 8000000 in
set_option maxRecDepth 100000 in
theorem ranksR_any (A : Option Addr) (cp : Nat) (l : List Paper) (L : List (Int × Int)) (c : Int) (w : World) (h : PapersAt w A l) (hl : l.length ≤ 9223372036854775807) (hr : ranksM l = (L, c)) :
    Calls Try.prog 37 #[.slice A l.length cp] w (RanksPost L c w) := by
  by_cases h6 : 6 < l.length
  · have h6' : (6 : Int) < l.length := by omega
    unfold ranksM at hr
    rw [if_pos h6] at hr
    injection hr with h1 h2
    subst h1
    subst h2
    clear h h6
    go_enter Try.func37, Try.ntmps37
    go_wp2
    go_ret2
    exact (show RanksPost [] 1 w (.returned (.tuple #[.slice none 0 0, .int .i64 1])) w from ⟨Ext.refl _, none, 0, rfl, fun k hk => by simp at hk⟩)
  · have h6' : (l.length : Int) ≤ 6 := by omega
    have h6n : l.length ≤ 6 := by omega
    obtain ⟨i0, hi0, hz0, hz1, hz2⟩ := info_parts span_info
    have HP := Lib.hid h
    have HBad := Lib.hid (fun k cc hk h0 hc hn => ((ranksM_bad (l := l) (k := k) (c := cc) h6n hk h0 hc hn).symm.trans hr))
    have HOk := Lib.hid (fun h0 => ((ranksM_ok (l := l) h6n h0).symm.trans hr))
    have HSn := Lib.hid (resTo_succ l)
    have HZ := Lib.hid (show resTo l 0 = [] from rfl)
    have HRl := Lib.hid (resTo_len l)
    have HRg := Lib.hid (fun k => @resTo_get l k)
    clear h hr h6
    go_enter Try.func37, Try.ntmps37
    go_wp2_with fail
    go_loopw [4, 6] (fun v4 vc wr => ∃ k : Nat, k ≤ l.length ∧ vc = .int .i64 k ∧ Ext w wr ∧ wr.ownsRow w.heap.size 35 2 v4 k (spanCells (resTo l k)) ∧ ∀ j, j < k → (rangeM (l.getD j default)).2 = 0) (fun _ vc _ => l.length - (intOf vc).toNat)
    case atStart => exact ⟨0, by omega, rfl, Ext.refl _, by rw [HZ.out]; exact World.ownsRow_nil _ _ _ _, fun j hj => by omega⟩
    case round =>
      obtain ⟨k, hk, rfl, hE, hO, hall⟩ := hrel
      have HE := Lib.hid hE
      have HO := Lib.hid hO
      have HAl := Lib.hid hall
      by_cases hlt : (k : Int) < l.length
      · obtain ⟨pb, poff, iA, jA, gA, ic, jc, gc, rfl, hpb, hp0, hp1, hp2, hp3, hP⟩ := (HP.out.ext hE) k (by omega)
        have HSk := Lib.hid (HSn.out k (by omega))
        have HBk := Lib.hid (fun cc => HBad.out k cc (by omega) HAl.out)
        have HNo := Lib.hid (show (rangeM (l.getD k default)).2 = 0 → ∀ j, j < k + 1 → (rangeM (l.getD j default)).2 = 0 from fun hq j hj => by
          by_cases e : j = k
          · rw [e]; exact hq
          · exact HAl.out j (by omega))
        generalize l.getD k default = pk at *
        obtain ⟨lo, hi, rc, hR⟩ : ∃ lo hi rc, rangeM pk = ((lo, hi), rc) := ⟨_, _, _, rfl⟩
        have HRr := Lib.hid (fun W (e : Ext wr W) => rangeB_any iA jA gA ic jc gc pk lo hi rc W (hP.ext e) hR)
        rw [hR] at HSk HBk HNo
        clear hE hO hall hP hR
        by_cases hc : rc = 0
        · subst hc
          have HNo2 := Lib.hid (HNo.out rfl)
          clear HNo HBk
          go_wp2_with fail
          refine (HRr.out _ (by repeat (first | with_reducible exact Ext.refl _ | with_reducible refine Ext.alloc ?_ _))).mono ?_
          rintro e w2 ⟨rfl, hE2⟩
          have HX2 := Lib.hid (show Ext wr w2 from Ext.trans (by repeat (first | with_reducible exact Ext.refl _ | with_reducible refine Ext.alloc ?_ _)) hE2)
          have HE3 := Lib.hid (((HE.out.trans HX2.out).alloc (.cells #[.int .i64 lo, .int .i64 hi] 35)).alloc (.cells #[.int .i64 lo, .int .i64 hi] 35))
          have HO3 := Lib.hid (own_alloc (own_alloc (own_ext HO.out HX2.out) (.cells #[.int .i64 lo, .int .i64 hi] 35)) (.cells #[.int .i64 lo, .int .i64 hi] 35))
          have HNews := Lib.hid (blk_second w2 (.cells #[.int .i64 lo, .int .i64 hi] 35) #[.int .i64 lo, .int .i64 hi] 35).news
          have H63 := Lib.hid (show k + 1 ≤ maxLen by simp [maxLen]; omega)
          have HSz := Lib.hid HE3.out.size
          clear hE2
          go_wp2_with (at_builtin; refine wpList_append_own _ rfl _ _ 58 rfl w.heap.size 35 i0 _ 2 16 Try.underlying58 hi0 hz0 hz1 hz2 rfl (by decide) _ _ _ rfl HO3.out ⟨w2.heap.size + 1, 0, none⟩ 1 1 [.int .i64 lo, .int .i64 hi] rfl rfl HNews.out (by simp [Value.oneCell']) H63.out (by omega) HSz.out ?_; intro v7 w7 hown7 hgrow7 _)
          have HO7 := Lib.hid hown7
          have HE7 := Lib.hid (ext_append HE3.out HO3.out hgrow7)
          clear hown7 hgrow7
          go_wp2
          go_roundw
          case rel => exact ⟨k + 1, by omega, by go_num, HE7.out, by rw [HSk.out, spanCells_snoc]; exact HO7.out, HNo2.out⟩
          case measure => simp [intOf]; omega
        · have hcb : (rc != 0) = true := by simpa using hc
          have HB2 := Lib.hid (HBk.out rc rfl hc)
          clear hc
          go_wp2_with fail
          refine (HRr.out _ (by repeat (first | with_reducible exact Ext.refl _ | with_reducible refine Ext.alloc ?_ _))).mono ?_
          rintro e w2 ⟨rfl, hE2⟩
          have HX2 := Lib.hid (show Ext wr w2 from Ext.trans (by repeat (first | with_reducible exact Ext.refl _ | with_reducible refine Ext.alloc ?_ _)) hE2)
          clear hE2
          go_wp2
          go_ret2
          have hq := HB2.out
          injection hq with hq1 hq2
          exact (show RanksPost L c w (.returned (.tuple #[.slice none 0 0, .int .i64 rc])) _ from ⟨(HE.out.trans HX2.out).alloc _, none, 0, by rw [← hq1, ← hq2]; rfl, by rw [← hq1]; exact fun k hk => by simp at hk⟩)
      · obtain rfl : k = l.length := by omega
        have HFin := Lib.hid (HOk.out HAl.out)
        obtain ⟨A4, c4, rfl, -⟩ := own_form hO
        have HSp := Lib.hid (Spans.of_own hO).2
        have HLe := Lib.hid (show ∀ k, k < l.length → ((resTo l l.length).getD k (0, 0)).1 ≤ ((resTo l l.length).getD k (0, 0)).2 from fun k hk => by rw [HRg.out k hk]; exact range_le (HAl.out k hk))
        generalize resTo l l.length = R at *
        have HRl2 := Lib.hid HRl.out
        have HTn := Lib.hid (rkTo_succ R)
        have HT0 := Lib.hid (show rkTo R 0 = [] from rfl)
        obtain ⟨wa, rfl⟩ : ∃ wa : World, wa = wr := ⟨_, rfl⟩
        clear hE hO hall HAl HBad HOk
        go_wp2_with fail
        go_loopw [5, 9] (fun v5 vc wr => ∃ i : Nat, i ≤ l.length ∧ vc = .int .i64 i ∧ Ext wa wr ∧ wr.ownsRow wa.heap.size 35 2 v5 i (spanCells (rkTo R i))) (fun _ vc _ => l.length - (intOf vc).toNat)
        case atStart => exact ⟨0, by omega, rfl, Ext.refl _, by rw [HT0.out]; exact World.ownsRow_nil _ _ _ _⟩
        case round =>
          obtain ⟨i, hi, rfl, hE2, hO2⟩ := hrel
          have HE2 := Lib.hid hE2
          have HO2 := Lib.hid hO2
          by_cases hli : (i : Int) < l.length
          · obtain ⟨sb, soff, sx, sy, rfl, hsb, hs1, hs2, hsi⟩ := (HSp.out.ext hE2).get (show i < R.length by have := HRl2.out; omega)
            have hle := HLe.out i (by omega)
            rw [hsi.out] at hle
            simp only at hle
            have HTi := Lib.hid (HTn.out i)
            have HLb := Lib.hid (rkLo_bd R i)
            have HHb := Lib.hid (rkHi_bd R i)
            have HLn := Lib.hid (show ∀ k x y, R.getD k (0, 0) = (x, y) → rkLo R i (k + 1) = if sy < x then rkLo R i k + 1 else rkLo R i k from fun k x y hq => by rw [rkLo, hsi.out, hq])
            have HHn := Lib.hid (show ∀ k x y, R.getD k (0, 0) = (x, y) → rkHi R i (k + 1) = if k ≠ i ∧ sx < y then rkHi R i k + 1 else rkHi R i k from fun k x y hq => by rw [rkHi, hsi.out, hq])
            have HL0 := Lib.hid (show rkLo R i 0 = 1 ∧ rkHi R i 0 = 1 from ⟨rfl, rfl⟩)
            obtain ⟨wo, rfl⟩ : ∃ wo : World, wo = wr := ⟨_, rfl⟩
            have HCell := Lib.hid (show ∀ W, Ext wo W → sb < W.heap.size ∧ W.cell? ⟨sb, soff + i * 2, none⟩ = some (.int .i64 sx) ∧ W.cell? ⟨sb, soff + i * 2 + 1, none⟩ = some (.int .i64 sy) from fun W e => ⟨Nat.lt_of_lt_of_le hsb e.size, (e.cellOf (p := ⟨sb, _, none⟩) hsb).trans hs1, (e.cellOf (p := ⟨sb, _, none⟩) hsb).trans hs2⟩)
            clear hE2 hO2
            go_wp2_with fail
            go_loopw [11] (fun vc wr => ∃ k : Nat, k ≤ l.length ∧ vc = .int .i64 k ∧ Ext wo wr ∧ Blk wr wo.heap.size 35 #[.int .i64 (rkLo R i k), .int .i64 (rkHi R i k)]) (fun vc _ => l.length - (intOf vc).toNat)
            case atStart => exact ⟨0, by omega, rfl, (Ext.refl _).alloc _, by rw [HL0.out.1, HL0.out.2]; exact Blk.new _ _ _⟩
            case round =>
              obtain ⟨k, hk, rfl, hE3, hB12⟩ := hrel
              have HE3 := Lib.hid hE3
              have HB12 := Lib.hid hB12

              by_cases hlk : (k : Int) < l.length
              · obtain ⟨sb', soff', x, y, he, hkb, hk1, hk2, hki⟩ := (HSp.out.ext (HE2.out.trans hE3)).get (show k < R.length by have := HRl2.out; omega)
                injection he with he
                injection he with he1 he2
                subst he1
                subst he2
                obtain ⟨z0, z1, z2⟩ := HCell.out _ hE3
                have hlb := HLb.out k
                have hhb := HHb.out k
                have HLk := Lib.hid (HLn.out k x y hki.out)
                have HHk := Lib.hid (HHn.out k x y hki.out)
                have HSame := Lib.hid (show k = i → x = sx ∧ y = sy from fun e => by
                  have hq := hki.out
                  rw [e, hsi.out] at hq
                  injection hq with q1 q2
                  exact ⟨q1.symm, q2.symm⟩)
                have hB12' := hB12
                generalize rkLo R i k = lk at *
                generalize rkHi R i k = hk' at *
                have g0 : wr.cell? ⟨wo.heap.size, 0, none⟩ = some (.int .i64 lk) := hB12.cell 0
                have g1 : wr.cell? ⟨wo.heap.size, 1, none⟩ = some (.int .i64 hk') := hB12.cell 1
                have f0 : wr.frozen? ⟨wo.heap.size, 0, none⟩ = false := hB12.free 0
                have f1 : wr.frozen? ⟨wo.heap.size, 1, none⟩ = false := hB12.free 1
                have hlt12 : wo.heap.size < wr.heap.size := hB12.lt
                obtain ⟨hl1, hl2⟩ := hlb
                obtain ⟨hh1, hh2⟩ := hhb
                clear hE3 hB12 hB12' hki
                by_cases hsame : k = i
                ·
                  have hxy := HSame.out hsame
                  obtain ⟨hx1, hy1⟩ := hxy
                  have hnk : ((k : Int) != (i : Int)) = false := by simp; omega
                  have hq1 : x ≤ sy := by omega
                  have HL := Lib.hid (show rkLo R i (k + 1) = lk by rw [HLk.out, if_neg (by omega)])
                  have HH := Lib.hid (show rkHi R i (k + 1) = hk' by rw [HHk.out, if_neg (fun q => q.1 hsame)])
                  clear hx1 hy1 hsame
                  go_wp2_with fail
                  go_quiet (fail)
                  go_wp2_with fail
                  go_quiet (fail)
                  go_wp2
                  go_roundw
                  case rel => exact ⟨k + 1, by omega, by go_num, (by repeat (first | with_reducible exact HE3.out | with_reducible refine Ext.drew ?_ | with_reducible refine Ext.drewN ?_ _ | with_reducible refine Ext.alloc ?_ _ | ((with_reducible refine Below.setCell ?_ ?_ _); rotate_left; simp))), by rw [HL.out, HH.out]; exact HB12.out⟩
                  case measure => simp [intOf]; omega
                ·
                  by_cases ha : sy < x
                  ·
                    by_cases hb : sx < y
                    ·
                      have hnk : ((k : Int) != (i : Int)) = true := by simp; omega
                      have HL := Lib.hid (show rkLo R i (k + 1) = (lk + 1) by rw [HLk.out, if_pos ha])
                      have HH := Lib.hid (show rkHi R i (k + 1) = (hk' + 1) by rw [HHk.out, if_pos ⟨hsame, hb⟩])
                      clear hsame
                      go_wp2_with fail
                      go_quiet (fail)
                      go_wp2_with fail
                      go_quiet (fail)
                      go_wp2
                      go_roundw
                      case rel => exact ⟨k + 1, by omega, by go_num, (by repeat (first | with_reducible exact HE3.out | with_reducible refine Ext.drew ?_ | with_reducible refine Ext.drewN ?_ _ | with_reducible refine Ext.alloc ?_ _ | ((with_reducible refine Below.setCell ?_ ?_ _); rotate_left; simp))), by rw [HL.out, HH.out]; exact ((HB12.out.set 0 (.int .i64 (lk + 1))).set 1 (.int .i64 (hk' + 1)))⟩
                      case measure => simp [intOf]; omega
                    ·
                      have hnk : ((k : Int) != (i : Int)) = true := by simp; omega
                      have HL := Lib.hid (show rkLo R i (k + 1) = (lk + 1) by rw [HLk.out, if_pos ha])
                      have HH := Lib.hid (show rkHi R i (k + 1) = hk' by rw [HHk.out, if_neg (fun q => hb q.2)])
                      have hb2 : y ≤ sx := by omega
                      clear hb
                      clear hsame
                      go_wp2_with fail
                      go_quiet (fail)
                      go_wp2_with fail
                      go_quiet (fail)
                      go_wp2
                      go_roundw
                      case rel => exact ⟨k + 1, by omega, by go_num, (by repeat (first | with_reducible exact HE3.out | with_reducible refine Ext.drew ?_ | with_reducible refine Ext.drewN ?_ _ | with_reducible refine Ext.alloc ?_ _ | ((with_reducible refine Below.setCell ?_ ?_ _); rotate_left; simp))), by rw [HL.out, HH.out]; exact (HB12.out.set 0 (.int .i64 (lk + 1)))⟩
                      case measure => simp [intOf]; omega
                  ·
                    by_cases hb : sx < y
                    ·
                      have hnk : ((k : Int) != (i : Int)) = true := by simp; omega
                      have HL := Lib.hid (show rkLo R i (k + 1) = lk by rw [HLk.out, if_neg ha])
                      have HH := Lib.hid (show rkHi R i (k + 1) = (hk' + 1) by rw [HHk.out, if_pos ⟨hsame, hb⟩])
                      have ha2 : x ≤ sy := by omega
                      clear ha
                      clear hsame
                      go_wp2_with fail
                      go_quiet (fail)
                      go_wp2_with fail
                      go_quiet (fail)
                      go_wp2
                      go_roundw
                      case rel => exact ⟨k + 1, by omega, by go_num, (by repeat (first | with_reducible exact HE3.out | with_reducible refine Ext.drew ?_ | with_reducible refine Ext.drewN ?_ _ | with_reducible refine Ext.alloc ?_ _ | ((with_reducible refine Below.setCell ?_ ?_ _); rotate_left; simp))), by rw [HL.out, HH.out]; exact (HB12.out.set 1 (.int .i64 (hk' + 1)))⟩
                      case measure => simp [intOf]; omega
                    ·
                      have hnk : ((k : Int) != (i : Int)) = true := by simp; omega
                      have HL := Lib.hid (show rkLo R i (k + 1) = lk by rw [HLk.out, if_neg ha])
                      have HH := Lib.hid (show rkHi R i (k + 1) = hk' by rw [HHk.out, if_neg (fun q => hb q.2)])
                      have ha2 : x ≤ sy := by omega
                      clear ha
                      have hb2 : y ≤ sx := by omega
                      clear hb
                      clear hsame
                      go_wp2_with fail
                      go_quiet (fail)
                      go_wp2_with fail
                      go_quiet (fail)
                      go_wp2
                      go_roundw
                      case rel => exact ⟨k + 1, by omega, by go_num, (by repeat (first | with_reducible exact HE3.out | with_reducible refine Ext.drew ?_ | with_reducible refine Ext.drewN ?_ _ | with_reducible refine Ext.alloc ?_ _ | ((with_reducible refine Below.setCell ?_ ?_ _); rotate_left; simp))), by rw [HL.out, HH.out]; exact HB12.out⟩
                      case measure => simp [intOf]; omega
              · obtain rfl : k = l.length := by omega
                have HTj := Lib.hid (show rkTo R (i + 1) = rkTo R i ++ [(rkLo R i l.length, rkHi R i l.length)] by rw [HTi.out, HRl2.out])
                generalize rkLo R i l.length = lk at *
                generalize rkHi R i l.length = hk' at *
                have g0 : wr.cell? ⟨wo.heap.size, 0, none⟩ = some (.int .i64 lk) := hB12.cell 0
                have g1 : wr.cell? ⟨wo.heap.size, 1, none⟩ = some (.int .i64 hk') := hB12.cell 1
                have HE4 := Lib.hid ((HE2.out.trans hE3).alloc (.cells #[.int .i64 lk, .int .i64 hk'] 35))
                have HO4 := Lib.hid (own_alloc (own_ext HO2.out hE3) (.cells #[.int .i64 lk, .int .i64 hk'] 35))
                have HNews := Lib.hid (Blk.new wr 35 #[.int .i64 lk, .int .i64 hk']).news
                have H63 := Lib.hid (show i + 1 ≤ maxLen by simp [maxLen]; omega)
                have HSz := Lib.hid HE4.out.size
                clear hE3 hB12
                go_wp2_with (at_builtin; refine wpList_append_own _ rfl _ _ 58 rfl wa.heap.size 35 i0 _ 2 16 Try.underlying58 hi0 hz0 hz1 hz2 rfl (by decide) _ _ _ rfl HO4.out ⟨wr.heap.size, 0, none⟩ 1 1 [.int .i64 lk, .int .i64 hk'] rfl rfl HNews.out (by simp [Value.oneCell']) H63.out (by omega) HSz.out ?_; intro v7 w7 hown7 hgrow7 _)
                have HO7 := Lib.hid hown7
                have HE7 := Lib.hid (ext_append HE4.out HO4.out hgrow7)
                clear hown7 hgrow7
                go_wp2
                go_roundw
                case rel => exact ⟨i + 1, by omega, by go_num, HE7.out, by rw [HTj.out, spanCells_snoc]; exact HO7.out⟩
                case measure => simp [intOf]; omega
          · obtain rfl : i = l.length := by omega
            obtain ⟨A5, c5, rfl, -⟩ := own_form hO2
            have HSp5 := Lib.hid (Spans.of_own hO2).2
            clear hE2 hO2
            go_wp2
            go_ret2
            have hq := HFin.out
            injection hq with hq1 hq2
            have hlen : L.length = l.length := by rw [← hq1, rkTo_len]
            exact (show RanksPost L c w (.returned (.tuple #[.slice A5 l.length c5, .int .i64 0])) wr from ⟨HE.out.trans HE2.out, A5, c5, by rw [hlen, hq2], by rw [← hq1]; exact HSp5.out⟩)
end Go.Proofs.Ytbpilgflejdhaaa
/-! Exams: papers in a slice that came in, and in a row of the call's own. -/
namespace Go.Proofs.Ytbpilgflejdhaaa
open Go.RowKit Go.ChangeShapes Go.WideShapes Go.Deep

section
variable {H : Type} {enc : TypeId × Value → H} {w : World} {base : Nat} {held : Bool}
theorem rdx_papers {n : Nat} {v : Value} {y : DataW H × List MemPlace} (h : DataW.trod enc Try.prog w base (fun _ => true) held n 64 [v] = some y) :
    ∃ A c, ∃ l : List Paper, v = .slice A l.length c ∧ PapersAt w A l ∧ l.length ≤ 9223372036854775807 := by
  obtain ⟨k1, k2, k3, k4, k5, k6, k7, k8⟩ := cells_sizes
  obtain ⟨A, len, cap, rfl, hl, hn, hx⟩ := rd_slice Try.underlying64 k6 (by omega) h
  have key : ∀ i, i < len → ∃ x : Paper, ∃ b off iA jA gA ic jc gc, A = some ⟨b, off, none⟩ ∧ b < w.heap.size ∧
      w.cell? ⟨b, off + i * 4, none⟩ = some (.slice iA x.items.length ic) ∧ w.cell? ⟨b, off + i * 4 + 1, none⟩ = some (.slice jA x.judges.length jc) ∧ w.cell? ⟨b, off + i * 4 + 2, none⟩ = some (.int .i64 x.wrong) ∧ w.cell? ⟨b, off + i * 4 + 3, none⟩ = some (.slice gA x.grades.length gc) ∧ PaperAt w iA jA gA x := by
    intro i hi
    obtain ⟨b, off, m, cs, z, hA, hb, hlen, hcell, ht'⟩ := hx i hi
    obtain ⟨x, iA, jA, gA, ic, jc, gc, rfl, hP, _⟩ := rdx_paper ht'
    exact ⟨x, b, off, iA, jA, gA, ic, jc, gc, hA, hb, hcell 0 (by omega), hcell 1 (by omega), hcell 2 (by omega), hcell 3 (by omega), hP⟩
  obtain ⟨f, hf⟩ := choose_lt key
  have hlen : ((List.range len).map f).length = len := by simp
  refine ⟨A, cap, (List.range len).map f, by rw [hlen], fun k hk => ?_, by omega⟩
  rw [hlen] at hk
  have : ((List.range len).map f).getD k default = f k := by simp [List.getD, hk]
  rw [this]
  exact hf k hk
end

theorem own_step {w w' : World} {base base' size size' n m : Nat} {e e' : TypeId} {v v' : Value} {xs ys : List Value} (h : w.ownsRow base e size v n xs) (hown : w.ownsRow base' e' size' v' m ys) (hne : e' ≠ e) (hg : w.grownBy w' v'.ownBlock) : w'.ownsRow base e size v n xs := by
  refine h.kept hg ?_
  cases hv : v.ownBlock with
  | none => exact .inl rfl
  | some g =>
    right
    intro he
    obtain ⟨cur, t, fr, h1, h2⟩ := own_type hown hne g he.symm
    rcases h.2 with ⟨hv2, _⟩ | ⟨g', cap, cur', hv2, _, h3, _⟩
    · rw [hv2] at hv; cases hv
    · rw [hv2] at hv
      injection hv with hv
      subst hv
      rw [h3] at h1
      injection h1 with h1
      injection h1 with _ h4
      exact h2 h4.symm
theorem CopyAt.append {w w' : World} {B base n : Nat} {iA jA gA : Option Addr} {ic jc gc : Nat} {p : Paper} {ms : List (Option Addr × Nat)} {v : Value} {xs : List Value} (h : CopyAt w B iA jA gA ic jc gc p ms) (hown : w.ownsRow base 26 4 v n xs) (hg : w.grownBy w' v.ownBlock) : CopyAt w' B iA jA gA ic jc gc p ms :=
  ⟨h.ml, h.it.append hown (by decide) hg, h.gr.append hown (by decide) hg, own_step h.ju hown (by decide) hg, fun k hk => (h.ma k hk).append hown (by decide) hg⟩

/-- Where a copy lies. -/
structure PLoc where
  iA : Option Addr
  jA : Option Addr
  gA : Option Addr
  ic : Nat
  jc : Nat
  gc : Nat
def ppC (L : List (Paper × PLoc)) : List Value := L.flatMap fun x => [.slice x.2.iA x.1.items.length x.2.ic, .slice x.2.jA x.1.judges.length x.2.jc, .int .i64 x.1.wrong, .slice x.2.gA x.1.grades.length x.2.gc]
theorem ppC_app (L L' : List (Paper × PLoc)) : ppC (L ++ L') = ppC L ++ ppC L' := by simp [ppC]
theorem ppC_get : ∀ (L : List (Paper × PLoc)) (k : Nat) (h : k < L.length), (ppC L)[k * 4]? = some (.slice L[k].2.iA L[k].1.items.length L[k].2.ic) ∧ (ppC L)[k * 4 + 1]? = some (.slice L[k].2.jA L[k].1.judges.length L[k].2.jc) ∧ (ppC L)[k * 4 + 2]? = some (.int .i64 L[k].1.wrong) ∧ (ppC L)[k * 4 + 3]? = some (.slice L[k].2.gA L[k].1.grades.length L[k].2.gc)
  | x :: L, 0, _ => by simp [ppC]
  | x :: L, k + 1, h => by
    have := ppC_get L k (by simpa using h)
    simp only [ppC, List.flatMap_cons] at this ⊢
    rw [show (k + 1) * 4 = k * 4 + 4 by omega, show k * 4 + 4 + 1 = k * 4 + 1 + 4 by omega, show k * 4 + 4 + 2 = k * 4 + 2 + 4 by omega, show k * 4 + 4 + 3 = k * 4 + 3 + 4 by omega]
    simpa using this
/-- Papers in a row of the call's own. -/
def PapOwn (w : World) (base : Nat) (v : Value) (l : List Paper) : Prop := ∃ L : List (Paper × PLoc), L.map (·.1) = l ∧ w.ownsRow base 26 4 v l.length (ppC L) ∧ ∀ x ∈ L, ∃ B ms, CopyAt w B x.2.iA x.2.jA x.2.gA x.2.ic x.2.jc x.2.gc x.1 ms
theorem PapOwn.nil (w : World) (base : Nat) : PapOwn w base (.slice none 0 0) [] := ⟨[], rfl, World.ownsRow_nil _ _ _ _, fun x hx => by cases hx⟩
theorem PapOwn.ext {w w' : World} {base : Nat} {v : Value} {l : List Paper} (h : PapOwn w base v l) (e : Ext w w') : PapOwn w' base v l := by
  obtain ⟨L, h1, h2, h3⟩ := h
  exact ⟨L, h1, own_ext h2 e, fun x hx => by obtain ⟨B, ms, h4⟩ := h3 x hx; exact ⟨B, ms, h4.ext e⟩⟩
theorem PapOwn.papers {w : World} {base c : Nat} {A : Option Addr} {l : List Paper} (h : PapOwn w base (.slice A l.length c) l) (hsz : ∀ p ∈ l, p.items.length ≤ 20 ∧ p.judges.length ≤ 20 ∧ p.grades.length ≤ 20 ∧ ∀ k, k < p.judges.length → (p.judges.getD k default).marks.length ≤ 20) : PapersAt w A l := by
  obtain ⟨L, h1, h2, h3⟩ := h
  intro k hk
  obtain ⟨b, off, hA, hb, hc⟩ := (Sl.of_own h2).2 (by omega)
  have hk' : k < L.length := by rw [← List.length_map (f := (·.1)), h1]; exact hk
  obtain ⟨g0, g1, g2, g3⟩ := ppC_get L k hk'
  have e : l.getD k default = L[k].1 := by rw [← h1]; simp [List.getD, hk']
  rw [e]
  obtain ⟨B, ms, h4⟩ := h3 _ (List.getElem_mem hk')
  obtain ⟨s1, s2, s3, s4⟩ := hsz L[k].1 (by rw [← h1]; exact List.mem_map_of_mem (List.getElem_mem hk'))
  exact ⟨b, off, L[k].2.iA, L[k].2.jA, L[k].2.gA, L[k].2.ic, L[k].2.jc, L[k].2.gc, hA, hb, hc _ _ g0, by rw [Nat.add_assoc]; exact hc _ _ g1, by rw [Nat.add_assoc]; exact hc _ _ g2, by rw [Nat.add_assoc]; exact hc _ _ g3,
    h4.paper (by omega) (by omega) (by omega) (fun q hq => by have := s4 q hq; omega)⟩
end Go.Proofs.Ytbpilgflejdhaaa
