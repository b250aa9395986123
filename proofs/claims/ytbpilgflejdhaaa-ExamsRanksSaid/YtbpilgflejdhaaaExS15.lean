/- Exams: the walk over ExamsRanks. -/
import Derived.Test.YtbpilgflejdhaaaExS12
import Derived.Test.YtbpilgflejdhaaaExRka
namespace Go.Proofs.Ytbpilgflejdhaaa
open Go.RowKit

theorem paper_info : (Try.prog.info? 26).map (fun i => (i.zero, i.size, i.bytes)) = some (some (.agg #[.slice none 0 0, .slice none 0 0, .int .i64 0, .slice none 0 0]), 4, 80) := by kernel_rfl
theorem ranksM_len (l : List Paper) : (ranksM l).1.length ≤ l.length := by
  unfold ranksM
  split
  · simp
  · split
    · simp
    · simp only [rkTo_len]; exact Nat.le_refl _

set_option maxHeartbeats 2000000 in
theorem ranks_early (A : Option Addr) (cp : Nat) (l : List Paper) (w : World) (hc : 20 < l.length ∨ (4 < l.length ∧ l.length ≤ 6)) :
    Calls Try.prog 10 #[.slice A l.length cp] w fun e w' => e = .returned (.bool true) ∧ Ext w w' := by
  by_cases h20 : 20 < l.length
  · have h20' : (20 : Int) < l.length := by omega
    clear hc h20
    go_enter Try.func10, Try.ntmps10
    go_wp2_with fail
    refine (works_any _).mono ?_
    rintro e w5 ⟨rfl, hE5⟩
    go_wp2
    go_ret
    exact ⟨rfl, hE5⟩
  · have h20' : (l.length : Int) ≤ 20 := by omega
    have h4 : (4 : Int) < l.length := by omega
    have h6 : (l.length : Int) ≤ 6 := by omega
    clear hc h20
    go_enter Try.func10, Try.ntmps10
    go_wp2_with fail
    refine (works_any _).mono ?_
    rintro e w5 ⟨rfl, hE5⟩
    go_wp2
    go_ret
    exact ⟨rfl, hE5⟩

set_option maxHeartbeats 8000000 in
set_option maxRecDepth 100000 in
theorem ranks_main (A : Option Addr) (cp : Nat) (l : List Paper) (w : World) (h : PapersAt w A l) (h20 : l.length ≤ 20) (hc : l.length ≤ 4 ∨ 6 < l.length) :
    Calls Try.prog 10 #[.slice A l.length cp] w fun e w' => e = .returned (.bool true) ∧ Ext w w' := by
  obtain ⟨i0, hi0, hz0, hz1, hz2⟩ := info_parts paper_info
  have HP := Lib.hid h
  obtain ⟨L, ck, hr⟩ : ∃ L ck, ranksM l = (L, ck) := ⟨_, _, rfl⟩
  have hll : L.length ≤ 9223372036854775807 := by have := ranksM_len l; rw [hr] at this; simp only at this; omega
  have HR1 := Lib.hid (fun B c W (hp : PapersAt W B l) => ranksP_any B c l L ck W hp (by omega) hr)
  have HR2 := Lib.hid (fun B c W (hp : PapersAt W B l) => ranksR_any B c l L ck W hp (by omega) hr)
  have HTk := Lib.hid (show ∀ k, k < l.length → l.take (k + 1) = l.take k ++ [l.getD k default] from fun k hk => by
    rw [List.take_succ_eq_append_getElem hk]; simp [List.getD, hk])
  have HTl := Lib.hid (show ∀ k, k ≤ l.length → (l.take k).length = k from fun k hk => by rw [List.length_take]; omega)
  have HTf := Lib.hid (show l.take l.length = l from List.take_length)
  have HT0 := Lib.hid (show l.take 0 = [] from rfl)
  have HSz := Lib.hid (show (∀ j, j < l.length → farM (l.getD j default) = false) → ∀ p ∈ l, p.items.length ≤ 20 ∧ p.judges.length ≤ 20 ∧ p.grades.length ≤ 20 ∧ ∀ k, k < p.judges.length → (p.judges.getD k default).marks.length ≤ 20 from fun hq p hp => by
    obtain ⟨k, hk, rfl⟩ := List.getElem_of_mem hp
    have := hq k hk
    rw [List.getD, List.getElem?_eq_getElem hk] at this
    exact far_bounds this)
  have h20' : (l.length : Int) ≤ 20 := by omega
  have hc' : (l.length : Int) ≤ 4 ∨ (6 : Int) < l.length := by omega
  clear h hr hc
  rcases hc' with hq4 | hq6
  all_goals
    go_enter Try.func10, Try.ntmps10
    go_wp2_with fail
    go_loopw [3, 4] (fun v3 v4 wr => ∃ k : Nat, k ≤ l.length ∧ v4 = .int .i64 k ∧ Ext w wr ∧ PapOwn wr w.heap.size v3 (l.take k) ∧ ∀ j, j < k → farM (l.getD j default) = false) (fun _ v4 _ => l.length - (intOf v4).toNat)
    case atStart => exact ⟨0, by omega, rfl, Ext.refl _, by rw [HT0.out]; exact PapOwn.nil _ _, fun j hj => by omega⟩
    case round =>
      obtain ⟨k, hk, rfl, hE, hO, hall⟩ := hrel
      have HE := Lib.hid hE
      have HAl := Lib.hid hall
      have htl := HTl.out k hk
      by_cases hlt : (k : Int) < l.length
      · obtain ⟨pb, poff, iA, jA, gA, ic, jc, gc, rfl, hpb, hp0, hp1, hp2, hp3, hP⟩ := (HP.out.ext hE) k (by omega)
        have HTk2 := Lib.hid (HTk.out k (by omega))
        have HNo := Lib.hid (show farM (l.getD k default) = false → ∀ j, j < k + 1 → farM (l.getD j default) = false from fun hq j hj => by
          by_cases e : j = k
          · rw [e]; exact hq
          · exact HAl.out j (by omega))
        generalize l.getD k default = pk at *
        have HFar := Lib.hid (far_any iA jA gA ic jc gc pk wr hP)
        obtain ⟨Lx, hLx, hox, hcx⟩ := hO
        have HLx := Lib.hid hLx
        have HOx := Lib.hid hox
        have HCx := Lib.hid hcx
        have HTl2 := Lib.hid htl
        generalize l.take k = tk at *
        cases hf : farM pk
        · rw [hf] at HFar HNo
          obtain ⟨hi20, hj20, hg20, hmk⟩ := far_bounds hf
          have HCp := Lib.hid (fun W (e : Ext wr W) => copy_any iA jA gA ic jc gc pk W (hP.ext e) hi20 hj20 hg20 hmk)
          have HNo2 := Lib.hid (HNo.out rfl)
          have HK := Lib.hid (show ∀ W, Ext wr W → (pb < W.heap.size ∧ W.cell? ⟨pb, poff + k * 4, none⟩ = some (.slice iA pk.items.length ic) ∧ W.cell? ⟨pb, poff + k * 4 + 1, none⟩ = some (.slice jA pk.judges.length jc) ∧ W.cell? ⟨pb, poff + k * 4 + 2, none⟩ = some (.int .i64 pk.wrong) ∧ W.cell? ⟨pb, poff + k * 4 + 3, none⟩ = some (.slice gA pk.grades.length gc)) from fun W e =>
            ⟨Nat.lt_of_lt_of_le hpb e.size, (e.cellOf (p := ⟨pb, _, none⟩) hpb).trans hp0, (e.cellOf (p := ⟨pb, _, none⟩) hpb).trans hp1, (e.cellOf (p := ⟨pb, _, none⟩) hpb).trans hp2, (e.cellOf (p := ⟨pb, _, none⟩) hpb).trans hp3⟩)
          clear hE hall hP hLx hox hcx htl hf hi20 hj20 hg20 hmk
          go_wp2_with fail
          refine HFar.out.mono ?_
          rintro e w1 ⟨rfl, hE1⟩
          have HE1 := Lib.hid hE1
          clear hpb hp0 hp1 hp2 hp3
          obtain ⟨hpb, hp0, hp1, hp2, hp3⟩ := HK.out _ hE1
          clear hE1
          go_wp2_with fail
          refine (HCp.out _ HE1.out).mono ?_
          rintro e w2 ⟨iQ, jQ, gQ, iqc, jqc, gqc, rfl, hE2, ms, hcp⟩
          have HX2 := Lib.hid (HE1.out.trans hE2)
          have HE2 := Lib.hid (HE.out.trans HX2.out)
          have HCq := Lib.hid hcp
          have htk : tk.length + 1 ≤ 21 := by have := HTl2.out; omega
          have H63 := Lib.hid (show tk.length + 1 ≤ maxLen by simp [maxLen]; omega)
          have HE3 := Lib.hid (HE2.out.alloc (.cells #[.slice iQ pk.items.length iqc, .slice jQ pk.judges.length jqc, .int .i64 pk.wrong, .slice gQ pk.grades.length gqc] 26))
          have HX3 := Lib.hid (Ext.of_alloc w2 (.cells #[.slice iQ pk.items.length iqc, .slice jQ pk.judges.length jqc, .int .i64 pk.wrong, .slice gQ pk.grades.length gqc] 26))
          have HO3 := Lib.hid (own_ext (own_ext HOx.out HX2.out) HX3.out)
          have HNews := Lib.hid (Blk.new w2 26 #[.slice iQ pk.items.length iqc, .slice jQ pk.judges.length jqc, .int .i64 pk.wrong, .slice gQ pk.grades.length gqc]).news
          have HSz2 := Lib.hid HE3.out.size
          clear hE2 hcp
          go_wp2_with (at_builtin; refine wpList_append_own _ rfl _ _ 64 rfl w.heap.size 26 i0 _ 4 80 Try.underlying64 hi0 hz0 hz1 hz2 rfl (by decide) _ _ _ rfl HO3.out ⟨w2.heap.size, 0, none⟩ 1 1 [.slice iQ pk.items.length iqc, .slice jQ pk.judges.length jqc, .int .i64 pk.wrong, .slice gQ pk.grades.length gqc] rfl rfl HNews.out (by simp [Value.oneCell']) H63.out (by omega) HSz2.out ?_; intro v7 w7 hown7 hgrow7 _)
          have HE7 := Lib.hid (ext_append HE3.out HO3.out hgrow7)
          have HO7 := Lib.hid (show PapOwn w7 w.heap.size v7 (l.take (k + 1)) from ⟨Lx ++ [(pk, ⟨iQ, jQ, gQ, iqc, jqc, gqc⟩)], by rw [HTk2.out, List.map_append, HLx.out]; rfl, by
            rw [HTk2.out, List.length_append, ppC_app]
            exact hown7, fun x hx => by
            rcases List.mem_append.1 hx with hx | hx
            · obtain ⟨B, ms', h4⟩ := HCx.out x hx
              exact ⟨B, ms', ((h4.ext HX2.out).ext HX3.out).append HO3.out hgrow7⟩
            · have e : x = (pk, ⟨iQ, jQ, gQ, iqc, jqc, gqc⟩) := by simpa using hx
              subst e
              exact ⟨_, _, (HCq.out.ext HX3.out).append HO3.out hgrow7⟩⟩)
          clear hown7 hgrow7 htk
          go_wp2
          go_roundw
          case rel => exact ⟨k + 1, by omega, by go_num, HE7.out, HO7.out, HNo2.out⟩
          case measure => simp [intOf]; omega
        · rw [hf] at HFar
          clear hE hall hP hLx hox hcx htl hf
          go_wp2_with fail
          refine HFar.out.mono ?_
          rintro e w1 ⟨rfl, hE1⟩
          have HE1 := Lib.hid (HE.out.trans hE1)
          clear hE1
          go_wp2_with fail
          refine (works_any _).mono ?_
          rintro e w5 ⟨rfl, hE5⟩
          have HE5 := Lib.hid (HE1.out.trans hE5)
          clear hE5
          go_wp2
          go_ret
          exact ⟨rfl, HE5.out⟩
      · obtain rfl : k = l.length := by omega
        rw [HTf.out] at hO
        obtain ⟨A3, c3, rfl⟩ : ∃ A3 c3, _ = Value.slice A3 l.length c3 := by
          obtain ⟨Lx, _, hox, _⟩ := hO
          obtain ⟨A, c, hv, _⟩ := own_form hox
          exact ⟨A, c, hv⟩
        have HPs := Lib.hid (hO.papers (HSz.out HAl.out))
        clear hE hO hall htl
        go_wp2_with fail
        refine (HR1.out A3 c3 _ HPs.out).mono ?_
        rintro e w1 ⟨hE1, B1, d1, rfl, hS1⟩
        have HE1 := Lib.hid (HE.out.trans hE1)
        have HS1 := Lib.hid hS1
        clear hE1 hS1
        go_wp2_with fail
        refine (HR2.out A cp _ (HP.out.ext HE1.out)).mono ?_
        rintro e w2 ⟨hE2, B2, d2, rfl, hS2⟩
        have HE2 := Lib.hid (HE1.out.trans hE2)
        have HS1 := Lib.hid (HS1.out.ext hE2)
        have HS2 := Lib.hid hS2
        clear hE2 hS2
        go_wp2_with fail
        refine (sameSpans_any B1 B2 d1 d2 L _ HS1.out HS2.out hll).mono ?_
        rintro e w3 ⟨rfl, hE3⟩
        have HE3 := Lib.hid (HE2.out.trans hE3)
        clear hE3
        go_wp2_with fail
        refine (works_any _).mono ?_
        rintro e w4 ⟨rfl, hE4⟩
        have HE4 := Lib.hid (HE3.out.trans hE4)
        clear hE4
        go_wp2
        go_ret
        exact ⟨rfl, HE4.out⟩

theorem ranks_law (A : Option Addr) (cp : Nat) (l : List Paper) (w : World) (h : PapersAt w A l) :
    Calls Try.prog 10 #[.slice A l.length cp] w fun e w' => e = .returned (.bool true) ∧ Ext w w' := by
  by_cases hc : 20 < l.length ∨ (4 < l.length ∧ l.length ≤ 6)
  · exact ranks_early A cp l w hc
  · exact ranks_main A cp l w h (by omega) (by omega)
end Go.Proofs.Ytbpilgflejdhaaa
