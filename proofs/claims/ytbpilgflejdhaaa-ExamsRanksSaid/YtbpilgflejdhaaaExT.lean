/- Exams: Blame. -/
import Derived.Test.YtbpilgflejdhaaaExS
namespace Go.Proofs.Ytbpilgflejdhaaa
open Go.RowKit

theorem int_info : (Try.prog.info? 3).map (fun i => (i.zero, i.size, i.bytes)) = some (some (.int .i64 0), 1, 8) := by kernel_rfl
theorem rightV_get (l : List Bool) (k : Nat) (h : k < l.length) : (rightV l)[k]? = some (.bool (l.getD k false)) := by
  simp [rightV, List.getD, h]
theorem ints_snoc (l : List Int) (x : Int) : (l ++ [x]).map (Value.int .i64) = l.map (Value.int .i64) ++ [.int .i64 x] := by simp

set_option maxHeartbeats 2000000 in
theorem blame_any (iA jA gA : Option Addr) (ic jc gc : Nat) (p : Paper) (l : List Int) (c : Int) (w : World) (h : PaperAt w iA jA gA p) (hr : blameM p = (l, c)) :
    Calls Try.prog 33 #[.agg #[.slice iA p.items.length ic, .slice jA p.judges.length jc, .int .i64 p.wrong, .slice gA p.grades.length gc]] w fun e w' => ∃ A cc, e = .returned (.tuple #[.slice A l.length cc, .int .i64 c]) ∧ Ints w' A l ∧ Ext w w' := by
  have HX := Lib.hid ((Ext.of_alloc w (.cells #[.slice iA p.items.length ic, .slice jA p.judges.length jc, .int .i64 p.wrong, .slice gA p.grades.length gc] 26)))
  unfold blameM at hr
  by_cases hk : knownE p true = 0
  · rw [if_pos hk] at hr
    have HO := Lib.hid (known_ok iA jA gA ic jc gc p true _ (h.ext HX.out) hk)
    injection hr with hr hc
    subst hc
    have HR := Lib.hid hr
    have hjl := (valid_of (knownE_ok hk).1).jl
    obtain ⟨i0, hi0, hz0, hz1, hz2⟩ := info_parts int_info
    have HS := Lib.hid (blameTo_succ (openM p).right)
    have HBL := Lib.hid (blameTo_len (openM p).right)
    have HZ := Lib.hid (show blameTo (openM p).right 0 = [] from rfl)
    clear hk hr h
    go_enter Try.func33, Try.ntmps33
    go_wp2_with fail
    refine HO.out.mono ?_
    rintro e w1 ⟨B, M, R, rc, rfl, hS1, hE1⟩
    have HE1 := Lib.hid hE1
    obtain ⟨c0, c1, c2, c3, c4, c5, c6, c7, c8, c9⟩ := hS1.cell
    have hB := hS1.ltB
    have hRR := hS1.ltR
    have HBool := Lib.hid (show ∀ k, k < p.judges.length → w1.cell? ⟨R, k, none⟩ = some (.bool ((openM p).right.getD k false)) from fun k hk => (hS1.right.cell k).trans (rightV_get _ _ (by have := hS1.rlen; omega)))
    generalize (openM p).right = rt at *
    clear hE1 hS1
    go_wp2_with fail
    go_loopw [6, 22] (fun v cn wr => ∃ k : Nat, k ≤ p.judges.length ∧ cn = .int .i64 k ∧ Ext w1 wr ∧ wr.ownsRow w1.heap.size 3 1 v (blameTo rt k).length ((blameTo rt k).map (Value.int .i64))) (fun _ cn _ => p.judges.length - (intOf cn).toNat)
    case atStart => exact ⟨0, by omega, rfl, Ext.refl _, by rw [HZ.out]; exact World.ownsRow_nil _ _ _ _⟩
    case round =>
      obtain ⟨k, hk, rfl, hE, hown⟩ := hrel
      have HE := Lib.hid hE
      have Hown := Lib.hid hown
      have HSk := Lib.hid (HS.out k)
      have hbl := HBL.out k
      by_cases hlt : k < p.judges.length
      · have hcell := (hE.cellOf (p := ⟨R, k, none⟩) hRR).trans (HBool.out k hlt)
        clear hown
        cases hb : rt.getD k false
        · rw [hb] at hcell HSk
          have HO2 := Lib.hid (Hown.out.alloc (.cells #[.int .i64 k] 3))
          have HE3 := Lib.hid (HE.out.alloc (.cells #[.int .i64 k] 3))
          have HNews := Lib.hid (Blk.new wr 3 #[.int .i64 k]).news
          have H63 := Lib.hid (show (blameTo rt k).length + 1 ≤ maxLen by simp [maxLen]; omega)
          have HSz2 := Lib.hid (show w1.heap.size ≤ (wr.alloc (.cells #[.int .i64 k] 3)).heap.size by have := hE.size; simp; omega)
          clear hE hb
          generalize blameTo rt k = bk at *
          go_wp2_with (at_builtin; refine wpList_append_own _ rfl _ _ 24 rfl w1.heap.size 3 i0 _ 1 8 Try.underlying24 hi0 hz0 hz1 hz2 rfl (by decide) _ _ _ rfl HO2.out ⟨wr.heap.size, 0, none⟩ 1 1 [.int .i64 k] rfl rfl HNews.out (by simp [Value.oneCell']) H63.out (by omega) HSz2.out ?_; intro v' w5 hown5 hgrow5 _)
          have HO5 := Lib.hid hown5
          have HE5 := Lib.hid (ext_append HE3.out HO2.out hgrow5)
          clear hown5 hgrow5
          go_wp2
          go_roundw
          case rel => exact ⟨k + 1, by omega, by go_num, HE5.out, by rw [HSk.out]; simp only [Bool.false_eq_true, if_false]; rw [ints_snoc, List.length_append]; exact HO5.out⟩
          case measure => simp [intOf]; omega
        · rw [hb] at hcell HSk
          clear hE hb
          go_wp2
          go_roundw
          case rel => exact ⟨k + 1, by omega, by go_num, HE.out, by rw [HSk.out]; simp only [if_true]; exact Hown.out⟩
          case measure => simp [intOf]; omega
      · obtain rfl : k = p.judges.length := by omega
        obtain ⟨A, cc, rfl, _⟩ := own_form hown
        clear hE hown
        go_wp2
        go_ret2
        have hI := (Ints.of_own Hown.out).2
        rw [HR.out] at hI
        exact ⟨A, cc, by rw [HR.out]; rfl, hI, (HX.out.trans HE1.out).trans HE.out⟩
  · rw [if_neg hk] at hr
    have HO := Lib.hid (known_err iA jA gA ic jc gc p true _ _ (h.ext HX.out) rfl hk)
    injection hr with h1 h2
    subst h1
    rw [h2] at HO hk
    have hc0 : (c != 0) = true := by simpa using hk
    clear hk h2 h
    go_enter Try.func33, Try.ntmps33
    go_wp2_with fail
    refine HO.out.mono ?_
    rintro e w1 ⟨rfl, hE1⟩
    have HE1 := Lib.hid hE1
    clear hE1
    go_wp2
    go_ret2
    exact ⟨none, 0, rfl, fun k hk => by simp at hk, HX.out.trans HE1.out⟩
end Go.Proofs.Ytbpilgflejdhaaa
