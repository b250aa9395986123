/- Exams: walks over the small functions. -/
import Derived.Test.YtbpilgflejdhaaaExDefs2
import Derived.Test.YtbpilgflejdhaaaProg
namespace Go.Proofs.Ytbpilgflejdhaaa
open Go.RowKit

theorem withinR (n lo hi : Int) (w : World) :
    Calls Try.prog 52 #[.int .i64 n, .int .i64 lo, .int .i64 hi] w fun e w' => e = .returned (.bool (wi n lo hi)) ∧ w' = w := by
  by_cases h1 : lo ≤ n
  · by_cases h2 : n ≤ hi
    · have h := Lib.hid (wi_of ⟨h1, h2⟩)
      go_enter Try.func52, Try.ntmps52
      go_wp2
      go_ret
      exact ⟨ret_bool h.out.symm, rfl⟩
    · have h := Lib.hid (show wi n lo hi = false by simp [wi, h2])
      go_enter Try.func52, Try.ntmps52
      go_wp2
      go_ret
      exact ⟨ret_bool h.out.symm, rfl⟩
  · have h := Lib.hid (show wi n lo hi = false by simp [wi, h1])
    go_enter Try.func52, Try.ntmps52
    go_wp2
    go_ret
    exact ⟨ret_bool h.out.symm, rfl⟩
theorem withinR' (n lo hi : Int) (w : World) :
    Calls Try.prog 52 #[.int .i64 n, .int .i64 lo, .int .i64 hi] w fun e w' => e = .returned (.bool (wi n lo hi)) ∧ w = w' :=
  (withinR n lo hi w).mono fun _ _ ⟨a, b⟩ => ⟨a, b.symm⟩

set_option maxHeartbeats 400000 in
theorem sameInts_any (A B : Option Addr) (c d : Nat) (a b : List Int) (w : World) (ha : Ints w A a) (hb : Ints w B b) (hal : a.length ≤ 9223372036854775807) (hbl : b.length ≤ 9223372036854775807) :
    Calls Try.prog 45 #[.slice A a.length c, .slice B b.length d] w fun e w' => e = .returned (.bool (decide (a = b))) ∧ Ext w w' := by
  by_cases hl : a.length = b.length
  · have HL := Lib.hid hl
    have hl1 : ((a.length : Int) != b.length) = false := by simp [hl]
    have hl2 : a.length ≤ b.length := by omega
    have hl3 : b.length ≤ a.length := by omega
    clear hl
    go_enter Try.func45, Try.ntmps45
    go_wp2
    go_loopw [5] (fun i wr => ∃ k n : Nat, k ≤ a.length ∧ i = .int .i64 k ∧ wr = w.drewN n ∧ sameTo a b k)
      (fun i _ => a.length - (intOf i).toNat)
    case atStart => exact ⟨0, 0, by omega, rfl, rfl, fun j h => by omega⟩
    case round =>
      obtain ⟨k, n, hk, rfl, rfl, hs⟩ := hrel
      by_cases hlt : k < a.length
      · obtain ⟨ba, oa, x, rfl, _, hca, hx⟩ := ha.get hlt
        obtain ⟨bb, ob, y, rfl, _, hcb, hy⟩ := hb.get (show k < b.length by omega)
        have hkb : k < b.length := by omega
        by_cases he : x = y
        · have hn : (x != y) = false := by rw [he]; simp
          have HE := Lib.hid (show a.getD k 0 = b.getD k 0 by rw [hx.out, hy.out, he])
          clear he
          go_wp2
          go_quiet (fail)
          go_wp2
          go_roundw
          case rel => exact ⟨k + 1, n + nq, by omega, by go_num, by simp, sameTo_succ hs HE.out⟩
          case measure => simp [intOf]; omega
        · have hn : (x != y) = true := by simpa using he
          have HE := Lib.hid (show a.getD k 0 ≠ b.getD k 0 by rw [hx.out, hy.out]; exact he)
          clear he
          go_wp2
          go_quiet (fail)
          go_wp2
          go_ret
          exact ⟨ret_bool (by simp; intro h; subst h; exact HE.out rfl), ((Ext.refl w).drewN _).drewN _⟩
      · go_wp2
        go_ret
        exact ⟨ret_bool (by have := eq_of_sameTo HL.out (show sameTo a b a.length from fun j hj => hs j (by omega)); simp [this]), (Ext.refl w).drewN _⟩
  · have hl1 : ((a.length : Int) != b.length) = true := by simp; omega
    have HL := Lib.hid hl
    clear hl
    go_enter Try.func45, Try.ntmps45
    go_wp2
    go_ret
    exact ⟨ret_bool (by simp; intro h; subst h; exact HL.out rfl), Ext.refl w⟩

set_option maxHeartbeats 400000 in
theorem gradeOf_any (iA jA gA : Option Addr) (ic jc gc : Nat) (p : Paper) (r : Int) (w : World) (h : PaperAt w iA jA gA p) :
    Calls Try.prog 29 #[.agg #[.slice iA p.items.length ic, .slice jA p.judges.length jc, .int .i64 p.wrong, .slice gA p.grades.length gc], .int .i64 r] w fun e w' => e = .returned (.int .i64 (gradeOf p r)) ∧ Ext w w' := by
  have hgl := h.gl
  have hg := h.grades
  generalize hG : p.grades = G at *
  have HG := Lib.hid hG
  clear hG h
  generalize p.items.length = il, p.judges.length = jl, p.wrong = wr
  go_enter Try.func29, Try.ntmps29
  go_wp2
  go_loop [5, 6] (fun n i => ∃ k : Nat, k ≤ G.length ∧ i = .int .i64 k ∧ n = .int .i64 (gradeTo G r k)) (fun _ i => G.length - (intOf i).toNat)
  case atStart => exact ⟨0, by omega, rfl, rfl⟩
  case round =>
    obtain ⟨k, hk, rfl, rfl⟩ := hrel
    have hle := gradeTo_le G r k
    by_cases hlt : k < G.length
    · obtain ⟨b, off, x, rfl, hb, hc, hx⟩ := hg.get hlt
      have HS := Lib.hid (gradeTo_succ G r k hlt)
      by_cases hr : x ≤ r
      · have HR := Lib.hid (show G.getD k 0 ≤ r by rw [hx.out]; exact hr)
        go_wp2
        go_round
        case rel => exact ⟨k + 1, by omega, by go_num, by rw [HS.out, if_pos HR.out]; go_num⟩
        case measure => simp [intOf]; omega
      · have HR := Lib.hid (show ¬ G.getD k 0 ≤ r by rw [hx.out]; exact hr)
        go_wp2
        go_round
        case rel => exact ⟨k + 1, by omega, by go_num, by rw [HS.out, if_neg HR.out]; go_num⟩
        case measure => simp [intOf]; omega
    · go_wp2
      go_ret
      exact ⟨ret_int (by unfold gradeOf; rw [HG.out, show k = G.length by omega]), Ext.of_alloc _ _⟩

theorem inside_any (n lo hi : Int) (w : World) : Calls Try.prog 31 #[.int .i64 n, .agg #[.int .i64 lo, .int .i64 hi]] w fun e w' => e = .returned (.bool (wi n lo hi)) ∧ Ext w w' := by
  by_cases h1 : lo ≤ n
  · by_cases h2 : n ≤ hi
    · have h := Lib.hid (wi_of ⟨h1, h2⟩)
      go_enter Try.func31, Try.ntmps31
      go_wp2
      go_ret
      exact ⟨ret_bool h.out.symm, Ext.of_alloc _ _⟩
    · have h := Lib.hid (show wi n lo hi = false by simp [wi, h2])
      go_enter Try.func31, Try.ntmps31
      go_wp2
      go_ret
      exact ⟨ret_bool h.out.symm, Ext.of_alloc _ _⟩
  · have h := Lib.hid (show wi n lo hi = false by simp [wi, h1])
    go_enter Try.func31, Try.ntmps31
    go_wp2
    go_ret
    exact ⟨ret_bool h.out.symm, Ext.of_alloc _ _⟩

set_option maxHeartbeats 400000 in
theorem in_any (A : Option Addr) (c : Nat) (l : List Int) (n : Int) (w : World) (h : Ints w A l) (hl : l.length ≤ 9223372036854775807) :
    Calls Try.prog 34 #[.slice A l.length c, .int .i64 n] w fun e w' => e = .returned (.bool (decide (n ∈ l))) ∧ Ext w w' := by
  go_enter Try.func34, Try.ntmps34
  go_wp2
  go_loop [5] (fun i => ∃ k : Nat, k ≤ l.length ∧ i = .int .i64 k ∧ ∀ j, j < k → l.getD j 0 ≠ n) (fun i => l.length - (intOf i).toNat)
  case atStart => exact ⟨0, by omega, rfl, fun j h => by omega⟩
  case round =>
    obtain ⟨k, hk, rfl, hs⟩ := hrel
    have HS := Lib.hid hs
    clear hs
    by_cases hlt : k < l.length
    · obtain ⟨b, off, x, rfl, hb, hc, hx⟩ := h.get hlt
      by_cases hr : x = n
      · have HR := Lib.hid (hx.out.trans hr)
        have hq : (x == n) = true := by simpa using hr
        clear hr
        go_wp2
        go_ret
        exact ⟨ret_bool (by
          have := HR.out
          rw [List.getD, List.getElem?_eq_getElem hlt] at this
          simp at this
          simp [← this]), Ext.refl w⟩
      · have HR := Lib.hid (show l.getD k 0 ≠ n by rw [hx.out]; exact hr)
        have hq : (x == n) = false := by simpa using hr
        clear hr
        go_wp2
        go_round
        case rel =>
          refine ⟨k + 1, by omega, by go_num, fun j hj => ?_⟩
          by_cases hjk : j = k
          · subst hjk; exact HR.out
          · exact HS.out j (by omega)
        case measure => simp [intOf]; omega
    · go_wp2
      go_ret
      refine ⟨ret_bool ?_, Ext.refl w⟩
      have : n ∉ l := by
        intro hm
        obtain ⟨j, hj, he⟩ := List.getElem_of_mem hm
        refine HS.out j (by omega) ?_
        simp [List.getD, hj, he]
      simp [this]
end Go.Proofs.Ytbpilgflejdhaaa
