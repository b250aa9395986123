/- Exams: walks over the small functions. / Exams: slices.IndexFunc, slices.ContainsFunc, and 'every', by what the closure does. (Printed by gen_func.py.) / Exams: IsTruth, IsRight, Result. / Exams: Result, IsRight. -/
import Derived.Test.YtkejebdfbkgaiaaBa19
import Derived.Test.YtkejebdfbkgaiaaProg

namespace Go.Proofs.Ytkejebdfbkgaiaa
open Go.RowKit

theorem withinR (n lo hi : Int) (w : World) :
    Calls Try.prog 21 #[.int .i64 n, .int .i64 lo, .int .i64 hi] w fun e w' => e = .returned (.bool (wi n lo hi)) ∧ w' = w := by
  by_cases h1 : lo ≤ n
  · by_cases h2 : n ≤ hi
    · have h := Lib.hid (wi_of ⟨h1, h2⟩)
      go_enter Try.func21, Try.ntmps21
      go_wp2
      go_ret
      exact ⟨ret_bool h.out.symm, rfl⟩
    · have h := Lib.hid (show wi n lo hi = false by simp [wi, h2])
      go_enter Try.func21, Try.ntmps21
      go_wp2
      go_ret
      exact ⟨ret_bool h.out.symm, rfl⟩
  · have h := Lib.hid (show wi n lo hi = false by simp [wi, h1])
    go_enter Try.func21, Try.ntmps21
    go_wp2
    go_ret
    exact ⟨ret_bool h.out.symm, rfl⟩
theorem withinR' (n lo hi : Int) (w : World) :
    Calls Try.prog 21 #[.int .i64 n, .int .i64 lo, .int .i64 hi] w fun e w' => e = .returned (.bool (wi n lo hi)) ∧ w = w' :=
  (withinR n lo hi w).mono fun _ _ ⟨a, b⟩ => ⟨a, b.symm⟩

set_option maxHeartbeats 400000 in
theorem gradeOf_any (iA jA gA : Option Addr) (ic jc gc : Nat) (p : Paper) (r : Int) (w : World) (h : PaperAt w iA jA gA p) :
    Calls Try.prog 12 #[.agg #[.slice iA p.items.length ic, .slice jA p.judges.length jc, .int .i64 p.wrong, .slice gA p.grades.length gc], .int .i64 r] w fun e w' => e = .returned (.int .i64 (gradeOf p r)) ∧ Ext w w' := by
  have hgl := h.gl
  have hg := h.grades
  generalize hG : p.grades = G at *
  have HG := Lib.hid hG
  clear hG h
  generalize p.items.length = il, p.judges.length = jl, p.wrong = wr
  go_enter Try.func12, Try.ntmps12
  go_wp2
  go_loop [5, 6] (fun n i => ∃ k : Nat, k ≤ G.length ∧ i = .int .i64 k ∧ n = .int .i64 (gradeTo G r k)) (fun _ i => G.length - (intOf i).toNat)
  case atStart => exact ⟨0, by omega, rfl, rfl⟩
  case round =>
    obtain ⟨k, hk, rfl, rfl⟩ := hrel
    have hle := gradeTo_le G r k
    by_cases hlt : k < G.length
    · obtain ⟨b, off, x, rfl, hb, hc, hx⟩ := hg.get hlt
      have HS := Lib.hid (gradeTo_succ G r k hlt)
      by_cases hr : x ≤ r
      · have HR := Lib.hid (show G.getD k 0 ≤ r by rw [hx.out]; exact hr)
        go_wp2
        go_round
        case rel => exact ⟨k + 1, by omega, by go_num, by rw [HS.out, if_pos HR.out]; go_num⟩
        case measure => simp [intOf]; omega
      · have HR := Lib.hid (show ¬ G.getD k 0 ≤ r by rw [hx.out]; exact hr)
        go_wp2
        go_round
        case rel => exact ⟨k + 1, by omega, by go_num, by rw [HS.out, if_neg HR.out]; go_num⟩
        case measure => simp [intOf]; omega
    · go_wp2
      go_ret
      exact ⟨ret_int (by unfold gradeOf; rw [HG.out, show k = G.length by omega]), Ext.of_alloc _ _⟩

end Go.Proofs.Ytkejebdfbkgaiaa

namespace Go.Proofs.Ytkejebdfbkgaiaa
open Go.RowKit

set_option maxHeartbeats 1000000 in
theorem indexFunc_int (A : Option Addr) (n c : Nat) (f : FuncId) (caps : Array Value) (x0 : Nat → Value) (q : Nat → Bool) (I : Nat → World → Prop) (w : World) (hn : n ≤ 9223372036854775807) (h0 : I 0 w)
    (hfun : ∀ args w', (callFunc f args).run Try.prog w' = .ok (.enter f args) w')
    (hload : ∀ k w', k < n → I k w' → ∃ b off, A = some ⟨b, off, none⟩ ∧ w'.cell? ⟨b, off + k, none⟩ = some (x0 k))
    (hcall : ∀ k w', k < n → (∀ j, j < k → q j = false) → I k w' → Calls Try.prog f (#[x0 k] ++ caps) w' (fun e w'' => e = .returned (.bool (q k)) ∧ I (k + 1) w'')) :
    Calls Try.prog 84 #[.slice A n c, .func (.func f) #[] caps] w (fun e w' => (∃ k, k < n ∧ q k = true ∧ (∀ j, j < k → q j = false) ∧ e = .returned (.int .i64 k) ∧ I (k + 1) w') ∨ ((∀ j, j < n → q j = false) ∧ e = .returned (.int .i64 (-1)) ∧ I n w')) := by
  have HL := Lib.hid hload
  have HC := Lib.hid hcall
  clear hload hcall
  go_enter Try.func84, Try.ntmps84
  go_wp2
  go_loopw [5, 8] (fun _ i wr => ∃ k : Nat, k ≤ n ∧ i = .int .i64 k ∧ I k wr ∧ ∀ j, j < k → q j = false) (fun _ i _ => n - (intOf i).toNat)
  case atStart => exact ⟨0, by omega, rfl, h0, fun j hj => by omega⟩
  case round =>
    obtain ⟨k, hk, rfl, hI, hq⟩ := hrel
    have HI := Lib.hid hI
    have HQ := Lib.hid hq
    clear hI hq
    by_cases hlt : k < n
    · obtain ⟨b, off, rfl, hc0⟩ := HL.out k _ hlt HI.out
      cases hqk : q k
      · have HK := Lib.hid hqk
        clear hqk
        go_wp2_with fail
        refine (HC.out k _ hlt HQ.out HI.out).mono ?_
        rintro e w1 ⟨rfl, hI1⟩
        rw [HK.out]
        go_wp2
        go_roundw
        case rel =>
          refine ⟨k + 1, by omega, by go_num, hI1, fun j hj => ?_⟩
          by_cases e : j = k
          · rw [e]; exact HK.out
          · exact HQ.out j (by omega)
        case measure => simp [intOf]; omega
      · have HK := Lib.hid hqk
        clear hqk
        go_wp2_with fail
        refine (HC.out k _ hlt HQ.out HI.out).mono ?_
        rintro e w1 ⟨rfl, hI1⟩
        rw [HK.out]
        go_wp2
        go_ret
        exact .inl ⟨k, hlt, HK.out, HQ.out, rfl, hI1⟩
    · go_wp2
      go_ret
      exact .inr ⟨fun j hj => HQ.out j (by omega), rfl, by rw [show n = k by omega]; exact HI.out⟩

set_option maxHeartbeats 1000000 in
theorem containsFunc_int (A : Option Addr) (n c : Nat) (f : FuncId) (caps : Array Value) (x0 : Nat → Value) (q : Nat → Bool) (I : Nat → World → Prop) (w : World) (hn : n ≤ 9223372036854775807) (h0 : I 0 w)
    (hfun : ∀ args w', (callFunc f args).run Try.prog w' = .ok (.enter f args) w')
    (hload : ∀ k w', k < n → I k w' → ∃ b off, A = some ⟨b, off, none⟩ ∧ w'.cell? ⟨b, off + k, none⟩ = some (x0 k))
    (hcall : ∀ k w', k < n → (∀ j, j < k → q j = false) → I k w' → Calls Try.prog f (#[x0 k] ++ caps) w' (fun e w'' => e = .returned (.bool (q k)) ∧ I (k + 1) w'')) :
    Calls Try.prog 69 #[.slice A n c, .func (.func f) #[] caps] w (fun e w' => (∃ k, k < n ∧ q k = true ∧ (∀ j, j < k → q j = false) ∧ e = .returned (.bool true) ∧ I (k + 1) w') ∨ ((∀ j, j < n → q j = false) ∧ e = .returned (.bool false) ∧ I n w')) := by
  have H := Lib.hid (indexFunc_int A n c f caps x0 q I w hn h0 hfun hload hcall)
  clear hload hcall hfun
  go_enter Try.func69, Try.ntmps69
  go_wp2_with fail
  refine H.out.mono ?_
  rintro e w1 (⟨k, hk, hq, hj, rfl, hI⟩ | ⟨hj, rfl, hI⟩)
  · have HJ := Lib.hid hj
    have HI := Lib.hid hI
    have HQ := Lib.hid hq
    clear hj hI hq
    have h0 : (0 : Int) ≤ k := by omega
    go_wp2
    go_ret
    exact .inl ⟨k, hk, HQ.out, HJ.out, rfl, HI.out⟩
  · have HJ := Lib.hid hj
    have HI := Lib.hid hI
    clear hj hI
    go_wp2
    go_ret
    exact .inr ⟨HJ.out, rfl, HI.out⟩

set_option maxHeartbeats 1000000 in
theorem everyE_int (A : Option Addr) (n c : Nat) (f : FuncId) (caps : Array Value) (x0 : Nat → Value) (p : Nat → Bool) (J : Nat → World → Prop) (row : Option Nat) (w : World) (hn : n ≤ 9223372036854775807) (h0 : J 0 w) (hJ : ∀ m w' w'', J m w' → Ext w' w'' → J m w'')
    (hrow : ∀ g, row = some g → g < w.heap.size)
    (hfun : ∀ args w', (callFunc f args).run Try.prog w' = .ok (.enter f args) w')
    (hload : ∀ k w', k < n → J k w' → ∃ b off, A = some ⟨b, off, none⟩ ∧ w'.cell? ⟨b, off + k, none⟩ = some (x0 k))
    (hcall : ∀ k w', k < n → (∀ j, j < k → p j = true) → J k w' → Calls Try.prog f (#[x0 k] ++ caps) w' (fun e w'' => e = .returned (.bool (p k)) ∧ J (k + 1) w'' ∧ w'.grownBy w'' row)) :
    Calls Try.prog 63 #[.slice A n c, .func (.func f) #[] caps] w (fun e w' => ∃ m, J m w' ∧ ((∃ k, k < n ∧ p k = false ∧ e = .returned (.bool false)) ∨ ((∀ j, j < n → p j = true) ∧ e = .returned (.bool true)))) := by
  have hI : ∀ k w', k < n → (∀ j, j < k → (!p j) = false) → (J k w' ∧ w'.cell? ⟨w.heap.size, 0, none⟩ = some (.func (.func f) #[] caps) ∧ w.heap.size < w'.heap.size) →
      Calls Try.prog 78 (#[x0 k] ++ #[.pointer (some ⟨w.heap.size, 0, none⟩)]) w' (fun e w'' => e = .returned (.bool (!p k)) ∧ (J (k + 1) w'' ∧ w''.cell? ⟨w.heap.size, 0, none⟩ = some (.func (.func f) #[] caps) ∧ w.heap.size < w''.heap.size)) := by
    rintro k w' hk hpj ⟨hj, hc, hs⟩
    have HC := Lib.hid (hcall k w' hk (fun j hj => by simpa using hpj j hj) (hJ _ _ _ hj (Ext.refl _)))
    have HJ := Lib.hid hJ
    have HR := Lib.hid hrow
    have Hc := Lib.hid hc
    clear hcall hload h0 hj hJ hrow hpj
    go_enter Try.func78, Try.ntmps78
    go_wp2_with fail
    refine HC.out.mono ?_
    rintro e w1 ⟨rfl, hj1, hG⟩
    have HJ1 := Lib.hid hj1
    have HG := Lib.hid hG
    clear hj1 hG
    go_wp2
    go_ret
    have hG := HG.out
    refine ⟨rfl, HJ1.out, ?_, Nat.lt_of_lt_of_le hs (Nat.le_trans (Ext.refl _).size hG.size)⟩
    have hne : some w.heap.size ≠ row := fun e => by have := HR.out _ e.symm; omega
    exact hG.cell (((Ext.refl _).cellOf (p := ⟨w.heap.size, 0, none⟩) hs).trans Hc.out) hne
  have H := Lib.hid (containsFunc_int A n c 78 #[.pointer (some ⟨w.heap.size, 0, none⟩)] x0 (fun k => !p k) (fun k w' => J k w' ∧ w'.cell? ⟨w.heap.size, 0, none⟩ = some (.func (.func f) #[] caps) ∧ w.heap.size < w'.heap.size)
    (w.alloc (.cells #[.func (.func f) #[] caps] 111)) hn ⟨hJ _ _ _ h0 (Ext.of_alloc _ _), (by rw [World.cell?_alloc_at _ _ _ _ rfl]; rfl), by simp⟩ (fun args w' => by kernel_rfl) (fun k w' hk h => hload k w' hk h.1) hI)
  clear hI hcall hload h0 hJ hrow hfun
  go_enter Try.func63, Try.ntmps63
  go_wp2_with fail
  refine H.out.mono ?_
  rintro e w1 (⟨k, hk, hq, hj, rfl, hI⟩ | ⟨hj, rfl, hI⟩)
  · have HJ := Lib.hid hj
    have HI := Lib.hid hI
    have HQ := Lib.hid hq
    clear hj hI hq
    go_wp2
    go_ret
    exact ⟨_, HI.out.1, .inl ⟨k, hk, by simpa using HQ.out, rfl⟩⟩
  · have HJ := Lib.hid hj
    have HI := Lib.hid hI
    clear hj hI
    go_wp2
    go_ret
    exact ⟨_, HI.out.1, .inr ⟨fun j hj => by simpa using HJ.out j hj, rfl⟩⟩

set_option maxHeartbeats 1000000 in
theorem indexFunc_item (A : Option Addr) (n c : Nat) (f : FuncId) (caps : Array Value) (x0 x1 : Nat → Value) (q : Nat → Bool) (I : Nat → World → Prop) (w : World) (hn : n ≤ 9223372036854775807) (h0 : I 0 w)
    (hfun : ∀ args w', (callFunc f args).run Try.prog w' = .ok (.enter f args) w')
    (hload : ∀ k w', k < n → I k w' → ∃ b off, A = some ⟨b, off, none⟩ ∧ w'.cell? ⟨b, off + k * 2, none⟩ = some (x0 k) ∧ w'.cell? ⟨b, off + k * 2 + 1, none⟩ = some (x1 k))
    (hcall : ∀ k w', k < n → (∀ j, j < k → q j = false) → I k w' → Calls Try.prog f (#[.agg #[x0 k, x1 k]] ++ caps) w' (fun e w'' => e = .returned (.bool (q k)) ∧ I (k + 1) w'')) :
    Calls Try.prog 87 #[.slice A n c, .func (.func f) #[] caps] w (fun e w' => (∃ k, k < n ∧ q k = true ∧ (∀ j, j < k → q j = false) ∧ e = .returned (.int .i64 k) ∧ I (k + 1) w') ∨ ((∀ j, j < n → q j = false) ∧ e = .returned (.int .i64 (-1)) ∧ I n w')) := by
  have HL := Lib.hid hload
  have HC := Lib.hid hcall
  clear hload hcall
  go_enter Try.func87, Try.ntmps87
  go_wp2
  go_loopw [5, 8] (fun _ i wr => ∃ k : Nat, k ≤ n ∧ i = .int .i64 k ∧ I k wr ∧ ∀ j, j < k → q j = false) (fun _ i _ => n - (intOf i).toNat)
  case atStart => exact ⟨0, by omega, rfl, h0, fun j hj => by omega⟩
  case round =>
    obtain ⟨k, hk, rfl, hI, hq⟩ := hrel
    have HI := Lib.hid hI
    have HQ := Lib.hid hq
    clear hI hq
    by_cases hlt : k < n
    · obtain ⟨b, off, rfl, hc0, hc1⟩ := HL.out k _ hlt HI.out
      cases hqk : q k
      · have HK := Lib.hid hqk
        clear hqk
        go_wp2_with fail
        refine (HC.out k _ hlt HQ.out HI.out).mono ?_
        rintro e w1 ⟨rfl, hI1⟩
        rw [HK.out]
        go_wp2
        go_roundw
        case rel =>
          refine ⟨k + 1, by omega, by go_num, hI1, fun j hj => ?_⟩
          by_cases e : j = k
          · rw [e]; exact HK.out
          · exact HQ.out j (by omega)
        case measure => simp [intOf]; omega
      · have HK := Lib.hid hqk
        clear hqk
        go_wp2_with fail
        refine (HC.out k _ hlt HQ.out HI.out).mono ?_
        rintro e w1 ⟨rfl, hI1⟩
        rw [HK.out]
        go_wp2
        go_ret
        exact .inl ⟨k, hlt, HK.out, HQ.out, rfl, hI1⟩
    · go_wp2
      go_ret
      exact .inr ⟨fun j hj => HQ.out j (by omega), rfl, by rw [show n = k by omega]; exact HI.out⟩

set_option maxHeartbeats 1000000 in
theorem containsFunc_item (A : Option Addr) (n c : Nat) (f : FuncId) (caps : Array Value) (x0 x1 : Nat → Value) (q : Nat → Bool) (I : Nat → World → Prop) (w : World) (hn : n ≤ 9223372036854775807) (h0 : I 0 w)
    (hfun : ∀ args w', (callFunc f args).run Try.prog w' = .ok (.enter f args) w')
    (hload : ∀ k w', k < n → I k w' → ∃ b off, A = some ⟨b, off, none⟩ ∧ w'.cell? ⟨b, off + k * 2, none⟩ = some (x0 k) ∧ w'.cell? ⟨b, off + k * 2 + 1, none⟩ = some (x1 k))
    (hcall : ∀ k w', k < n → (∀ j, j < k → q j = false) → I k w' → Calls Try.prog f (#[.agg #[x0 k, x1 k]] ++ caps) w' (fun e w'' => e = .returned (.bool (q k)) ∧ I (k + 1) w'')) :
    Calls Try.prog 79 #[.slice A n c, .func (.func f) #[] caps] w (fun e w' => (∃ k, k < n ∧ q k = true ∧ (∀ j, j < k → q j = false) ∧ e = .returned (.bool true) ∧ I (k + 1) w') ∨ ((∀ j, j < n → q j = false) ∧ e = .returned (.bool false) ∧ I n w')) := by
  have H := Lib.hid (indexFunc_item A n c f caps x0 x1 q I w hn h0 hfun hload hcall)
  clear hload hcall hfun
  go_enter Try.func79, Try.ntmps79
  go_wp2_with fail
  refine H.out.mono ?_
  rintro e w1 (⟨k, hk, hq, hj, rfl, hI⟩ | ⟨hj, rfl, hI⟩)
  · have HJ := Lib.hid hj
    have HI := Lib.hid hI
    have HQ := Lib.hid hq
    clear hj hI hq
    have h0 : (0 : Int) ≤ k := by omega
    go_wp2
    go_ret
    exact .inl ⟨k, hk, HQ.out, HJ.out, rfl, HI.out⟩
  · have HJ := Lib.hid hj
    have HI := Lib.hid hI
    clear hj hI
    go_wp2
    go_ret
    exact .inr ⟨HJ.out, rfl, HI.out⟩

set_option maxHeartbeats 1000000 in
theorem every_item (A : Option Addr) (n c : Nat) (f : FuncId) (caps : Array Value) (x0 x1 : Nat → Value) (p : Nat → Bool) (J : Nat → World → Prop) (row : Option Nat) (w : World) (hn : n ≤ 9223372036854775807) (h0 : J 0 w) (hJ : ∀ m w' w'', J m w' → Ext w' w'' → J m w'')
    (hrow : ∀ g, row = some g → g < w.heap.size)
    (hfun : ∀ args w', (callFunc f args).run Try.prog w' = .ok (.enter f args) w')
    (hload : ∀ k w', k < n → J k w' → ∃ b off, A = some ⟨b, off, none⟩ ∧ w'.cell? ⟨b, off + k * 2, none⟩ = some (x0 k) ∧ w'.cell? ⟨b, off + k * 2 + 1, none⟩ = some (x1 k))
    (hcall : ∀ k w', k < n → (∀ j, j < k → p j = true) → J k w' → Calls Try.prog f (#[.agg #[x0 k, x1 k]] ++ caps) w' (fun e w'' => e = .returned (.bool (p k)) ∧ J (k + 1) w'' ∧ w'.grownBy w'' row)) :
    Calls Try.prog 65 #[.slice A n c, .func (.func f) #[] caps] w (fun e w' => ∃ m, J m w' ∧ ((∃ k, k < n ∧ p k = false ∧ e = .returned (.bool false)) ∨ ((∀ j, j < n → p j = true) ∧ e = .returned (.bool true)))) := by
  have hI : ∀ k w', k < n → (∀ j, j < k → (!p j) = false) → (J k w' ∧ w'.cell? ⟨w.heap.size, 0, none⟩ = some (.func (.func f) #[] caps) ∧ w.heap.size < w'.heap.size) →
      Calls Try.prog 80 (#[.agg #[x0 k, x1 k]] ++ #[.pointer (some ⟨w.heap.size, 0, none⟩)]) w' (fun e w'' => e = .returned (.bool (!p k)) ∧ (J (k + 1) w'' ∧ w''.cell? ⟨w.heap.size, 0, none⟩ = some (.func (.func f) #[] caps) ∧ w.heap.size < w''.heap.size)) := by
    rintro k w' hk hpj ⟨hj, hc, hs⟩
    have HC := Lib.hid (hcall k (w'.alloc (.cells #[x0 k, x1 k] 71)) hk (fun j hj => by simpa using hpj j hj) (hJ _ _ _ hj (Ext.of_alloc _ _)))
    have HJ := Lib.hid hJ
    have HR := Lib.hid hrow
    have Hc := Lib.hid hc
    clear hcall hload h0 hj hJ hrow hpj
    go_enter Try.func80, Try.ntmps80
    go_wp2_with fail
    refine HC.out.mono ?_
    rintro e w1 ⟨rfl, hj1, hG⟩
    have HJ1 := Lib.hid hj1
    have HG := Lib.hid hG
    clear hj1 hG
    go_wp2
    go_ret
    have hG := HG.out
    refine ⟨rfl, HJ1.out, ?_, Nat.lt_of_lt_of_le hs (Nat.le_trans (Ext.of_alloc _ _).size hG.size)⟩
    have hne : some w.heap.size ≠ row := fun e => by have := HR.out _ e.symm; omega
    exact hG.cell (((Ext.of_alloc _ _).cellOf (p := ⟨w.heap.size, 0, none⟩) hs).trans Hc.out) hne
  have H := Lib.hid (containsFunc_item A n c 80 #[.pointer (some ⟨w.heap.size, 0, none⟩)] x0 x1 (fun k => !p k) (fun k w' => J k w' ∧ w'.cell? ⟨w.heap.size, 0, none⟩ = some (.func (.func f) #[] caps) ∧ w.heap.size < w'.heap.size)
    (w.alloc (.cells #[.func (.func f) #[] caps] 123)) hn ⟨hJ _ _ _ h0 (Ext.of_alloc _ _), (by rw [World.cell?_alloc_at _ _ _ _ rfl]; rfl), by simp⟩ (fun args w' => by kernel_rfl) (fun k w' hk h => hload k w' hk h.1) hI)
  clear hI hcall hload h0 hJ hrow hfun
  go_enter Try.func65, Try.ntmps65
  go_wp2_with fail
  refine H.out.mono ?_
  rintro e w1 (⟨k, hk, hq, hj, rfl, hI⟩ | ⟨hj, rfl, hI⟩)
  · have HJ := Lib.hid hj
    have HI := Lib.hid hI
    have HQ := Lib.hid hq
    clear hj hI hq
    go_wp2
    go_ret
    exact ⟨_, HI.out.1, .inl ⟨k, hk, by simpa using HQ.out, rfl⟩⟩
  · have HJ := Lib.hid hj
    have HI := Lib.hid hI
    clear hj hI
    go_wp2
    go_ret
    exact ⟨_, HI.out.1, .inr ⟨fun j hj => by simpa using HJ.out j hj, rfl⟩⟩

set_option maxHeartbeats 1000000 in
theorem indexFunc_judge (A : Option Addr) (n c : Nat) (f : FuncId) (caps : Array Value) (x0 x1 x2 x3 : Nat → Value) (q : Nat → Bool) (I : Nat → World → Prop) (w : World) (hn : n ≤ 9223372036854775807) (h0 : I 0 w)
    (hfun : ∀ args w', (callFunc f args).run Try.prog w' = .ok (.enter f args) w')
    (hload : ∀ k w', k < n → I k w' → ∃ b off, A = some ⟨b, off, none⟩ ∧ w'.cell? ⟨b, off + k * 4, none⟩ = some (x0 k) ∧ w'.cell? ⟨b, off + k * 4 + 1, none⟩ = some (x1 k) ∧ w'.cell? ⟨b, off + k * 4 + 2, none⟩ = some (x2 k) ∧ w'.cell? ⟨b, off + k * 4 + 3, none⟩ = some (x3 k))
    (hcall : ∀ k w', k < n → (∀ j, j < k → q j = false) → I k w' → Calls Try.prog f (#[.agg #[x0 k, x1 k, x2 k, x3 k]] ++ caps) w' (fun e w'' => e = .returned (.bool (q k)) ∧ I (k + 1) w'')) :
    Calls Try.prog 88 #[.slice A n c, .func (.func f) #[] caps] w (fun e w' => (∃ k, k < n ∧ q k = true ∧ (∀ j, j < k → q j = false) ∧ e = .returned (.int .i64 k) ∧ I (k + 1) w') ∨ ((∀ j, j < n → q j = false) ∧ e = .returned (.int .i64 (-1)) ∧ I n w')) := by
  have HL := Lib.hid hload
  have HC := Lib.hid hcall
  clear hload hcall
  go_enter Try.func88, Try.ntmps88
  go_wp2
  go_loopw [5, 8] (fun _ i wr => ∃ k : Nat, k ≤ n ∧ i = .int .i64 k ∧ I k wr ∧ ∀ j, j < k → q j = false) (fun _ i _ => n - (intOf i).toNat)
  case atStart => exact ⟨0, by omega, rfl, h0, fun j hj => by omega⟩
  case round =>
    obtain ⟨k, hk, rfl, hI, hq⟩ := hrel
    have HI := Lib.hid hI
    have HQ := Lib.hid hq
    clear hI hq
    by_cases hlt : k < n
    · obtain ⟨b, off, rfl, hc0, hc1, hc2, hc3⟩ := HL.out k _ hlt HI.out
      cases hqk : q k
      · have HK := Lib.hid hqk
        clear hqk
        go_wp2_with fail
        refine (HC.out k _ hlt HQ.out HI.out).mono ?_
        rintro e w1 ⟨rfl, hI1⟩
        rw [HK.out]
        go_wp2
        go_roundw
        case rel =>
          refine ⟨k + 1, by omega, by go_num, hI1, fun j hj => ?_⟩
          by_cases e : j = k
          · rw [e]; exact HK.out
          · exact HQ.out j (by omega)
        case measure => simp [intOf]; omega
      · have HK := Lib.hid hqk
        clear hqk
        go_wp2_with fail
        refine (HC.out k _ hlt HQ.out HI.out).mono ?_
        rintro e w1 ⟨rfl, hI1⟩
        rw [HK.out]
        go_wp2
        go_ret
        exact .inl ⟨k, hlt, HK.out, HQ.out, rfl, hI1⟩
    · go_wp2
      go_ret
      exact .inr ⟨fun j hj => HQ.out j (by omega), rfl, by rw [show n = k by omega]; exact HI.out⟩

set_option maxHeartbeats 1000000 in
theorem containsFunc_judge (A : Option Addr) (n c : Nat) (f : FuncId) (caps : Array Value) (x0 x1 x2 x3 : Nat → Value) (q : Nat → Bool) (I : Nat → World → Prop) (w : World) (hn : n ≤ 9223372036854775807) (h0 : I 0 w)
    (hfun : ∀ args w', (callFunc f args).run Try.prog w' = .ok (.enter f args) w')
    (hload : ∀ k w', k < n → I k w' → ∃ b off, A = some ⟨b, off, none⟩ ∧ w'.cell? ⟨b, off + k * 4, none⟩ = some (x0 k) ∧ w'.cell? ⟨b, off + k * 4 + 1, none⟩ = some (x1 k) ∧ w'.cell? ⟨b, off + k * 4 + 2, none⟩ = some (x2 k) ∧ w'.cell? ⟨b, off + k * 4 + 3, none⟩ = some (x3 k))
    (hcall : ∀ k w', k < n → (∀ j, j < k → q j = false) → I k w' → Calls Try.prog f (#[.agg #[x0 k, x1 k, x2 k, x3 k]] ++ caps) w' (fun e w'' => e = .returned (.bool (q k)) ∧ I (k + 1) w'')) :
    Calls Try.prog 81 #[.slice A n c, .func (.func f) #[] caps] w (fun e w' => (∃ k, k < n ∧ q k = true ∧ (∀ j, j < k → q j = false) ∧ e = .returned (.bool true) ∧ I (k + 1) w') ∨ ((∀ j, j < n → q j = false) ∧ e = .returned (.bool false) ∧ I n w')) := by
  have H := Lib.hid (indexFunc_judge A n c f caps x0 x1 x2 x3 q I w hn h0 hfun hload hcall)
  clear hload hcall hfun
  go_enter Try.func81, Try.ntmps81
  go_wp2_with fail
  refine H.out.mono ?_
  rintro e w1 (⟨k, hk, hq, hj, rfl, hI⟩ | ⟨hj, rfl, hI⟩)
  · have HJ := Lib.hid hj
    have HI := Lib.hid hI
    have HQ := Lib.hid hq
    clear hj hI hq
    have h0 : (0 : Int) ≤ k := by omega
    go_wp2
    go_ret
    exact .inl ⟨k, hk, HQ.out, HJ.out, rfl, HI.out⟩
  · have HJ := Lib.hid hj
    have HI := Lib.hid hI
    clear hj hI
    go_wp2
    go_ret
    exact .inr ⟨HJ.out, rfl, HI.out⟩

set_option maxHeartbeats 1000000 in
theorem every_judge (A : Option Addr) (n c : Nat) (f : FuncId) (caps : Array Value) (x0 x1 x2 x3 : Nat → Value) (p : Nat → Bool) (J : Nat → World → Prop) (row : Option Nat) (w : World) (hn : n ≤ 9223372036854775807) (h0 : J 0 w) (hJ : ∀ m w' w'', J m w' → Ext w' w'' → J m w'')
    (hrow : ∀ g, row = some g → g < w.heap.size)
    (hfun : ∀ args w', (callFunc f args).run Try.prog w' = .ok (.enter f args) w')
    (hload : ∀ k w', k < n → J k w' → ∃ b off, A = some ⟨b, off, none⟩ ∧ w'.cell? ⟨b, off + k * 4, none⟩ = some (x0 k) ∧ w'.cell? ⟨b, off + k * 4 + 1, none⟩ = some (x1 k) ∧ w'.cell? ⟨b, off + k * 4 + 2, none⟩ = some (x2 k) ∧ w'.cell? ⟨b, off + k * 4 + 3, none⟩ = some (x3 k))
    (hcall : ∀ k w', k < n → (∀ j, j < k → p j = true) → J k w' → Calls Try.prog f (#[.agg #[x0 k, x1 k, x2 k, x3 k]] ++ caps) w' (fun e w'' => e = .returned (.bool (p k)) ∧ J (k + 1) w'' ∧ w'.grownBy w'' row)) :
    Calls Try.prog 66 #[.slice A n c, .func (.func f) #[] caps] w (fun e w' => ∃ m, J m w' ∧ ((∃ k, k < n ∧ p k = false ∧ e = .returned (.bool false)) ∨ ((∀ j, j < n → p j = true) ∧ e = .returned (.bool true)))) := by
  have hI : ∀ k w', k < n → (∀ j, j < k → (!p j) = false) → (J k w' ∧ w'.cell? ⟨w.heap.size, 0, none⟩ = some (.func (.func f) #[] caps) ∧ w.heap.size < w'.heap.size) →
      Calls Try.prog 82 (#[.agg #[x0 k, x1 k, x2 k, x3 k]] ++ #[.pointer (some ⟨w.heap.size, 0, none⟩)]) w' (fun e w'' => e = .returned (.bool (!p k)) ∧ (J (k + 1) w'' ∧ w''.cell? ⟨w.heap.size, 0, none⟩ = some (.func (.func f) #[] caps) ∧ w.heap.size < w''.heap.size)) := by
    rintro k w' hk hpj ⟨hj, hc, hs⟩
    have HC := Lib.hid (hcall k (w'.alloc (.cells #[x0 k, x1 k, x2 k, x3 k] 68)) hk (fun j hj => by simpa using hpj j hj) (hJ _ _ _ hj (Ext.of_alloc _ _)))
    have HJ := Lib.hid hJ
    have HR := Lib.hid hrow
    have Hc := Lib.hid hc
    clear hcall hload h0 hj hJ hrow hpj
    go_enter Try.func82, Try.ntmps82
    go_wp2_with fail
    refine HC.out.mono ?_
    rintro e w1 ⟨rfl, hj1, hG⟩
    have HJ1 := Lib.hid hj1
    have HG := Lib.hid hG
    clear hj1 hG
    go_wp2
    go_ret
    have hG := HG.out
    refine ⟨rfl, HJ1.out, ?_, Nat.lt_of_lt_of_le hs (Nat.le_trans (Ext.of_alloc _ _).size hG.size)⟩
    have hne : some w.heap.size ≠ row := fun e => by have := HR.out _ e.symm; omega
    exact hG.cell (((Ext.of_alloc _ _).cellOf (p := ⟨w.heap.size, 0, none⟩) hs).trans Hc.out) hne
  have H := Lib.hid (containsFunc_judge A n c 82 #[.pointer (some ⟨w.heap.size, 0, none⟩)] x0 x1 x2 x3 (fun k => !p k) (fun k w' => J k w' ∧ w'.cell? ⟨w.heap.size, 0, none⟩ = some (.func (.func f) #[] caps) ∧ w.heap.size < w'.heap.size)
    (w.alloc (.cells #[.func (.func f) #[] caps] 124)) hn ⟨hJ _ _ _ h0 (Ext.of_alloc _ _), (by rw [World.cell?_alloc_at _ _ _ _ rfl]; rfl), by simp⟩ (fun args w' => by kernel_rfl) (fun k w' hk h => hload k w' hk h.1) hI)
  clear hI hcall hload h0 hJ hrow hfun
  go_enter Try.func66, Try.ntmps66
  go_wp2_with fail
  refine H.out.mono ?_
  rintro e w1 (⟨k, hk, hq, hj, rfl, hI⟩ | ⟨hj, rfl, hI⟩)
  · have HJ := Lib.hid hj
    have HI := Lib.hid hI
    have HQ := Lib.hid hq
    clear hj hI hq
    go_wp2
    go_ret
    exact ⟨_, HI.out.1, .inl ⟨k, hk, by simpa using HQ.out, rfl⟩⟩
  · have HJ := Lib.hid hj
    have HI := Lib.hid hI
    clear hj hI
    go_wp2
    go_ret
    exact ⟨_, HI.out.1, .inr ⟨fun j hj => by simpa using HJ.out j hj, rfl⟩⟩
end Go.Proofs.Ytkejebdfbkgaiaa

namespace Go.Proofs.Ytkejebdfbkgaiaa
open Go.RowKit

theorem ItemsAt.get {w : World} {A : Option Addr} {l : List Item} (h : ItemsAt w A l) {k : Nat} (hk : k < l.length) :
    ∃ b off x y, A = some ⟨b, off, none⟩ ∧ b < w.heap.size ∧ w.cell? ⟨b, off + k * 2, none⟩ = some (.int .i64 x) ∧ w.cell? ⟨b, off + k * 2 + 1, none⟩ = some (.int .i64 y) ∧ Hid ((l.getD k default).weight = x) ∧ Hid ((l.getD k default).most = y) := by
  obtain ⟨b, off, h1, h2, h3, h4⟩ := h k hk
  exact ⟨b, off, _, _, h1, h2, h3, h4, rfl, rfl⟩

set_option maxHeartbeats 400000 in
theorem isTruth_any (iA jA gA tA : Option Addr) (ic jc gc tc jn gn : Nat) (wr : Int) (p : Paper) (t : List Int) (w : World) (h : ItemsAt w iA p.items) (hil : p.items.length ≤ 9223372036854775807) (ht : Ints w tA t) (htl : t.length ≤ 9223372036854775807) :
    Calls Try.prog 22 #[.agg #[.slice iA p.items.length ic, .slice jA jn jc, .int .i64 wr, .slice gA gn gc], .slice tA t.length tc] w fun e w' => e = .returned (.bool (isTruth p t)) ∧ Ext w w' := by
  generalize hG : p.items = L at *
  have HG := Lib.hid hG
  clear hG
  go_enter Try.func22, Try.ntmps22
  go_wp2
  go_loopw [5] (fun i wr' => ∃ k : Nat, k ≤ t.length ∧ k ≤ L.length ∧ i = .int .i64 k ∧ Ext (w.alloc (.cells #[.slice iA L.length ic, .slice jA jn jc, .int .i64 wr, .slice gA gn gc] 43)) wr' ∧ allTo (fun i => wi (t.getD i 0) 0 (L.getD i default).most) k) (fun i _ => t.length - (intOf i).toNat)
  case atStart => exact ⟨0, by omega, by omega, rfl, Ext.refl _, allTo_zero _⟩
  case round =>
    rename_i wr'
    obtain ⟨k, hk, hkL, rfl, hE, hs⟩ := hrel
    have HS := Lib.hid hs
    have HE := Lib.hid hE
    have hbox := hE.box
    have htr := ht.ext hE.unalloc
    have hir := h.ext hE.unalloc
    clear hs hE ht h
    by_cases hlt : k < t.length
    · by_cases hlL : k < L.length
      · obtain ⟨b, off, x, rfl, hb, hc, hx⟩ := htr.get hlt
        obtain ⟨b', off', y, z, rfl, hb', hc1, hc2, hy, hz⟩ := hir.get hlL
        cases hw : wi x 0 z
        · have HW := Lib.hid (show wi (t.getD k 0) 0 (L.getD k default).most = false by rw [hx.out, hz.out]; exact hw)
          go_wp2
          go_quiet ((go_at_call 21; exact Calls.quiet_of_same (withinR _ _ _ _)))
          go_wp2
          go_ret
          exact ⟨ret_bool (by unfold isTruth; rw [HG.out]; by_cases hl : t.length = L.length
                              · rw [range_all_false hlt HW.out]; simp
                              · simp [hl]), HE.out.unalloc.drewN _⟩
        · have HW := Lib.hid (show wi (t.getD k 0) 0 (L.getD k default).most = true by rw [hx.out, hz.out]; exact hw)
          go_wp2
          go_quiet ((go_at_call 21; exact Calls.quiet_of_same (withinR _ _ _ _)))
          go_wp2
          go_roundw
          case rel => exact ⟨k + 1, by omega, by omega, by go_num, HE.out.drewN _, allTo_succ HS.out HW.out⟩
          case measure => simp [intOf]; omega
      · go_wp2
        go_ret
        exact ⟨ret_bool (by unfold isTruth; rw [HG.out]; have : ¬ t.length = L.length := by omega
                            simp [this]; omega), HE.out.unalloc⟩
    · go_wp2
      go_ret
      exact ⟨ret_bool (by
        unfold isTruth; rw [HG.out]
        rw [range_all.2 (show allTo _ t.length from fun j hj => HS.out j (by omega))]
        simp only [Bool.and_true]
        rw [Bool.eq_iff_iff]; simp; omega), HE.out.unalloc⟩
end Go.Proofs.Ytkejebdfbkgaiaa

namespace Go.Proofs.Ytkejebdfbkgaiaa
open Go.RowKit

theorem resultTo_le {p : Paper} {t : List Int} (hw : ∀ k, k < t.length → 0 ≤ (p.items.getD k default).weight ∧ (p.items.getD k default).weight ≤ 10) (ht : ∀ k, k < t.length → 0 ≤ t.getD k 0 ∧ t.getD k 0 ≤ 30) :
    ∀ k, k ≤ t.length → 0 ≤ resultTo p t k ∧ resultTo p t k ≤ 300 * k := by
  intro k
  induction k with
  | zero => intro _; simp [resultTo]
  | succ k ih =>
    intro hk
    have h1 := ih (by omega)
    have h2 := hw k (by omega)
    have h3 := ht k (by omega)
    generalize hx : t.getD k 0 = x at *
    generalize hy : (p.items.getD k default).weight = y at *
    have h4 : 0 ≤ x * y := Int.mul_nonneg h3.1 h2.1
    have h5 : x * y ≤ 30 * 10 := Int.mul_le_mul h3.2 h2.2 h2.1 (by omega)
    simp only [resultTo, hx, hy]
    omega

theorem mul_bd {x y : Int} (h2 : 0 ≤ y ∧ y ≤ 10) (h3 : 0 ≤ x ∧ x ≤ 30) : 0 ≤ x * y ∧ x * y ≤ 300 :=
  ⟨Int.mul_nonneg h3.1 h2.1, by have := Int.mul_le_mul h3.2 h2.2 h2.1 (show (0:Int) ≤ 30 by omega); omega⟩

set_option maxHeartbeats 400000 in
theorem result_any (iA jA gA tA : Option Addr) (ic jc gc tc jn gn : Nat) (wr : Int) (p : Paper) (t : List Int) (w : World) (h : ItemsAt w iA p.items) (hil : p.items.length ≤ 4) (ht : Ints w tA t) (htl : t.length = p.items.length)
    (hW : ∀ k, k < t.length → 0 ≤ (p.items.getD k default).weight ∧ (p.items.getD k default).weight ≤ 10) (hT : ∀ k, k < t.length → 0 ≤ t.getD k 0 ∧ t.getD k 0 ≤ 30) :
    Calls Try.prog 13 #[.agg #[.slice iA p.items.length ic, .slice jA jn jc, .int .i64 wr, .slice gA gn gc], .slice tA t.length tc] w fun e w' => e = .returned (.int .i64 (resultOf p t)) ∧ Ext w w' := by
  have htl2 : t.length ≤ 4 := by omega
  have HL := Lib.hid htl
  have HB := Lib.hid (resultTo_le hW hT)
  have HW := Lib.hid hW
  have HT := Lib.hid hT
  have HR := Lib.hid (show ∀ k, resultTo p t (k + 1) = resultTo p t k + t.getD k 0 * (p.items.getD k default).weight from fun k => rfl)
  have HZ := Lib.hid (show resultTo p t 0 = 0 from rfl)
  have HO := Lib.hid (show resultOf p t = resultTo p t t.length from rfl)
  generalize resultOf p t = ro at *
  generalize resultTo p t = rt at *
  clear htl hW hT
  generalize p.items = L at *
  go_enter Try.func13, Try.ntmps13
  go_wp2
  go_loopw [5, 6] (fun n i wr' => ∃ k : Nat, k ≤ t.length ∧ i = .int .i64 k ∧ n = .int .i64 (rt k) ∧ Ext (w.alloc (.cells #[.slice iA L.length ic, .slice jA jn jc, .int .i64 wr, .slice gA gn gc] 43)) wr') (fun _ i _ => t.length - (intOf i).toNat)
  case atStart => exact ⟨0, by omega, rfl, by rw [HZ.out], Ext.refl _⟩
  case round =>
    rename_i wr'
    obtain ⟨k, hk, rfl, rfl, hE⟩ := hrel
    have HE := Lib.hid hE
    have hbox := hE.box
    have htr := ht.ext hE.unalloc
    have hir := h.ext hE.unalloc
    clear hE ht h
    by_cases hlt : k < t.length
    · have hlL : k < L.length := by have := HL.out; omega
      obtain ⟨b, off, x, rfl, hb, hc, hx⟩ := htr.get hlt
      obtain ⟨b', off', y, z, rfl, hb', hc1, hc2, hy, hz⟩ := hir.get hlL
      have hm := mul_bd (x := x) (y := y) (by have := HW.out k hlt; rw [hy.out] at this; exact this) (by have := HT.out k hlt; rw [hx.out] at this; exact this)
      have hrb := HB.out k hk
      have HS := Lib.hid (show rt (k + 1) = rt k + x * y by rw [HR.out, hx.out, hy.out])
      have hk4 : k ≤ 4 := by omega
      go_wp2
      go_quiet (fail)
      go_wp2
      go_roundw
      case rel => exact ⟨k + 1, by omega, by go_num, by rw [HS.out], HE.out.drewN _⟩
      case measure => simp [intOf]; omega
    · go_wp2
      go_ret
      exact ⟨ret_int (by rw [HO.out, show t.length = k by omega]), HE.out.unalloc⟩

theorem biases_mem {x : Judge} {b : Int} : b ∈ biases x ↔ x.lo ≤ b ∧ b ≤ x.hi := by
  unfold biases
  simp only [List.mem_map, List.mem_range]
  constructor
  · rintro ⟨n, hn, rfl⟩; omega
  · rintro ⟨h1, h2⟩; exact ⟨(b - x.lo).toNat, by omega, by omega⟩
theorem isRight_iff {x : Judge} {t : List Int} : isRight x t = true ↔ ∃ b, x.lo ≤ b ∧ b ≤ x.hi ∧ agree x t b = true := by
  unfold isRight
  simp only [List.any_eq_true, biases_mem]
  constructor
  · rintro ⟨b, h1, h2⟩; exact ⟨b, h1.1, h1.2, h2⟩
  · rintro ⟨b, h1, h2, h3⟩; exact ⟨b, ⟨h1, h2⟩, h3⟩

set_option maxHeartbeats 1000000 in
theorem isRight_any (mA tA : Option Addr) (mc tc : Nat) (x : Judge) (t : List Int) (w : World) (hm : Ints w mA x.marks) (ht : Ints w tA t) (hl : x.marks.length = t.length) (htl : t.length ≤ 4)
    (hM : ∀ k, k < t.length → -1 ≤ x.marks.getD k 0 ∧ x.marks.getD k 0 ≤ 50) (hT : ∀ k, k < t.length → 0 ≤ t.getD k 0 ∧ t.getD k 0 ≤ 30) (h1 : -3 ≤ x.lo) (h2 : x.lo ≤ x.hi) (h3 : x.hi ≤ 3) (h4 : 0 ≤ x.err) (h5 : x.err ≤ 5) :
    Calls Try.prog 35 #[.agg #[.int .i64 x.lo, .int .i64 x.hi, .int .i64 x.err, .slice mA x.marks.length mc], .slice tA t.length tc] w fun e w' => e = .returned (.bool (isRight x t)) ∧ Ext w w' := by
  obtain ⟨ag, hag⟩ : ∃ ag : Int → Nat → Bool, ∀ b k, ag b k = (List.range k).all (agree1 x t b) := ⟨_, fun _ _ => rfl⟩
  have HA := Lib.hid (show ∀ b k, ag b (k + 1) = (ag b k && (decide (x.marks.getD k 0 = -1) || wi (x.marks.getD k 0 - t.getD k 0 - b) (-x.err) x.err)) from fun b k => by rw [hag, hag]; exact allTo_snoc)
  have HZ := Lib.hid (show ∀ b, ag b 0 = true from fun b => by rw [hag]; rfl)
  have HD := Lib.hid (show ∀ b, agree x t b = ag b t.length from fun b => by rw [hag]; rfl)
  clear hag
  have HI := Lib.hid (isRight_iff (x := x) (t := t))
  generalize isRight x t = ir at *
  generalize agree x t = agr at *
  have HM := Lib.hid hM
  have HT := Lib.hid hT
  have HL := Lib.hid hl
  clear hM hT hl
  obtain ⟨lo, hi, err, ma⟩ := x
  simp only at *
  go_enter Try.func35, Try.ntmps35
  go_wp2
  go_loopw [5, 6, 7] (fun b _ _ wr' => ∃ bb : Int, lo ≤ bb ∧ bb ≤ hi + 1 ∧ b = .int .i64 bb ∧ Ext (w.alloc (.cells #[.int .i64 lo, .int .i64 hi, .int .i64 err, .slice mA ma.length mc] 68)) wr' ∧ ∀ b', lo ≤ b' → b' < bb → agr b' = false) (fun b _ _ _ => (hi + 1 - intOf b).toNat)
  case atStart => exact ⟨lo, by omega, by omega, rfl, Ext.refl _, fun b' _ _ => by omega⟩
  case round =>
    obtain ⟨bb, hb1, hb2, rfl, hE, hN⟩ := hrel
    have HN := Lib.hid hN
    clear hN
    have HE := Lib.hid hE
    have hbox := hE.box
    clear hE
    obtain ⟨wo, hwo⟩ : ∃ wo : World, wo = wr := ⟨_, rfl⟩
    subst hwo
    by_cases hlt : bb ≤ hi
    · go_wp2
      go_loopw [6, 7] (fun s i wr' => ∃ k : Nat, k ≤ t.length ∧ i = .int .i64 k ∧ s = .bool (ag bb k) ∧ Ext wo wr') (fun _ i _ => t.length - (intOf i).toNat)
      case atStart => exact ⟨0, by omega, rfl, by rw [HZ.out], Ext.refl _⟩
      case round =>
        obtain ⟨k, hk, rfl, rfl, hE'⟩ := hrel
        have HE' := Lib.hid hE'
        have hbox := (HE.out.trans hE').box
        have htr := ht.ext (HE.out.unalloc.trans hE')
        have hmr := hm.ext (HE.out.unalloc.trans hE')
        clear hE'
        by_cases hk1 : k < t.length
        · obtain ⟨b1, o1, y, rfl, _, hc1, hy⟩ := htr.get hk1
          have hkm : k < ma.length := by have := HL.out; omega
          obtain ⟨b2, o2, m, rfl, _, hc2, hm2⟩ := hmr.get hkm
          have hyb : 0 ≤ y ∧ y ≤ 30 := by have := HT.out k hk1; rw [hy.out] at this; exact this
          have hmb : -1 ≤ m ∧ m ≤ 50 := by have := HM.out k hk1; rw [hm2.out] at this; exact this
          have HS := Lib.hid (show ag bb (k + 1) = (ag bb k && (decide (m = -1) || wi (m - y - bb) (-err) err)) by rw [HA.out, hy.out, hm2.out])
          have hk4 : k ≤ 4 := by omega
          cases hag : ag bb k
          · have HG := Lib.hid hag
            clear hag
            go_wp2
            go_quiet (fail)
            go_wp2
            go_roundw
            case rel => exact ⟨k + 1, by omega, by go_num, by rw [HS.out, HG.out]; rfl, HE'.out.drewN _⟩
            case measure => simp [intOf]; omega
          · have HG := Lib.hid hag
            clear hag
            by_cases hm1 : m = -1
            · have hmq : (m == -1) = true := by simpa using hm1
              have HM1 := Lib.hid hm1
              clear hm1
              go_wp2
              go_quiet (fail)
              go_wp2
              go_roundw
              case rel => exact ⟨k + 1, by omega, by go_num, by rw [HS.out, HG.out, HM1.out]; rfl, HE'.out.drewN _⟩
              case measure => simp [intOf]; omega
            · have hmq : (m == -1) = false := by simpa using hm1
              have HM1 := Lib.hid hm1
              clear hm1
              go_wp2
              go_quiet ((go_at_call 21; exact Calls.quiet_of_same (withinR _ _ _ _)))
              go_wp2
              go_roundw
              case rel => exact ⟨k + 1, by omega, by go_num, by rw [HS.out, HG.out]; simp [HM1.out], HE'.out.drewN _⟩
              case measure => simp [intOf]; omega
        · have HK := Lib.hid (show k = t.length by omega)
          cases hag : ag bb k
          · have HG := Lib.hid hag
            clear hag
            go_wp2
            go_roundw
            case rel =>
              refine ⟨bb + 1, by omega, by omega, by go_num, HE.out.trans HE'.out, fun b' h1 h2 => ?_⟩
              by_cases e : b' = bb
              · rw [e, HD.out, ← HK.out]; exact HG.out
              · exact HN.out b' h1 (by omega)
            case measure => simp [intOf]; omega
          · have HG := Lib.hid hag
            clear hag
            go_wp2
            go_ret
            refine ⟨ret_bool ?_, HE.out.unalloc.trans HE'.out⟩
            have := HI.out.2 ⟨bb, hb1, hlt, by rw [HD.out, ← HK.out]; exact HG.out⟩
            exact this.symm
    · go_wp2
      go_ret
      refine ⟨ret_bool ?_, HE.out.unalloc⟩
      cases hir : ir
      · rfl
      · obtain ⟨b, h1, h2, h3⟩ := HI.out.1 hir
        rw [HN.out b h1 (by omega)] at h3
        cases h3
end Go.Proofs.Ytkejebdfbkgaiaa
