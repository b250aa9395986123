/- Exams: slices.IndexFunc, slices.ContainsFunc, and 'every', by what the closure does. (Printed by gen_func.py.) / Exams: the program's Check. -/
import Derived.Test.YtbpilgflejdhaaaBm1
import Derived.Test.YtbpilgflejdhaaaBm2

namespace Go.Proofs.Ytbpilgflejdhaaa
open Go.RowKit

set_option maxHeartbeats 1000000 in
theorem indexFunc_int (A : Option Addr) (n c : Nat) (f : FuncId) (caps : Array Value) (x0 : Nat → Value) (q : Nat → Bool) (I : Nat → World → Prop) (w : World) (hn : n ≤ 9223372036854775807) (h0 : I 0 w)
    (hfun : ∀ args w', (callFunc f args).run Try.prog w' = .ok (.enter f args) w')
    (hload : ∀ k w', k < n → I k w' → ∃ b off, A = some ⟨b, off, none⟩ ∧ w'.cell? ⟨b, off + k, none⟩ = some (x0 k))
    (hcall : ∀ k w', k < n → (∀ j, j < k → q j = false) → I k w' → Calls Try.prog f (#[x0 k] ++ caps) w' (fun e w'' => e = .returned (.bool (q k)) ∧ I (k + 1) w'')) :
    Calls Try.prog 79 #[.slice A n c, .func (.func f) #[] caps] w (fun e w' => (∃ k, k < n ∧ q k = true ∧ (∀ j, j < k → q j = false) ∧ e = .returned (.int .i64 k) ∧ I (k + 1) w') ∨ ((∀ j, j < n → q j = false) ∧ e = .returned (.int .i64 (-1)) ∧ I n w')) := by
  have HL := Lib.hid hload
  have HC := Lib.hid hcall
  clear hload hcall
  go_enter Try.func79, Try.ntmps79
  go_wp2
  go_loopw [5, 8] (fun _ i wr => ∃ k : Nat, k ≤ n ∧ i = .int .i64 k ∧ I k wr ∧ ∀ j, j < k → q j = false) (fun _ i _ => n - (intOf i).toNat)
  case atStart => exact ⟨0, by omega, rfl, h0, fun j hj => by omega⟩
  case round =>
    obtain ⟨k, hk, rfl, hI, hq⟩ := hrel
    have HI := Lib.hid hI
    have HQ := Lib.hid hq
    clear hI hq
    by_cases hlt : k < n
    · obtain ⟨b, off, rfl, hc0⟩ := HL.out k _ hlt HI.out
      cases hqk : q k
      · have HK := Lib.hid hqk
        clear hqk
        go_wp2_with fail
        refine (HC.out k _ hlt HQ.out HI.out).mono ?_
        rintro e w1 ⟨rfl, hI1⟩
        rw [HK.out]
        go_wp2
        go_roundw
        case rel =>
          refine ⟨k + 1, by omega, by go_num, hI1, fun j hj => ?_⟩
          by_cases e : j = k
          · rw [e]; exact HK.out
          · exact HQ.out j (by omega)
        case measure => simp [intOf]; omega
      · have HK := Lib.hid hqk
        clear hqk
        go_wp2_with fail
        refine (HC.out k _ hlt HQ.out HI.out).mono ?_
        rintro e w1 ⟨rfl, hI1⟩
        rw [HK.out]
        go_wp2
        go_ret
        exact .inl ⟨k, hlt, HK.out, HQ.out, rfl, hI1⟩
    · go_wp2
      go_ret
      exact .inr ⟨fun j hj => HQ.out j (by omega), rfl, by rw [show n = k by omega]; exact HI.out⟩

set_option maxHeartbeats 1000000 in
theorem containsFunc_int (A : Option Addr) (n c : Nat) (f : FuncId) (caps : Array Value) (x0 : Nat → Value) (q : Nat → Bool) (I : Nat → World → Prop) (w : World) (hn : n ≤ 9223372036854775807) (h0 : I 0 w)
    (hfun : ∀ args w', (callFunc f args).run Try.prog w' = .ok (.enter f args) w')
    (hload : ∀ k w', k < n → I k w' → ∃ b off, A = some ⟨b, off, none⟩ ∧ w'.cell? ⟨b, off + k, none⟩ = some (x0 k))
    (hcall : ∀ k w', k < n → (∀ j, j < k → q j = false) → I k w' → Calls Try.prog f (#[x0 k] ++ caps) w' (fun e w'' => e = .returned (.bool (q k)) ∧ I (k + 1) w'')) :
    Calls Try.prog 70 #[.slice A n c, .func (.func f) #[] caps] w (fun e w' => (∃ k, k < n ∧ q k = true ∧ (∀ j, j < k → q j = false) ∧ e = .returned (.bool true) ∧ I (k + 1) w') ∨ ((∀ j, j < n → q j = false) ∧ e = .returned (.bool false) ∧ I n w')) := by
  have H := Lib.hid (indexFunc_int A n c f caps x0 q I w hn h0 hfun hload hcall)
  clear hload hcall hfun
  go_enter Try.func70, Try.ntmps70
  go_wp2_with fail
  refine H.out.mono ?_
  rintro e w1 (⟨k, hk, hq, hj, rfl, hI⟩ | ⟨hj, rfl, hI⟩)
  · have HJ := Lib.hid hj
    have HI := Lib.hid hI
    have HQ := Lib.hid hq
    clear hj hI hq
    have h0 : (0 : Int) ≤ k := by omega
    go_wp2
    go_ret
    exact .inl ⟨k, hk, HQ.out, HJ.out, rfl, HI.out⟩
  · have HJ := Lib.hid hj
    have HI := Lib.hid hI
    clear hj hI
    go_wp2
    go_ret
    exact .inr ⟨HJ.out, rfl, HI.out⟩

set_option maxHeartbeats 1000000 in
theorem every_int (A : Option Addr) (n c : Nat) (f : FuncId) (caps : Array Value) (x0 : Nat → Value) (p : Nat → Bool) (J : Nat → World → Prop) (row : Option Nat) (w : World) (hn : n ≤ 9223372036854775807) (h0 : J 0 w) (hJ : ∀ m w' w'', J m w' → Ext w' w'' → J m w'')
    (hrow : ∀ g, row = some g → g < w.heap.size)
    (hfun : ∀ args w', (callFunc f args).run Try.prog w' = .ok (.enter f args) w')
    (hload : ∀ k w', k < n → J k w' → ∃ b off, A = some ⟨b, off, none⟩ ∧ w'.cell? ⟨b, off + k, none⟩ = some (x0 k))
    (hcall : ∀ k w', k < n → (∀ j, j < k → p j = true) → J k w' → Calls Try.prog f (#[x0 k] ++ caps) w' (fun e w'' => e = .returned (.bool (p k)) ∧ J (k + 1) w'' ∧ w'.grownBy w'' row)) :
    Calls Try.prog 61 #[.slice A n c, .func (.func f) #[] caps] w (fun e w' => ∃ m, J m w' ∧ ((∃ k, k < n ∧ p k = false ∧ e = .returned (.bool false)) ∨ ((∀ j, j < n → p j = true) ∧ e = .returned (.bool true)))) := by
  have hI : ∀ k w', k < n → (∀ j, j < k → (!p j) = false) → (J k w' ∧ w'.cell? ⟨w.heap.size, 0, none⟩ = some (.func (.func f) #[] caps) ∧ w.heap.size < w'.heap.size) →
      Calls Try.prog 71 (#[x0 k] ++ #[.pointer (some ⟨w.heap.size, 0, none⟩)]) w' (fun e w'' => e = .returned (.bool (!p k)) ∧ (J (k + 1) w'' ∧ w''.cell? ⟨w.heap.size, 0, none⟩ = some (.func (.func f) #[] caps) ∧ w.heap.size < w''.heap.size)) := by
    rintro k w' hk hpj ⟨hj, hc, hs⟩
    have HC := Lib.hid (hcall k w' hk (fun j hj => by simpa using hpj j hj) (hJ _ _ _ hj (Ext.refl _)))
    have HJ := Lib.hid hJ
    have HR := Lib.hid hrow
    have Hc := Lib.hid hc
    clear hcall hload h0 hj hJ hrow hpj
    go_enter Try.func71, Try.ntmps71
    go_wp2_with fail
    refine HC.out.mono ?_
    rintro e w1 ⟨rfl, hj1, hG⟩
    have HJ1 := Lib.hid hj1
    have HG := Lib.hid hG
    clear hj1 hG
    go_wp2
    go_ret
    have hG := HG.out
    refine ⟨rfl, HJ1.out, ?_, Nat.lt_of_lt_of_le hs (Nat.le_trans (Ext.refl _).size hG.size)⟩
    have hne : some w.heap.size ≠ row := fun e => by have := HR.out _ e.symm; omega
    exact hG.cell (((Ext.refl _).cellOf (p := ⟨w.heap.size, 0, none⟩) hs).trans Hc.out) hne
  have H := Lib.hid (containsFunc_int A n c 71 #[.pointer (some ⟨w.heap.size, 0, none⟩)] x0 (fun k => !p k) (fun k w' => J k w' ∧ w'.cell? ⟨w.heap.size, 0, none⟩ = some (.func (.func f) #[] caps) ∧ w.heap.size < w'.heap.size)
    (w.alloc (.cells #[.func (.func f) #[] caps] 100)) hn ⟨hJ _ _ _ h0 (Ext.of_alloc _ _), (by rw [World.cell?_alloc_at _ _ _ _ rfl]; rfl), by simp⟩ (fun args w' => by kernel_rfl) (fun k w' hk h => hload k w' hk h.1) hI)
  clear hI hcall hload h0 hJ hrow hfun
  go_enter Try.func61, Try.ntmps61
  go_wp2_with fail
  refine H.out.mono ?_
  rintro e w1 (⟨k, hk, hq, hj, rfl, hI⟩ | ⟨hj, rfl, hI⟩)
  · have HJ := Lib.hid hj
    have HI := Lib.hid hI
    have HQ := Lib.hid hq
    clear hj hI hq
    go_wp2
    go_ret
    exact ⟨_, HI.out.1, .inl ⟨k, hk, by simpa using HQ.out, rfl⟩⟩
  · have HJ := Lib.hid hj
    have HI := Lib.hid hI
    clear hj hI
    go_wp2
    go_ret
    exact ⟨_, HI.out.1, .inr ⟨fun j hj => by simpa using HJ.out j hj, rfl⟩⟩

set_option maxHeartbeats 1000000 in
theorem indexFunc_item (A : Option Addr) (n c : Nat) (f : FuncId) (caps : Array Value) (x0 x1 : Nat → Value) (q : Nat → Bool) (I : Nat → World → Prop) (w : World) (hn : n ≤ 9223372036854775807) (h0 : I 0 w)
    (hfun : ∀ args w', (callFunc f args).run Try.prog w' = .ok (.enter f args) w')
    (hload : ∀ k w', k < n → I k w' → ∃ b off, A = some ⟨b, off, none⟩ ∧ w'.cell? ⟨b, off + k * 2, none⟩ = some (x0 k) ∧ w'.cell? ⟨b, off + k * 2 + 1, none⟩ = some (x1 k))
    (hcall : ∀ k w', k < n → (∀ j, j < k → q j = false) → I k w' → Calls Try.prog f (#[.agg #[x0 k, x1 k]] ++ caps) w' (fun e w'' => e = .returned (.bool (q k)) ∧ I (k + 1) w'')) :
    Calls Try.prog 80 #[.slice A n c, .func (.func f) #[] caps] w (fun e w' => (∃ k, k < n ∧ q k = true ∧ (∀ j, j < k → q j = false) ∧ e = .returned (.int .i64 k) ∧ I (k + 1) w') ∨ ((∀ j, j < n → q j = false) ∧ e = .returned (.int .i64 (-1)) ∧ I n w')) := by
  have HL := Lib.hid hload
  have HC := Lib.hid hcall
  clear hload hcall
  go_enter Try.func80, Try.ntmps80
  go_wp2
  go_loopw [5, 8] (fun _ i wr => ∃ k : Nat, k ≤ n ∧ i = .int .i64 k ∧ I k wr ∧ ∀ j, j < k → q j = false) (fun _ i _ => n - (intOf i).toNat)
  case atStart => exact ⟨0, by omega, rfl, h0, fun j hj => by omega⟩
  case round =>
    obtain ⟨k, hk, rfl, hI, hq⟩ := hrel
    have HI := Lib.hid hI
    have HQ := Lib.hid hq
    clear hI hq
    by_cases hlt : k < n
    · obtain ⟨b, off, rfl, hc0, hc1⟩ := HL.out k _ hlt HI.out
      cases hqk : q k
      · have HK := Lib.hid hqk
        clear hqk
        go_wp2_with fail
        refine (HC.out k _ hlt HQ.out HI.out).mono ?_
        rintro e w1 ⟨rfl, hI1⟩
        rw [HK.out]
        go_wp2
        go_roundw
        case rel =>
          refine ⟨k + 1, by omega, by go_num, hI1, fun j hj => ?_⟩
          by_cases e : j = k
          · rw [e]; exact HK.out
          · exact HQ.out j (by omega)
        case measure => simp [intOf]; omega
      · have HK := Lib.hid hqk
        clear hqk
        go_wp2_with fail
        refine (HC.out k _ hlt HQ.out HI.out).mono ?_
        rintro e w1 ⟨rfl, hI1⟩
        rw [HK.out]
        go_wp2
        go_ret
        exact .inl ⟨k, hlt, HK.out, HQ.out, rfl, hI1⟩
    · go_wp2
      go_ret
      exact .inr ⟨fun j hj => HQ.out j (by omega), rfl, by rw [show n = k by omega]; exact HI.out⟩

set_option maxHeartbeats 1000000 in
theorem containsFunc_item (A : Option Addr) (n c : Nat) (f : FuncId) (caps : Array Value) (x0 x1 : Nat → Value) (q : Nat → Bool) (I : Nat → World → Prop) (w : World) (hn : n ≤ 9223372036854775807) (h0 : I 0 w)
    (hfun : ∀ args w', (callFunc f args).run Try.prog w' = .ok (.enter f args) w')
    (hload : ∀ k w', k < n → I k w' → ∃ b off, A = some ⟨b, off, none⟩ ∧ w'.cell? ⟨b, off + k * 2, none⟩ = some (x0 k) ∧ w'.cell? ⟨b, off + k * 2 + 1, none⟩ = some (x1 k))
    (hcall : ∀ k w', k < n → (∀ j, j < k → q j = false) → I k w' → Calls Try.prog f (#[.agg #[x0 k, x1 k]] ++ caps) w' (fun e w'' => e = .returned (.bool (q k)) ∧ I (k + 1) w'')) :
    Calls Try.prog 72 #[.slice A n c, .func (.func f) #[] caps] w (fun e w' => (∃ k, k < n ∧ q k = true ∧ (∀ j, j < k → q j = false) ∧ e = .returned (.bool true) ∧ I (k + 1) w') ∨ ((∀ j, j < n → q j = false) ∧ e = .returned (.bool false) ∧ I n w')) := by
  have H := Lib.hid (indexFunc_item A n c f caps x0 x1 q I w hn h0 hfun hload hcall)
  clear hload hcall hfun
  go_enter Try.func72, Try.ntmps72
  go_wp2_with fail
  refine H.out.mono ?_
  rintro e w1 (⟨k, hk, hq, hj, rfl, hI⟩ | ⟨hj, rfl, hI⟩)
  · have HJ := Lib.hid hj
    have HI := Lib.hid hI
    have HQ := Lib.hid hq
    clear hj hI hq
    have h0 : (0 : Int) ≤ k := by omega
    go_wp2
    go_ret
    exact .inl ⟨k, hk, HQ.out, HJ.out, rfl, HI.out⟩
  · have HJ := Lib.hid hj
    have HI := Lib.hid hI
    clear hj hI
    go_wp2
    go_ret
    exact .inr ⟨HJ.out, rfl, HI.out⟩

set_option maxHeartbeats 1000000 in
theorem every_item (A : Option Addr) (n c : Nat) (f : FuncId) (caps : Array Value) (x0 x1 : Nat → Value) (p : Nat → Bool) (J : Nat → World → Prop) (row : Option Nat) (w : World) (hn : n ≤ 9223372036854775807) (h0 : J 0 w) (hJ : ∀ m w' w'', J m w' → Ext w' w'' → J m w'')
    (hrow : ∀ g, row = some g → g < w.heap.size)
    (hfun : ∀ args w', (callFunc f args).run Try.prog w' = .ok (.enter f args) w')
    (hload : ∀ k w', k < n → J k w' → ∃ b off, A = some ⟨b, off, none⟩ ∧ w'.cell? ⟨b, off + k * 2, none⟩ = some (x0 k) ∧ w'.cell? ⟨b, off + k * 2 + 1, none⟩ = some (x1 k))
    (hcall : ∀ k w', k < n → (∀ j, j < k → p j = true) → J k w' → Calls Try.prog f (#[.agg #[x0 k, x1 k]] ++ caps) w' (fun e w'' => e = .returned (.bool (p k)) ∧ J (k + 1) w'' ∧ w'.grownBy w'' row)) :
    Calls Try.prog 63 #[.slice A n c, .func (.func f) #[] caps] w (fun e w' => ∃ m, J m w' ∧ ((∃ k, k < n ∧ p k = false ∧ e = .returned (.bool false)) ∨ ((∀ j, j < n → p j = true) ∧ e = .returned (.bool true)))) := by
  have hI : ∀ k w', k < n → (∀ j, j < k → (!p j) = false) → (J k w' ∧ w'.cell? ⟨w.heap.size, 0, none⟩ = some (.func (.func f) #[] caps) ∧ w.heap.size < w'.heap.size) →
      Calls Try.prog 73 (#[.agg #[x0 k, x1 k]] ++ #[.pointer (some ⟨w.heap.size, 0, none⟩)]) w' (fun e w'' => e = .returned (.bool (!p k)) ∧ (J (k + 1) w'' ∧ w''.cell? ⟨w.heap.size, 0, none⟩ = some (.func (.func f) #[] caps) ∧ w.heap.size < w''.heap.size)) := by
    rintro k w' hk hpj ⟨hj, hc, hs⟩
    have HC := Lib.hid (hcall k (w'.alloc (.cells #[x0 k, x1 k] 90)) hk (fun j hj => by simpa using hpj j hj) (hJ _ _ _ hj (Ext.of_alloc _ _)))
    have HJ := Lib.hid hJ
    have HR := Lib.hid hrow
    have Hc := Lib.hid hc
    clear hcall hload h0 hj hJ hrow hpj
    go_enter Try.func73, Try.ntmps73
    go_wp2_with fail
    refine HC.out.mono ?_
    rintro e w1 ⟨rfl, hj1, hG⟩
    have HJ1 := Lib.hid hj1
    have HG := Lib.hid hG
    clear hj1 hG
    go_wp2
    go_ret
    have hG := HG.out
    refine ⟨rfl, HJ1.out, ?_, Nat.lt_of_lt_of_le hs (Nat.le_trans (Ext.of_alloc _ _).size hG.size)⟩
    have hne : some w.heap.size ≠ row := fun e => by have := HR.out _ e.symm; omega
    exact hG.cell (((Ext.of_alloc _ _).cellOf (p := ⟨w.heap.size, 0, none⟩) hs).trans Hc.out) hne
  have H := Lib.hid (containsFunc_item A n c 73 #[.pointer (some ⟨w.heap.size, 0, none⟩)] x0 x1 (fun k => !p k) (fun k w' => J k w' ∧ w'.cell? ⟨w.heap.size, 0, none⟩ = some (.func (.func f) #[] caps) ∧ w.heap.size < w'.heap.size)
    (w.alloc (.cells #[.func (.func f) #[] caps] 99)) hn ⟨hJ _ _ _ h0 (Ext.of_alloc _ _), (by rw [World.cell?_alloc_at _ _ _ _ rfl]; rfl), by simp⟩ (fun args w' => by kernel_rfl) (fun k w' hk h => hload k w' hk h.1) hI)
  clear hI hcall hload h0 hJ hrow hfun
  go_enter Try.func63, Try.ntmps63
  go_wp2_with fail
  refine H.out.mono ?_
  rintro e w1 (⟨k, hk, hq, hj, rfl, hI⟩ | ⟨hj, rfl, hI⟩)
  · have HJ := Lib.hid hj
    have HI := Lib.hid hI
    have HQ := Lib.hid hq
    clear hj hI hq
    go_wp2
    go_ret
    exact ⟨_, HI.out.1, .inl ⟨k, hk, by simpa using HQ.out, rfl⟩⟩
  · have HJ := Lib.hid hj
    have HI := Lib.hid hI
    clear hj hI
    go_wp2
    go_ret
    exact ⟨_, HI.out.1, .inr ⟨fun j hj => by simpa using HJ.out j hj, rfl⟩⟩

set_option maxHeartbeats 1000000 in
theorem indexFunc_judge (A : Option Addr) (n c : Nat) (f : FuncId) (caps : Array Value) (x0 x1 x2 x3 : Nat → Value) (q : Nat → Bool) (I : Nat → World → Prop) (w : World) (hn : n ≤ 9223372036854775807) (h0 : I 0 w)
    (hfun : ∀ args w', (callFunc f args).run Try.prog w' = .ok (.enter f args) w')
    (hload : ∀ k w', k < n → I k w' → ∃ b off, A = some ⟨b, off, none⟩ ∧ w'.cell? ⟨b, off + k * 4, none⟩ = some (x0 k) ∧ w'.cell? ⟨b, off + k * 4 + 1, none⟩ = some (x1 k) ∧ w'.cell? ⟨b, off + k * 4 + 2, none⟩ = some (x2 k) ∧ w'.cell? ⟨b, off + k * 4 + 3, none⟩ = some (x3 k))
    (hcall : ∀ k w', k < n → (∀ j, j < k → q j = false) → I k w' → Calls Try.prog f (#[.agg #[x0 k, x1 k, x2 k, x3 k]] ++ caps) w' (fun e w'' => e = .returned (.bool (q k)) ∧ I (k + 1) w'')) :
    Calls Try.prog 81 #[.slice A n c, .func (.func f) #[] caps] w (fun e w' => (∃ k, k < n ∧ q k = true ∧ (∀ j, j < k → q j = false) ∧ e = .returned (.int .i64 k) ∧ I (k + 1) w') ∨ ((∀ j, j < n → q j = false) ∧ e = .returned (.int .i64 (-1)) ∧ I n w')) := by
  have HL := Lib.hid hload
  have HC := Lib.hid hcall
  clear hload hcall
  go_enter Try.func81, Try.ntmps81
  go_wp2
  go_loopw [5, 8] (fun _ i wr => ∃ k : Nat, k ≤ n ∧ i = .int .i64 k ∧ I k wr ∧ ∀ j, j < k → q j = false) (fun _ i _ => n - (intOf i).toNat)
  case atStart => exact ⟨0, by omega, rfl, h0, fun j hj => by omega⟩
  case round =>
    obtain ⟨k, hk, rfl, hI, hq⟩ := hrel
    have HI := Lib.hid hI
    have HQ := Lib.hid hq
    clear hI hq
    by_cases hlt : k < n
    · obtain ⟨b, off, rfl, hc0, hc1, hc2, hc3⟩ := HL.out k _ hlt HI.out
      cases hqk : q k
      · have HK := Lib.hid hqk
        clear hqk
        go_wp2_with fail
        refine (HC.out k _ hlt HQ.out HI.out).mono ?_
        rintro e w1 ⟨rfl, hI1⟩
        rw [HK.out]
        go_wp2
        go_roundw
        case rel =>
          refine ⟨k + 1, by omega, by go_num, hI1, fun j hj => ?_⟩
          by_cases e : j = k
          · rw [e]; exact HK.out
          · exact HQ.out j (by omega)
        case measure => simp [intOf]; omega
      · have HK := Lib.hid hqk
        clear hqk
        go_wp2_with fail
        refine (HC.out k _ hlt HQ.out HI.out).mono ?_
        rintro e w1 ⟨rfl, hI1⟩
        rw [HK.out]
        go_wp2
        go_ret
        exact .inl ⟨k, hlt, HK.out, HQ.out, rfl, hI1⟩
    · go_wp2
      go_ret
      exact .inr ⟨fun j hj => HQ.out j (by omega), rfl, by rw [show n = k by omega]; exact HI.out⟩

set_option maxHeartbeats 1000000 in
theorem containsFunc_judge (A : Option Addr) (n c : Nat) (f : FuncId) (caps : Array Value) (x0 x1 x2 x3 : Nat → Value) (q : Nat → Bool) (I : Nat → World → Prop) (w : World) (hn : n ≤ 9223372036854775807) (h0 : I 0 w)
    (hfun : ∀ args w', (callFunc f args).run Try.prog w' = .ok (.enter f args) w')
    (hload : ∀ k w', k < n → I k w' → ∃ b off, A = some ⟨b, off, none⟩ ∧ w'.cell? ⟨b, off + k * 4, none⟩ = some (x0 k) ∧ w'.cell? ⟨b, off + k * 4 + 1, none⟩ = some (x1 k) ∧ w'.cell? ⟨b, off + k * 4 + 2, none⟩ = some (x2 k) ∧ w'.cell? ⟨b, off + k * 4 + 3, none⟩ = some (x3 k))
    (hcall : ∀ k w', k < n → (∀ j, j < k → q j = false) → I k w' → Calls Try.prog f (#[.agg #[x0 k, x1 k, x2 k, x3 k]] ++ caps) w' (fun e w'' => e = .returned (.bool (q k)) ∧ I (k + 1) w'')) :
    Calls Try.prog 74 #[.slice A n c, .func (.func f) #[] caps] w (fun e w' => (∃ k, k < n ∧ q k = true ∧ (∀ j, j < k → q j = false) ∧ e = .returned (.bool true) ∧ I (k + 1) w') ∨ ((∀ j, j < n → q j = false) ∧ e = .returned (.bool false) ∧ I n w')) := by
  have H := Lib.hid (indexFunc_judge A n c f caps x0 x1 x2 x3 q I w hn h0 hfun hload hcall)
  clear hload hcall hfun
  go_enter Try.func74, Try.ntmps74
  go_wp2_with fail
  refine H.out.mono ?_
  rintro e w1 (⟨k, hk, hq, hj, rfl, hI⟩ | ⟨hj, rfl, hI⟩)
  · have HJ := Lib.hid hj
    have HI := Lib.hid hI
    have HQ := Lib.hid hq
    clear hj hI hq
    have h0 : (0 : Int) ≤ k := by omega
    go_wp2
    go_ret
    exact .inl ⟨k, hk, HQ.out, HJ.out, rfl, HI.out⟩
  · have HJ := Lib.hid hj
    have HI := Lib.hid hI
    clear hj hI
    go_wp2
    go_ret
    exact .inr ⟨HJ.out, rfl, HI.out⟩

set_option maxHeartbeats 1000000 in
theorem every_judge (A : Option Addr) (n c : Nat) (f : FuncId) (caps : Array Value) (x0 x1 x2 x3 : Nat → Value) (p : Nat → Bool) (J : Nat → World → Prop) (row : Option Nat) (w : World) (hn : n ≤ 9223372036854775807) (h0 : J 0 w) (hJ : ∀ m w' w'', J m w' → Ext w' w'' → J m w'')
    (hrow : ∀ g, row = some g → g < w.heap.size)
    (hfun : ∀ args w', (callFunc f args).run Try.prog w' = .ok (.enter f args) w')
    (hload : ∀ k w', k < n → J k w' → ∃ b off, A = some ⟨b, off, none⟩ ∧ w'.cell? ⟨b, off + k * 4, none⟩ = some (x0 k) ∧ w'.cell? ⟨b, off + k * 4 + 1, none⟩ = some (x1 k) ∧ w'.cell? ⟨b, off + k * 4 + 2, none⟩ = some (x2 k) ∧ w'.cell? ⟨b, off + k * 4 + 3, none⟩ = some (x3 k))
    (hcall : ∀ k w', k < n → (∀ j, j < k → p j = true) → J k w' → Calls Try.prog f (#[.agg #[x0 k, x1 k, x2 k, x3 k]] ++ caps) w' (fun e w'' => e = .returned (.bool (p k)) ∧ J (k + 1) w'' ∧ w'.grownBy w'' row)) :
    Calls Try.prog 64 #[.slice A n c, .func (.func f) #[] caps] w (fun e w' => ∃ m, J m w' ∧ ((∃ k, k < n ∧ p k = false ∧ e = .returned (.bool false)) ∨ ((∀ j, j < n → p j = true) ∧ e = .returned (.bool true)))) := by
  have hI : ∀ k w', k < n → (∀ j, j < k → (!p j) = false) → (J k w' ∧ w'.cell? ⟨w.heap.size, 0, none⟩ = some (.func (.func f) #[] caps) ∧ w.heap.size < w'.heap.size) →
      Calls Try.prog 75 (#[.agg #[x0 k, x1 k, x2 k, x3 k]] ++ #[.pointer (some ⟨w.heap.size, 0, none⟩)]) w' (fun e w'' => e = .returned (.bool (!p k)) ∧ (J (k + 1) w'' ∧ w''.cell? ⟨w.heap.size, 0, none⟩ = some (.func (.func f) #[] caps) ∧ w.heap.size < w''.heap.size)) := by
    rintro k w' hk hpj ⟨hj, hc, hs⟩
    have HC := Lib.hid (hcall k (w'.alloc (.cells #[x0 k, x1 k, x2 k, x3 k] 37)) hk (fun j hj => by simpa using hpj j hj) (hJ _ _ _ hj (Ext.of_alloc _ _)))
    have HJ := Lib.hid hJ
    have HR := Lib.hid hrow
    have Hc := Lib.hid hc
    clear hcall hload h0 hj hJ hrow hpj
    go_enter Try.func75, Try.ntmps75
    go_wp2_with fail
    refine HC.out.mono ?_
    rintro e w1 ⟨rfl, hj1, hG⟩
    have HJ1 := Lib.hid hj1
    have HG := Lib.hid hG
    clear hj1 hG
    go_wp2
    go_ret
    have hG := HG.out
    refine ⟨rfl, HJ1.out, ?_, Nat.lt_of_lt_of_le hs (Nat.le_trans (Ext.of_alloc _ _).size hG.size)⟩
    have hne : some w.heap.size ≠ row := fun e => by have := HR.out _ e.symm; omega
    exact hG.cell (((Ext.of_alloc _ _).cellOf (p := ⟨w.heap.size, 0, none⟩) hs).trans Hc.out) hne
  have H := Lib.hid (containsFunc_judge A n c 75 #[.pointer (some ⟨w.heap.size, 0, none⟩)] x0 x1 x2 x3 (fun k => !p k) (fun k w' => J k w' ∧ w'.cell? ⟨w.heap.size, 0, none⟩ = some (.func (.func f) #[] caps) ∧ w.heap.size < w'.heap.size)
    (w.alloc (.cells #[.func (.func f) #[] caps] 102)) hn ⟨hJ _ _ _ h0 (Ext.of_alloc _ _), (by rw [World.cell?_alloc_at _ _ _ _ rfl]; rfl), by simp⟩ (fun args w' => by kernel_rfl) (fun k w' hk h => hload k w' hk h.1) hI)
  clear hI hcall hload h0 hJ hrow hfun
  go_enter Try.func64, Try.ntmps64
  go_wp2_with fail
  refine H.out.mono ?_
  rintro e w1 (⟨k, hk, hq, hj, rfl, hI⟩ | ⟨hj, rfl, hI⟩)
  · have HJ := Lib.hid hj
    have HI := Lib.hid hI
    have HQ := Lib.hid hq
    clear hj hI hq
    go_wp2
    go_ret
    exact ⟨_, HI.out.1, .inl ⟨k, hk, by simpa using HQ.out, rfl⟩⟩
  · have HJ := Lib.hid hj
    have HI := Lib.hid hI
    clear hj hI
    go_wp2
    go_ret
    exact ⟨_, HI.out.1, .inr ⟨fun j hj => by simpa using HJ.out j hj, rfl⟩⟩
end Go.Proofs.Ytbpilgflejdhaaa

namespace Go.Proofs.Ytbpilgflejdhaaa
open Go.RowKit

theorem withinE (n lo hi : Int) (w : World) :
    Calls Try.prog 48 #[.int .i64 n, .int .i64 lo, .int .i64 hi] w fun e w' => e = .returned (.bool (wi n lo hi)) ∧ w = w' := by
  by_cases h1 : lo ≤ n
  · by_cases h2 : n ≤ hi
    · have h := Lib.hid (wi_of ⟨h1, h2⟩)
      go_enter Try.func48, Try.ntmps48
      go_wp2
      go_ret
      exact ⟨ret_bool h.out.symm, rfl⟩
    · have h := Lib.hid (show wi n lo hi = false by simp [wi, h2])
      go_enter Try.func48, Try.ntmps48
      go_wp2
      go_ret
      exact ⟨ret_bool h.out.symm, rfl⟩
  · have h := Lib.hid (show wi n lo hi = false by simp [wi, h1])
    go_enter Try.func48, Try.ntmps48
    go_wp2
    go_ret
    exact ⟨ret_bool h.out.symm, rfl⟩
theorem withinE' (n lo hi : Int) (w : World) :
    Calls Try.prog 48 #[.int .i64 n, .int .i64 lo, .int .i64 hi] w fun e w' => e = .returned (.bool (wi n lo hi)) ∧ w' = w :=
  (withinE n lo hi w).mono fun _ _ ⟨a, b⟩ => ⟨a, b.symm⟩

theorem itemFn (x y : Int) (w : World) : Calls Try.prog 58 #[.agg #[.int .i64 x, .int .i64 y]] w fun e w' => e = .returned (.bool (itemOk ⟨x, y⟩)) ∧ Ext w w' := by
  have HI := Lib.hid (show itemOk ⟨x, y⟩ = (wi x 0 10 && wi y 0 30) from rfl)
  cases h1 : wi x 0 10
  · rw [h1] at HI
    go_enter Try.func58, Try.ntmps58
    go_wp2_with (go_at_call 48; refine (withinE _ _ _ _).mono ?_; rintro e w' ⟨rfl, rfl⟩)
    go_ret
    exact ⟨ret_bool HI.out.symm, Ext.of_alloc _ _⟩
  · rw [h1] at HI
    go_enter Try.func58, Try.ntmps58
    go_wp2_with (go_at_call 48; refine (withinE _ _ _ _).mono ?_; rintro e w' ⟨rfl, rfl⟩)
    go_ret
    exact ⟨ret_bool HI.out.symm, Ext.of_alloc _ _⟩

theorem markFn (x : Int) (w : World) : Calls Try.prog 59 #[.int .i64 x] w fun e w' => e = .returned (.bool (markOk x)) ∧ Ext w w' := by
  have HI := Lib.hid (show markOk x = wi x (-1) 50 from rfl)
  go_enter Try.func59, Try.ntmps59
  go_wp2_with (go_at_call 48; refine (withinE _ _ _ _).mono ?_; rintro e w' ⟨rfl, rfl⟩)
  go_ret
  exact ⟨ret_bool HI.out.symm, Ext.refl _⟩

theorem everyMark (A : Option Addr) (c : Nat) (l : List Int) (w : World) (h : Ints w A l) (hl : l.length ≤ 9223372036854775807) :
    Calls Try.prog 61 #[.slice A l.length c, .func (.func 59) #[] #[]] w fun e w' => e = .returned (.bool (l.all markOk)) ∧ Ext w w' := by
  refine (every_int A l.length c 59 #[] (fun k => .int .i64 (l.getD k 0)) (fun k => markOk (l.getD k 0)) (fun _ w' => Ext w w') none w hl (Ext.refl w) (fun _ _ _ h k => Ext.trans h k) (fun g hg => by cases hg) (fun args w' => by kernel_rfl)
    (fun k w' hk h' => ?_) (fun k w' hk _ h' => ?_)).mono ?_
  · obtain ⟨b, off, h1, h2, h3⟩ := (h.ext h') k hk
    exact ⟨b, off, h1, h3⟩
  · exact (markFn (l.getD k 0) w').mono fun e w'' ⟨he, hE⟩ => ⟨he, Ext.trans h' hE, hE.grown none⟩
  · rintro e w' ⟨m, hE, ⟨k, hk, hq, rfl⟩ | ⟨hq, rfl⟩⟩
    · exact ⟨ret_bool (all_getD_false (d := 0) hk hq).symm, hE⟩
    · exact ⟨ret_bool ((all_getD l 0 markOk).2 hq).symm, hE⟩

set_option maxHeartbeats 1000000 in
theorem judgeFn (iA mA : Option Addr) (ic n mc pb mb : Nat) (lo hi err : Int) (ma : List Int) (w : World) (_hn : n ≤ 4) (hm : Ints w mA ma) (hml : ma.length ≤ 9223372036854775807) (hc1 : w.cell? ⟨pb, 0, none⟩ = some (.slice iA n ic)) (hc2 : w.cell? ⟨mb, 0, none⟩ = some (.func (.func 59) #[] #[]))
    (h1 : pb < w.heap.size) (h2 : mb < w.heap.size) :
    Calls Try.prog 60 #[.agg #[.int .i64 lo, .int .i64 hi, .int .i64 err, .slice mA ma.length mc], .pointer (some ⟨pb, 0, none⟩), .pointer (some ⟨mb, 0, none⟩)] w fun e w' => e = .returned (.bool (judgeOk n ⟨lo, hi, err, ma⟩)) ∧ Ext w w' := by
  have HJ := Lib.hid (show judgeOk n ⟨lo, hi, err, ma⟩ = (judgeOk1 n ⟨lo, hi, err, ma⟩ && ma.all markOk) from rfl)
  cases hj1 : judgeOk1 n ⟨lo, hi, err, ma⟩
  · rw [hj1] at HJ
    rcases judgeOk1_false hj1 with q | ⟨q, q2⟩ | ⟨q, q2, q3⟩ | ⟨q, q2, q3, q4⟩ | ⟨q, q2, q3, q4, q5, q6⟩
    all_goals
      clear hj1
      try clear q5
      go_enter Try.func60, Try.ntmps60
      go_wp2_with (go_at_call 48; refine (withinE _ _ _ _).mono ?_; rintro e w' ⟨rfl, rfl⟩)
      go_ret
      exact ⟨ret_bool HJ.out.symm, Ext.of_alloc _ _⟩
  · rw [hj1] at HJ
    obtain ⟨q, q2, q3, q4, q5, q6⟩ := judgeOk1_true hj1
    clear hj1 q5
    have HM := Lib.hid hm
    have hp1 : (w.alloc (.cells #[.int .i64 lo, .int .i64 hi, .int .i64 err, .slice mA ma.length mc] 37)).cell? ⟨pb, 0, none⟩ = some (.slice iA n ic) := by rw [World.cell?_alloc_past _ _ _ h1]; exact hc1
    have hp2 : (w.alloc (.cells #[.int .i64 lo, .int .i64 hi, .int .i64 err, .slice mA ma.length mc] 37)).cell? ⟨mb, 0, none⟩ = some (.func (.func 59) #[] #[]) := by rw [World.cell?_alloc_past _ _ _ h2]; exact hc2
    clear hm hc1 hc2
    go_enter Try.func60, Try.ntmps60
    go_wp2_with (first
      | (go_at_call 48; refine (withinE _ _ _ _).mono ?_; rintro e w' ⟨rfl, rfl⟩)
      | (go_at_call 61; refine (everyMark mA mc ma _ (HM.out.ext (Ext.of_alloc _ _)) hml).mono ?_; rintro e w' ⟨rfl, hE⟩))
    go_ret
    exact ⟨ret_bool (by rw [HJ.out]; rfl), (‹Ext _ _›).unalloc⟩

/-- The number that the closure for grades keeps: the one before. -/
def lastOf (l : List Int) (k : Nat) : Int := if k = 0 then -1 else l.getD (k - 1) 0

theorem gradeOk_eq {l : List Int} {k : Nat} (h : ∀ j, j < k → gradeOk l j = true) : wi (l.getD k 0) (lastOf l k + 1) 1200 = gradeOk l k ∧ -1 ≤ lastOf l k ∧ lastOf l k ≤ 1200 := by
  unfold lastOf
  by_cases hk : k = 0
  · subst hk
    simp [gradeOk, wi]
  · have hp := h (k - 1) (by omega)
    simp only [gradeOk, Bool.and_eq_true] at hp
    have hp := wi_true hp.1
    rw [if_neg hk]
    refine ⟨?_, by omega, by omega⟩
    rw [Bool.eq_iff_iff]
    simp only [gradeOk, wi, Bool.and_eq_true, Bool.or_eq_true, decide_eq_true_eq, hk, false_or]
    omega

set_option maxHeartbeats 1000000 in
theorem gradeFn (x last : Int) (L : Nat) (w : World) (hc : w.cell? ⟨L, 0, none⟩ = some (.int .i64 last)) (hf : w.frozen? ⟨L, 0, none⟩ = false) (_hL : L < w.heap.size) (h1 : -1 ≤ last) (h2 : last ≤ 1200) :
    Calls Try.prog 62 #[.int .i64 x, .pointer (some ⟨L, 0, none⟩)] w fun e w' => e = .returned (.bool (wi x (last + 1) 1200)) ∧ w.setCell ⟨L, 0, none⟩ (.int .i64 x) = w' := by
  go_enter Try.func62, Try.ntmps62
  go_wp2_with (go_at_call 48; refine (withinE _ _ _ _).mono ?_; rintro e w' ⟨rfl, rfl⟩)
  go_ret
  exact ⟨rfl, rfl⟩

set_option maxHeartbeats 1000000 in
theorem everyGrade (A : Option Addr) (c L : Nat) (l : List Int) (W w : World) (_h : Ints w A l) (hl : l.length ≤ 9223372036854775807) (hW : Ext W w) (hWL : W.heap.size ≤ L) (hc : w.cell? ⟨L, 0, none⟩ = some (.int .i64 (-1))) (hf : w.frozen? ⟨L, 0, none⟩ = false) (hL : L < w.heap.size)
    (hIW : Ints W A l) :
    Calls Try.prog 61 #[.slice A l.length c, .func (.func 62) #[] #[.pointer (some ⟨L, 0, none⟩)]] w fun e w' => e = .returned (.bool (gradesOk l)) ∧ Ext W w' := by
  refine (every_int A l.length c 62 #[.pointer (some ⟨L, 0, none⟩)] (fun k => .int .i64 (l.getD k 0)) (gradeOk l) (fun k w' => Ext W w' ∧ w'.cell? ⟨L, 0, none⟩ = some (.int .i64 (lastOf l k)) ∧ w'.frozen? ⟨L, 0, none⟩ = false ∧ L < w'.heap.size) (some L) w hl ⟨hW, hc, hf, hL⟩
    (fun _ w1 w2 h k => ⟨Ext.trans h.1 k, (k.cellOf (p := ⟨L, 0, none⟩) h.2.2.2).trans h.2.1, (Below.frozen k (p := ⟨L, 0, none⟩) h.2.2.2).trans h.2.2.1, Nat.lt_of_lt_of_le h.2.2.2 k.size⟩) (fun g hg => by cases hg; exact hL) (fun args w' => by kernel_rfl)
    (fun k w' hk h' => ?_) (fun k w' hk hpj h' => ?_)).mono ?_
  · obtain ⟨b, off, h1, h2, h3⟩ := (hIW.ext h'.1) k hk
    exact ⟨b, off, h1, h3⟩
  · obtain ⟨hg1, hg2, hg3⟩ := gradeOk_eq hpj
    refine (gradeFn (l.getD k 0) (lastOf l k) L w' h'.2.1 h'.2.2.1 h'.2.2.2 hg2 hg3).mono fun e w'' ⟨he, hw⟩ => ?_
    subst hw
    refine ⟨by rw [he, hg1], ⟨Below.setCell h'.1 hWL _, ?_, ?_, by simpa using h'.2.2.2⟩, ?_⟩
    · rw [show lastOf l (k + 1) = l.getD k 0 by simp [lastOf]]
      exact World.cell?_setCell_same _ _ _ h'.2.1
    · simpa using h'.2.2.1
    · exact ⟨rfl, rfl, rfl, by simp, fun i hi hne => Below.heap_setCell _ _ _ _ (fun e => hne (by rw [e]))⟩
  · rintro e w' ⟨m, hE, ⟨k, hk, hq, rfl⟩ | ⟨hq, rfl⟩⟩
    · refine ⟨ret_bool ?_, hE.1⟩
      cases hg : gradesOk l
      · rfl
      · rw [(gradesOk_iff l).1 hg k hk] at hq; cases hq
    · exact ⟨ret_bool ((gradesOk_iff l).2 hq).symm, hE.1⟩
end Go.Proofs.Ytbpilgflejdhaaa
