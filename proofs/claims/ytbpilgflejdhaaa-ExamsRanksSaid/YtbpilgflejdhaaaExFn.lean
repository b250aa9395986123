/- Exams: slices.IndexFunc, slices.ContainsFunc, and 'every', by what the closure does. (Printed by gen_func.py.) -/
import Derived.Test.YtbpilgflejdhaaaExA
namespace Go.Proofs.Ytbpilgflejdhaaa
open Go.RowKit

set_option maxHeartbeats 1000000 in
theorem indexFunc_int (A : Option Addr) (n c : Nat) (f : FuncId) (caps : Array Value) (x0 : Nat → Value) (q : Nat → Bool) (I : Nat → World → Prop) (w : World) (hn : n ≤ 9223372036854775807) (h0 : I 0 w)
    (hfun : ∀ args w', (callFunc f args).run Try.prog w' = .ok (.enter f args) w')
    (hload : ∀ k w', k < n → I k w' → ∃ b off, A = some ⟨b, off, none⟩ ∧ w'.cell? ⟨b, off + k, none⟩ = some (x0 k))
    (hcall : ∀ k w', k < n → (∀ j, j < k → q j = false) → I k w' → Calls Try.prog f (#[x0 k] ++ caps) w' (fun e w'' => e = .returned (.bool (q k)) ∧ I (k + 1) w'')) :
    Calls Try.prog 79 #[.slice A n c, .func (.func f) #[] caps] w (fun e w' => (∃ k, k < n ∧ q k = true ∧ (∀ j, j < k → q j = false) ∧ e = .returned (.int .i64 k) ∧ I (k + 1) w') ∨ ((∀ j, j < n → q j = false) ∧ e = .returned (.int .i64 (-1)) ∧ I n w')) := by
  have HL := Lib.hid hload
  have HC := Lib.hid hcall
  clear hload hcall
  go_enter Try.func79, Try.ntmps79
  go_wp2
  go_loopw [5, 8] (fun _ i wr => ∃ k : Nat, k ≤ n ∧ i = .int .i64 k ∧ I k wr ∧ ∀ j, j < k → q j = false) (fun _ i _ => n - (intOf i).toNat)
  case atStart => exact ⟨0, by omega, rfl, h0, fun j hj => by omega⟩
  case round =>
    obtain ⟨k, hk, rfl, hI, hq⟩ := hrel
    have HI := Lib.hid hI
    have HQ := Lib.hid hq
    clear hI hq
    by_cases hlt : k < n
    · obtain ⟨b, off, rfl, hc0⟩ := HL.out k _ hlt HI.out
      cases hqk : q k
      · have HK := Lib.hid hqk
        clear hqk
        go_wp2_with fail
        refine (HC.out k _ hlt HQ.out HI.out).mono ?_
        rintro e w1 ⟨rfl, hI1⟩
        rw [HK.out]
        go_wp2
        go_roundw
        case rel =>
          refine ⟨k + 1, by omega, by go_num, hI1, fun j hj => ?_⟩
          by_cases e : j = k
          · rw [e]; exact HK.out
          · exact HQ.out j (by omega)
        case measure => simp [intOf]; omega
      · have HK := Lib.hid hqk
        clear hqk
        go_wp2_with fail
        refine (HC.out k _ hlt HQ.out HI.out).mono ?_
        rintro e w1 ⟨rfl, hI1⟩
        rw [HK.out]
        go_wp2
        go_ret
        exact .inl ⟨k, hlt, HK.out, HQ.out, rfl, hI1⟩
    · go_wp2
      go_ret
      exact .inr ⟨fun j hj => HQ.out j (by omega), rfl, by rw [show n = k by omega]; exact HI.out⟩

set_option maxHeartbeats 1000000 in
theorem containsFunc_int (A : Option Addr) (n c : Nat) (f : FuncId) (caps : Array Value) (x0 : Nat → Value) (q : Nat → Bool) (I : Nat → World → Prop) (w : World) (hn : n ≤ 9223372036854775807) (h0 : I 0 w)
    (hfun : ∀ args w', (callFunc f args).run Try.prog w' = .ok (.enter f args) w')
    (hload : ∀ k w', k < n → I k w' → ∃ b off, A = some ⟨b, off, none⟩ ∧ w'.cell? ⟨b, off + k, none⟩ = some (x0 k))
    (hcall : ∀ k w', k < n → (∀ j, j < k → q j = false) → I k w' → Calls Try.prog f (#[x0 k] ++ caps) w' (fun e w'' => e = .returned (.bool (q k)) ∧ I (k + 1) w'')) :
    Calls Try.prog 70 #[.slice A n c, .func (.func f) #[] caps] w (fun e w' => (∃ k, k < n ∧ q k = true ∧ (∀ j, j < k → q j = false) ∧ e = .returned (.bool true) ∧ I (k + 1) w') ∨ ((∀ j, j < n → q j = false) ∧ e = .returned (.bool false) ∧ I n w')) := by
  have H := Lib.hid (indexFunc_int A n c f caps x0 q I w hn h0 hfun hload hcall)
  clear hload hcall hfun
  go_enter Try.func70, Try.ntmps70
  go_wp2_with fail
  refine H.out.mono ?_
  rintro e w1 (⟨k, hk, hq, hj, rfl, hI⟩ | ⟨hj, rfl, hI⟩)
  · have HJ := Lib.hid hj
    have HI := Lib.hid hI
    have HQ := Lib.hid hq
    clear hj hI hq
    have h0 : (0 : Int) ≤ k := by omega
    go_wp2
    go_ret
    exact .inl ⟨k, hk, HQ.out, HJ.out, rfl, HI.out⟩
  · have HJ := Lib.hid hj
    have HI := Lib.hid hI
    clear hj hI
    go_wp2
    go_ret
    exact .inr ⟨HJ.out, rfl, HI.out⟩

set_option maxHeartbeats 1000000 in
theorem every_int (A : Option Addr) (n c : Nat) (f : FuncId) (caps : Array Value) (x0 : Nat → Value) (p : Nat → Bool) (J : Nat → World → Prop) (row : Option Nat) (w : World) (hn : n ≤ 9223372036854775807) (h0 : J 0 w) (hJ : ∀ m w' w'', J m w' → Ext w' w'' → J m w'')
    (hrow : ∀ g, row = some g → g < w.heap.size)
    (hfun : ∀ args w', (callFunc f args).run Try.prog w' = .ok (.enter f args) w')
    (hload : ∀ k w', k < n → J k w' → ∃ b off, A = some ⟨b, off, none⟩ ∧ w'.cell? ⟨b, off + k, none⟩ = some (x0 k))
    (hcall : ∀ k w', k < n → (∀ j, j < k → p j = true) → J k w' → Calls Try.prog f (#[x0 k] ++ caps) w' (fun e w'' => e = .returned (.bool (p k)) ∧ J (k + 1) w'' ∧ w'.grownBy w'' row)) :
    Calls Try.prog 61 #[.slice A n c, .func (.func f) #[] caps] w (fun e w' => ∃ m, J m w' ∧ ((∃ k, k < n ∧ p k = false ∧ e = .returned (.bool false)) ∨ ((∀ j, j < n → p j = true) ∧ e = .returned (.bool true)))) := by
  have hI : ∀ k w', k < n → (∀ j, j < k → (!p j) = false) → (J k w' ∧ w'.cell? ⟨w.heap.size, 0, none⟩ = some (.func (.func f) #[] caps) ∧ w.heap.size < w'.heap.size) →
      Calls Try.prog 71 (#[x0 k] ++ #[.pointer (some ⟨w.heap.size, 0, none⟩)]) w' (fun e w'' => e = .returned (.bool (!p k)) ∧ (J (k + 1) w'' ∧ w''.cell? ⟨w.heap.size, 0, none⟩ = some (.func (.func f) #[] caps) ∧ w.heap.size < w''.heap.size)) := by
    rintro k w' hk hpj ⟨hj, hc, hs⟩
    have HC := Lib.hid (hcall k w' hk (fun j hj => by simpa using hpj j hj) (hJ _ _ _ hj (Ext.refl _)))
    have HJ := Lib.hid hJ
    have HR := Lib.hid hrow
    have Hc := Lib.hid hc
    clear hcall hload h0 hj hJ hrow hpj
    go_enter Try.func71, Try.ntmps71
    go_wp2_with fail
    refine HC.out.mono ?_
    rintro e w1 ⟨rfl, hj1, hG⟩
    have HJ1 := Lib.hid hj1
    have HG := Lib.hid hG
    clear hj1 hG
    go_wp2
    go_ret
    have hG := HG.out
    refine ⟨rfl, HJ1.out, ?_, Nat.lt_of_lt_of_le hs (Nat.le_trans (Ext.refl _).size hG.size)⟩
    have hne : some w.heap.size ≠ row := fun e => by have := HR.out _ e.symm; omega
    exact hG.cell (((Ext.refl _).cellOf (p := ⟨w.heap.size, 0, none⟩) hs).trans Hc.out) hne
  have H := Lib.hid (containsFunc_int A n c 71 #[.pointer (some ⟨w.heap.size, 0, none⟩)] x0 (fun k => !p k) (fun k w' => J k w' ∧ w'.cell? ⟨w.heap.size, 0, none⟩ = some (.func (.func f) #[] caps) ∧ w.heap.size < w'.heap.size)
    (w.alloc (.cells #[.func (.func f) #[] caps] 100)) hn ⟨hJ _ _ _ h0 (Ext.of_alloc _ _), (by rw [World.cell?_alloc_at _ _ _ _ rfl]; rfl), by simp⟩ (fun args w' => by kernel_rfl) (fun k w' hk h => hload k w' hk h.1) hI)
  clear hI hcall hload h0 hJ hrow hfun
  go_enter Try.func61, Try.ntmps61
  go_wp2_with fail
  refine H.out.mono ?_
  rintro e w1 (⟨k, hk, hq, hj, rfl, hI⟩ | ⟨hj, rfl, hI⟩)
  · have HJ := Lib.hid hj
    have HI := Lib.hid hI
    have HQ := Lib.hid hq
    clear hj hI hq
    go_wp2
    go_ret
    exact ⟨_, HI.out.1, .inl ⟨k, hk, by simpa using HQ.out, rfl⟩⟩
  · have HJ := Lib.hid hj
    have HI := Lib.hid hI
    clear hj hI
    go_wp2
    go_ret
    exact ⟨_, HI.out.1, .inr ⟨fun j hj => by simpa using HJ.out j hj, rfl⟩⟩

set_option maxHeartbeats 1000000 in
theorem indexFunc_item (A : Option Addr) (n c : Nat) (f : FuncId) (caps : Array Value) (x0 x1 : Nat → Value) (q : Nat → Bool) (I : Nat → World → Prop) (w : World) (hn : n ≤ 9223372036854775807) (h0 : I 0 w)
    (hfun : ∀ args w', (callFunc f args).run Try.prog w' = .ok (.enter f args) w')
    (hload : ∀ k w', k < n → I k w' → ∃ b off, A = some ⟨b, off, none⟩ ∧ w'.cell? ⟨b, off + k * 2, none⟩ = some (x0 k) ∧ w'.cell? ⟨b, off + k * 2 + 1, none⟩ = some (x1 k))
    (hcall : ∀ k w', k < n → (∀ j, j < k → q j = false) → I k w' → Calls Try.prog f (#[.agg #[x0 k, x1 k]] ++ caps) w' (fun e w'' => e = .returned (.bool (q k)) ∧ I (k + 1) w'')) :
    Calls Try.prog 80 #[.slice A n c, .func (.func f) #[] caps] w (fun e w' => (∃ k, k < n ∧ q k = true ∧ (∀ j, j < k → q j = false) ∧ e = .returned (.int .i64 k) ∧ I (k + 1) w') ∨ ((∀ j, j < n → q j = false) ∧ e = .returned (.int .i64 (-1)) ∧ I n w')) := by
  have HL := Lib.hid hload
  have HC := Lib.hid hcall
  clear hload hcall
  go_enter Try.func80, Try.ntmps80
  go_wp2
  go_loopw [5, 8] (fun _ i wr => ∃ k : Nat, k ≤ n ∧ i = .int .i64 k ∧ I k wr ∧ ∀ j, j < k → q j = false) (fun _ i _ => n - (intOf i).toNat)
  case atStart => exact ⟨0, by omega, rfl, h0, fun j hj => by omega⟩
  case round =>
    obtain ⟨k, hk, rfl, hI, hq⟩ := hrel
    have HI := Lib.hid hI
    have HQ := Lib.hid hq
    clear hI hq
    by_cases hlt : k < n
    · obtain ⟨b, off, rfl, hc0, hc1⟩ := HL.out k _ hlt HI.out
      cases hqk : q k
      · have HK := Lib.hid hqk
        clear hqk
        go_wp2_with fail
        refine (HC.out k _ hlt HQ.out HI.out).mono ?_
        rintro e w1 ⟨rfl, hI1⟩
        rw [HK.out]
        go_wp2
        go_roundw
        case rel =>
          refine ⟨k + 1, by omega, by go_num, hI1, fun j hj => ?_⟩
          by_cases e : j = k
          · rw [e]; exact HK.out
          · exact HQ.out j (by omega)
        case measure => simp [intOf]; omega
      · have HK := Lib.hid hqk
        clear hqk
        go_wp2_with fail
        refine (HC.out k _ hlt HQ.out HI.out).mono ?_
        rintro e w1 ⟨rfl, hI1⟩
        rw [HK.out]
        go_wp2
        go_ret
        exact .inl ⟨k, hlt, HK.out, HQ.out, rfl, hI1⟩
    · go_wp2
      go_ret
      exact .inr ⟨fun j hj => HQ.out j (by omega), rfl, by rw [show n = k by omega]; exact HI.out⟩

set_option maxHeartbeats 1000000 in
theorem containsFunc_item (A : Option Addr) (n c : Nat) (f : FuncId) (caps : Array Value) (x0 x1 : Nat → Value) (q : Nat → Bool) (I : Nat → World → Prop) (w : World) (hn : n ≤ 9223372036854775807) (h0 : I 0 w)
    (hfun : ∀ args w', (callFunc f args).run Try.prog w' = .ok (.enter f args) w')
    (hload : ∀ k w', k < n → I k w' → ∃ b off, A = some ⟨b, off, none⟩ ∧ w'.cell? ⟨b, off + k * 2, none⟩ = some (x0 k) ∧ w'.cell? ⟨b, off + k * 2 + 1, none⟩ = some (x1 k))
    (hcall : ∀ k w', k < n → (∀ j, j < k → q j = false) → I k w' → Calls Try.prog f (#[.agg #[x0 k, x1 k]] ++ caps) w' (fun e w'' => e = .returned (.bool (q k)) ∧ I (k + 1) w'')) :
    Calls Try.prog 72 #[.slice A n c, .func (.func f) #[] caps] w (fun e w' => (∃ k, k < n ∧ q k = true ∧ (∀ j, j < k → q j = false) ∧ e = .returned (.bool true) ∧ I (k + 1) w') ∨ ((∀ j, j < n → q j = false) ∧ e = .returned (.bool false) ∧ I n w')) := by
  have H := Lib.hid (indexFunc_item A n c f caps x0 x1 q I w hn h0 hfun hload hcall)
  clear hload hcall hfun
  go_enter Try.func72, Try.ntmps72
  go_wp2_with fail
  refine H.out.mono ?_
  rintro e w1 (⟨k, hk, hq, hj, rfl, hI⟩ | ⟨hj, rfl, hI⟩)
  · have HJ := Lib.hid hj
    have HI := Lib.hid hI
    have HQ := Lib.hid hq
    clear hj hI hq
    have h0 : (0 : Int) ≤ k := by omega
    go_wp2
    go_ret
    exact .inl ⟨k, hk, HQ.out, HJ.out, rfl, HI.out⟩
  · have HJ := Lib.hid hj
    have HI := Lib.hid hI
    clear hj hI
    go_wp2
    go_ret
    exact .inr ⟨HJ.out, rfl, HI.out⟩

set_option maxHeartbeats 1000000 in
theorem every_item (A : Option Addr) (n c : Nat) (f : FuncId) (caps : Array Value) (x0 x1 : Nat → Value) (p : Nat → Bool) (J : Nat → World → Prop) (row : Option Nat) (w : World) (hn : n ≤ 9223372036854775807) (h0 : J 0 w) (hJ : ∀ m w' w'', J m w' → Ext w' w'' → J m w'')
    (hrow : ∀ g, row = some g → g < w.heap.size)
    (hfun : ∀ args w', (callFunc f args).run Try.prog w' = .ok (.enter f args) w')
    (hload : ∀ k w', k < n → J k w' → ∃ b off, A = some ⟨b, off, none⟩ ∧ w'.cell? ⟨b, off + k * 2, none⟩ = some (x0 k) ∧ w'.cell? ⟨b, off + k * 2 + 1, none⟩ = some (x1 k))
    (hcall : ∀ k w', k < n → (∀ j, j < k → p j = true) → J k w' → Calls Try.prog f (#[.agg #[x0 k, x1 k]] ++ caps) w' (fun e w'' => e = .returned (.bool (p k)) ∧ J (k + 1) w'' ∧ w'.grownBy w'' row)) :
    Calls Try.prog 63 #[.slice A n c, .func (.func f) #[] caps] w (fun e w' => ∃ m, J m w' ∧ ((∃ k, k < n ∧ p k = false ∧ e = .returned (.bool false)) ∨ ((∀ j, j < n → p j = true) ∧ e = .returned (.bool true)))) := by
  have hI : ∀ k w', k < n → (∀ j, j < k → (!p j) = false) → (J k w' ∧ w'.cell? ⟨w.heap.size, 0, none⟩ = some (.func (.func f) #[] caps) ∧ w.heap.size < w'.heap.size) →
      Calls Try.prog 73 (#[.agg #[x0 k, x1 k]] ++ #[.pointer (some ⟨w.heap.size, 0, none⟩)]) w' (fun e w'' => e = .returned (.bool (!p k)) ∧ (J (k + 1) w'' ∧ w''.cell? ⟨w.heap.size, 0, none⟩ = some (.func (.func f) #[] caps) ∧ w.heap.size < w''.heap.size)) := by
    rintro k w' hk hpj ⟨hj, hc, hs⟩
    have HC := Lib.hid (hcall k (w'.alloc (.cells #[x0 k, x1 k] 90)) hk (fun j hj => by simpa using hpj j hj) (hJ _ _ _ hj (Ext.of_alloc _ _)))
    have HJ := Lib.hid hJ
    have HR := Lib.hid hrow
    have Hc := Lib.hid hc
    clear hcall hload h0 hj hJ hrow hpj
    go_enter Try.func73, Try.ntmps73
    go_wp2_with fail
    refine HC.out.mono ?_
    rintro e w1 ⟨rfl, hj1, hG⟩
    have HJ1 := Lib.hid hj1
    have HG := Lib.hid hG
    clear hj1 hG
    go_wp2
    go_ret
    have hG := HG.out
    refine ⟨rfl, HJ1.out, ?_, Nat.lt_of_lt_of_le hs (Nat.le_trans (Ext.of_alloc _ _).size hG.size)⟩
    have hne : some w.heap.size ≠ row := fun e => by have := HR.out _ e.symm; omega
    exact hG.cell (((Ext.of_alloc _ _).cellOf (p := ⟨w.heap.size, 0, none⟩) hs).trans Hc.out) hne
  have H := Lib.hid (containsFunc_item A n c 73 #[.pointer (some ⟨w.heap.size, 0, none⟩)] x0 x1 (fun k => !p k) (fun k w' => J k w' ∧ w'.cell? ⟨w.heap.size, 0, none⟩ = some (.func (.func f) #[] caps) ∧ w.heap.size < w'.heap.size)
    (w.alloc (.cells #[.func (.func f) #[] caps] 99)) hn ⟨hJ _ _ _ h0 (Ext.of_alloc _ _), (by rw [World.cell?_alloc_at _ _ _ _ rfl]; rfl), by simp⟩ (fun args w' => by kernel_rfl) (fun k w' hk h => hload k w' hk h.1) hI)
  clear hI hcall hload h0 hJ hrow hfun
  go_enter Try.func63, Try.ntmps63
  go_wp2_with fail
  refine H.out.mono ?_
  rintro e w1 (⟨k, hk, hq, hj, rfl, hI⟩ | ⟨hj, rfl, hI⟩)
  · have HJ := Lib.hid hj
    have HI := Lib.hid hI
    have HQ := Lib.hid hq
    clear hj hI hq
    go_wp2
    go_ret
    exact ⟨_, HI.out.1, .inl ⟨k, hk, by simpa using HQ.out, rfl⟩⟩
  · have HJ := Lib.hid hj
    have HI := Lib.hid hI
    clear hj hI
    go_wp2
    go_ret
    exact ⟨_, HI.out.1, .inr ⟨fun j hj => by simpa using HJ.out j hj, rfl⟩⟩

set_option maxHeartbeats 1000000 in
theorem indexFunc_judge (A : Option Addr) (n c : Nat) (f : FuncId) (caps : Array Value) (x0 x1 x2 x3 : Nat → Value) (q : Nat → Bool) (I : Nat → World → Prop) (w : World) (hn : n ≤ 9223372036854775807) (h0 : I 0 w)
    (hfun : ∀ args w', (callFunc f args).run Try.prog w' = .ok (.enter f args) w')
    (hload : ∀ k w', k < n → I k w' → ∃ b off, A = some ⟨b, off, none⟩ ∧ w'.cell? ⟨b, off + k * 4, none⟩ = some (x0 k) ∧ w'.cell? ⟨b, off + k * 4 + 1, none⟩ = some (x1 k) ∧ w'.cell? ⟨b, off + k * 4 + 2, none⟩ = some (x2 k) ∧ w'.cell? ⟨b, off + k * 4 + 3, none⟩ = some (x3 k))
    (hcall : ∀ k w', k < n → (∀ j, j < k → q j = false) → I k w' → Calls Try.prog f (#[.agg #[x0 k, x1 k, x2 k, x3 k]] ++ caps) w' (fun e w'' => e = .returned (.bool (q k)) ∧ I (k + 1) w'')) :
    Calls Try.prog 81 #[.slice A n c, .func (.func f) #[] caps] w (fun e w' => (∃ k, k < n ∧ q k = true ∧ (∀ j, j < k → q j = false) ∧ e = .returned (.int .i64 k) ∧ I (k + 1) w') ∨ ((∀ j, j < n → q j = false) ∧ e = .returned (.int .i64 (-1)) ∧ I n w')) := by
  have HL := Lib.hid hload
  have HC := Lib.hid hcall
  clear hload hcall
  go_enter Try.func81, Try.ntmps81
  go_wp2
  go_loopw [5, 8] (fun _ i wr => ∃ k : Nat, k ≤ n ∧ i = .int .i64 k ∧ I k wr ∧ ∀ j, j < k → q j = false) (fun _ i _ => n - (intOf i).toNat)
  case atStart => exact ⟨0, by omega, rfl, h0, fun j hj => by omega⟩
  case round =>
    obtain ⟨k, hk, rfl, hI, hq⟩ := hrel
    have HI := Lib.hid hI
    have HQ := Lib.hid hq
    clear hI hq
    by_cases hlt : k < n
    · obtain ⟨b, off, rfl, hc0, hc1, hc2, hc3⟩ := HL.out k _ hlt HI.out
      cases hqk : q k
      · have HK := Lib.hid hqk
        clear hqk
        go_wp2_with fail
        refine (HC.out k _ hlt HQ.out HI.out).mono ?_
        rintro e w1 ⟨rfl, hI1⟩
        rw [HK.out]
        go_wp2
        go_roundw
        case rel =>
          refine ⟨k + 1, by omega, by go_num, hI1, fun j hj => ?_⟩
          by_cases e : j = k
          · rw [e]; exact HK.out
          · exact HQ.out j (by omega)
        case measure => simp [intOf]; omega
      · have HK := Lib.hid hqk
        clear hqk
        go_wp2_with fail
        refine (HC.out k _ hlt HQ.out HI.out).mono ?_
        rintro e w1 ⟨rfl, hI1⟩
        rw [HK.out]
        go_wp2
        go_ret
        exact .inl ⟨k, hlt, HK.out, HQ.out, rfl, hI1⟩
    · go_wp2
      go_ret
      exact .inr ⟨fun j hj => HQ.out j (by omega), rfl, by rw [show n = k by omega]; exact HI.out⟩

set_option maxHeartbeats 1000000 in
theorem containsFunc_judge (A : Option Addr) (n c : Nat) (f : FuncId) (caps : Array Value) (x0 x1 x2 x3 : Nat → Value) (q : Nat → Bool) (I : Nat → World → Prop) (w : World) (hn : n ≤ 9223372036854775807) (h0 : I 0 w)
    (hfun : ∀ args w', (callFunc f args).run Try.prog w' = .ok (.enter f args) w')
    (hload : ∀ k w', k < n → I k w' → ∃ b off, A = some ⟨b, off, none⟩ ∧ w'.cell? ⟨b, off + k * 4, none⟩ = some (x0 k) ∧ w'.cell? ⟨b, off + k * 4 + 1, none⟩ = some (x1 k) ∧ w'.cell? ⟨b, off + k * 4 + 2, none⟩ = some (x2 k) ∧ w'.cell? ⟨b, off + k * 4 + 3, none⟩ = some (x3 k))
    (hcall : ∀ k w', k < n → (∀ j, j < k → q j = false) → I k w' → Calls Try.prog f (#[.agg #[x0 k, x1 k, x2 k, x3 k]] ++ caps) w' (fun e w'' => e = .returned (.bool (q k)) ∧ I (k + 1) w'')) :
    Calls Try.prog 74 #[.slice A n c, .func (.func f) #[] caps] w (fun e w' => (∃ k, k < n ∧ q k = true ∧ (∀ j, j < k → q j = false) ∧ e = .returned (.bool true) ∧ I (k + 1) w') ∨ ((∀ j, j < n → q j = false) ∧ e = .returned (.bool false) ∧ I n w')) := by
  have H := Lib.hid (indexFunc_judge A n c f caps x0 x1 x2 x3 q I w hn h0 hfun hload hcall)
  clear hload hcall hfun
  go_enter Try.func74, Try.ntmps74
  go_wp2_with fail
  refine H.out.mono ?_
  rintro e w1 (⟨k, hk, hq, hj, rfl, hI⟩ | ⟨hj, rfl, hI⟩)
  · have HJ := Lib.hid hj
    have HI := Lib.hid hI
    have HQ := Lib.hid hq
    clear hj hI hq
    have h0 : (0 : Int) ≤ k := by omega
    go_wp2
    go_ret
    exact .inl ⟨k, hk, HQ.out, HJ.out, rfl, HI.out⟩
  · have HJ := Lib.hid hj
    have HI := Lib.hid hI
    clear hj hI
    go_wp2
    go_ret
    exact .inr ⟨HJ.out, rfl, HI.out⟩

set_option maxHeartbeats 1000000 in
theorem every_judge (A : Option Addr) (n c : Nat) (f : FuncId) (caps : Array Value) (x0 x1 x2 x3 : Nat → Value) (p : Nat → Bool) (J : Nat → World → Prop) (row : Option Nat) (w : World) (hn : n ≤ 9223372036854775807) (h0 : J 0 w) (hJ : ∀ m w' w'', J m w' → Ext w' w'' → J m w'')
    (hrow : ∀ g, row = some g → g < w.heap.size)
    (hfun : ∀ args w', (callFunc f args).run Try.prog w' = .ok (.enter f args) w')
    (hload : ∀ k w', k < n → J k w' → ∃ b off, A = some ⟨b, off, none⟩ ∧ w'.cell? ⟨b, off + k * 4, none⟩ = some (x0 k) ∧ w'.cell? ⟨b, off + k * 4 + 1, none⟩ = some (x1 k) ∧ w'.cell? ⟨b, off + k * 4 + 2, none⟩ = some (x2 k) ∧ w'.cell? ⟨b, off + k * 4 + 3, none⟩ = some (x3 k))
    (hcall : ∀ k w', k < n → (∀ j, j < k → p j = true) → J k w' → Calls Try.prog f (#[.agg #[x0 k, x1 k, x2 k, x3 k]] ++ caps) w' (fun e w'' => e = .returned (.bool (p k)) ∧ J (k + 1) w'' ∧ w'.grownBy w'' row)) :
    Calls Try.prog 64 #[.slice A n c, .func (.func f) #[] caps] w (fun e w' => ∃ m, J m w' ∧ ((∃ k, k < n ∧ p k = false ∧ e = .returned (.bool false)) ∨ ((∀ j, j < n → p j = true) ∧ e = .returned (.bool true)))) := by
  have hI : ∀ k w', k < n → (∀ j, j < k → (!p j) = false) → (J k w' ∧ w'.cell? ⟨w.heap.size, 0, none⟩ = some (.func (.func f) #[] caps) ∧ w.heap.size < w'.heap.size) →
      Calls Try.prog 75 (#[.agg #[x0 k, x1 k, x2 k, x3 k]] ++ #[.pointer (some ⟨w.heap.size, 0, none⟩)]) w' (fun e w'' => e = .returned (.bool (!p k)) ∧ (J (k + 1) w'' ∧ w''.cell? ⟨w.heap.size, 0, none⟩ = some (.func (.func f) #[] caps) ∧ w.heap.size < w''.heap.size)) := by
    rintro k w' hk hpj ⟨hj, hc, hs⟩
    have HC := Lib.hid (hcall k (w'.alloc (.cells #[x0 k, x1 k, x2 k, x3 k] 37)) hk (fun j hj => by simpa using hpj j hj) (hJ _ _ _ hj (Ext.of_alloc _ _)))
    have HJ := Lib.hid hJ
    have HR := Lib.hid hrow
    have Hc := Lib.hid hc
    clear hcall hload h0 hj hJ hrow hpj
    go_enter Try.func75, Try.ntmps75
    go_wp2_with fail
    refine HC.out.mono ?_
    rintro e w1 ⟨rfl, hj1, hG⟩
    have HJ1 := Lib.hid hj1
    have HG := Lib.hid hG
    clear hj1 hG
    go_wp2
    go_ret
    have hG := HG.out
    refine ⟨rfl, HJ1.out, ?_, Nat.lt_of_lt_of_le hs (Nat.le_trans (Ext.of_alloc _ _).size hG.size)⟩
    have hne : some w.heap.size ≠ row := fun e => by have := HR.out _ e.symm; omega
    exact hG.cell (((Ext.of_alloc _ _).cellOf (p := ⟨w.heap.size, 0, none⟩) hs).trans Hc.out) hne
  have H := Lib.hid (containsFunc_judge A n c 75 #[.pointer (some ⟨w.heap.size, 0, none⟩)] x0 x1 x2 x3 (fun k => !p k) (fun k w' => J k w' ∧ w'.cell? ⟨w.heap.size, 0, none⟩ = some (.func (.func f) #[] caps) ∧ w.heap.size < w'.heap.size)
    (w.alloc (.cells #[.func (.func f) #[] caps] 102)) hn ⟨hJ _ _ _ h0 (Ext.of_alloc _ _), (by rw [World.cell?_alloc_at _ _ _ _ rfl]; rfl), by simp⟩ (fun args w' => by kernel_rfl) (fun k w' hk h => hload k w' hk h.1) hI)
  clear hI hcall hload h0 hJ hrow hfun
  go_enter Try.func64, Try.ntmps64
  go_wp2_with fail
  refine H.out.mono ?_
  rintro e w1 (⟨k, hk, hq, hj, rfl, hI⟩ | ⟨hj, rfl, hI⟩)
  · have HJ := Lib.hid hj
    have HI := Lib.hid hI
    have HQ := Lib.hid hq
    clear hj hI hq
    go_wp2
    go_ret
    exact ⟨_, HI.out.1, .inl ⟨k, hk, by simpa using HQ.out, rfl⟩⟩
  · have HJ := Lib.hid hj
    have HI := Lib.hid hI
    clear hj hI
    go_wp2
    go_ret
    exact ⟨_, HI.out.1, .inr ⟨fun j hj => by simpa using HJ.out j hj, rfl⟩⟩
end Go.Proofs.Ytbpilgflejdhaaa
