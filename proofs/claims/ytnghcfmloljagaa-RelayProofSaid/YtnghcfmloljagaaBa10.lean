/- Relay: the program's urgent. / Relay: the program's Free and Vital. / Relay: best answers in a form that computes; the example / Relay: the example, works; sameInts. / Relay: the statement RelayLeast. / Plain facts on memory: slices that read as lists, worlds that extend other worlds / How the form's readings of data give cells: slices, ints / What a law's row asks behind the walk: the call returned true and the world only has more -/
import Derived.Test.YtnghcfmloljagaaBa9
import Derived.WalkKit
import Derived.WalkSpells
import Derived.WalkLawsBesides
import Derived.Deep.QuietTactic
import Derived.BigQuiet
import Derived.Lib.Hide
import Derived.Deep.Slices
import Derived.Lib.SmallJoins
import Derived.OpenShut
import Derived.WideKeyArgs
import Derived.Deep.OwnRows
import Derived.ProofKit
import Derived.JoinedOf
set_option linter.unusedSimpArgs false
set_option linter.unusedVariables false
namespace Go.Proofs.Ytnghcfmloljagaa
open Go.RowKit

/-- Nothing is said of a call whose arguments cannot be. -/
theorem ACall.void {P : Program} {f : FuncId} {ys xs : List AV} {hh h : List AB} {KK K : AV → List AB → Prop} (con : ACall P f ys hh KK) {i : Nat} {x : AV} (hi : xs[i]? = some x) (hx : ∀ M w g u, ¬ rep M w x g u) : ACall P f xs h K :=
  ⟨con.1, fun F g w vs _ _ hv => absurd (hv i x hi) (hx _ _ _ _)⟩
theorem sl_void {e : Bool} {n sz : Nat} {c : Nat → Nat → AV} (hn : 0 < n) (M : Nat → Prop) (w : World) (g : GM) (u : Value) : ¬ rep M w (.sl true e n sz c) g u := by
  rintro ⟨A, cap, _, hz, hnil, _⟩
  have := (hnil (hz.1 rfl)).1
  omega
theorem agg_void {m : Nat} {c : Nat → AV} {i : Nat} (hi : i < m) (h : ∀ M w g u, ¬ rep M w (c i) g u) (M : Nat → Prop) (w : World) (g : GM) (u : Value) : ¬ rep M w (.agg m c) g u := by
  rintro ⟨cs, _, _, hc⟩
  obtain ⟨x, _, _, hr⟩ := hc i hi
  exact h _ _ _ _ hr
abbrev rowR (n : Nat) (l : List Rng) : AB := .row n 3 (fun k => cRng (l.getD k rg0))
abbrev fNot : AV := .fn 65 0 (ofL [])
def idxAt {α : Type} (p : α → Bool) : List α → Nat → Int
  | [], _ => -1
  | x :: xs, i => if p x then (i : Int) else idxAt p xs (i + 1)
theorem idx_step {α : Type} {p : α → Bool} {l : List α} {i : Nat} (d : α) (h : i < l.length) (e : idxAt p l 0 = idxAt p (l.drop i) i) (hp : p (l.getD i d) = false) : idxAt p l 0 = idxAt p (l.drop (i + 1)) (i + 1) := by
  rw [e, drop_eq d h, idxAt, hp]; rfl
theorem idx_yes {α : Type} {p : α → Bool} {l : List α} {i : Nat} (d : α) (h : i < l.length) (e : idxAt p l 0 = idxAt p (l.drop i) i) (hp : p (l.getD i d) = true) : idxAt p l 0 = (i : Int) := by
  rw [e, drop_eq d h, idxAt, hp]; rfl
theorem idx_end {α : Type} {p : α → Bool} {l : List α} {i : Nat} (h : l.length ≤ i) (e : idxAt p l 0 = idxAt p (l.drop i) i) : idxAt p l 0 = -1 := by
  rw [e, List.drop_eq_nil_of_le h]; rfl
theorem idx_spec {α : Type} {p : α → Bool} : ∀ {l : List α} {i : Nat}, (idxAt p l i = -1 ∧ ∀ x ∈ l, p x = false) ∨ ∃ m, m < l.length ∧ idxAt p l i = ((i + m : Nat) : Int) ∧ (l.take (m + 1)).filter (fun x => !p x) = l.take m
  | [], _ => .inl ⟨rfl, fun x hx => by cases hx⟩
  | x :: xs, i => by
    rw [idxAt]
    by_cases e : p x = true
    · refine .inr ⟨0, by simp, by rw [if_pos e]; simp, by simp [e]⟩
    · have e' : p x = false := by simpa using e
      rcases idx_spec (p := p) (l := xs) (i := i + 1) with ⟨a, b⟩ | ⟨m, a, b, c⟩
      · refine .inl ⟨by rw [if_neg e, a], fun y hy => ?_⟩
        rcases List.mem_cons.1 hy with rfl | hy
        · exact e'
        · exact b y hy
      · refine .inr ⟨m + 1, by simp; omega, by rw [if_neg e, b]; omega, ?_⟩
        rw [List.take_succ_cons, List.take_succ_cons, List.filter_cons, e', c]; rfl
def keepR (L : List Rng) (j : Nat) : List Rng := (L.take j).filter (·.urg)
theorem keepR_step {L : List Rng} {j : Nat} (hj : j < L.length) : keepR L (j + 1) = if (L.getD j rg0).urg = true then keepR L j ++ [L.getD j rg0] else keepR L j := by
  unfold keepR
  have : L.take (j + 1) = L.take j ++ [L.getD j rg0] := by
    rw [List.take_add_one, List.getElem?_eq_getElem hj]; simp [List.getD, List.getElem?_eq_getElem hj]
  rw [this, List.filter_append]
  split
  · rename_i h; simp only [List.filter_cons, List.filter_nil]; rw [if_pos h]
  · rename_i h; simp only [List.filter_cons, List.filter_nil]; rw [if_neg h, List.append_nil]
theorem keepR_all {L : List Rng} : keepR L L.length = L.filter (·.urg) := by unfold keepR; rw [List.take_length]
/-- The row on the way. -/
def mixR (K L : List Rng) (k : Nat) : Rng := if k < K.length then K.getD k rg0 else L.getD k rg0
theorem getD_snoc {l : List Rng} {x : Rng} {k : Nat} : (l ++ [x]).getD k rg0 = if k < l.length then l.getD k rg0 else if k = l.length then x else rg0 := by
  by_cases h : k < l.length
  · rw [if_pos h]; simp [List.getD, List.getElem?_append_left h]
  · rw [if_neg h]
    by_cases e : k = l.length
    · subst e; simp [List.getD]
    · rw [if_neg e]
      simp [List.getD, List.getElem?_eq_none (show (l ++ [x]).length ≤ k by simp; omega)]
theorem getD_take {l : List Rng} {m k : Nat} (h : k < m) : (l.take m).getD k rg0 = l.getD k rg0 := by
  simp only [List.getD, List.getElem?_take, if_pos h]
set_option maxHeartbeats 4000000
set_option maxRecDepth 100000
theorem not_ok (r : Rng) : ACall Try.prog 65 [aRng r] [] (fun v h => v = .bool (!r.urg) ∧ h = []) := by
  (refine fcall_of mixed Try.func65 rfl (by decide) (hs := {}) ?k (ac := ?ac) ?c (rs := ?rs) ?r ?l ?H; (case k => kernel_rfl); (case c => (conv => (lhs; cbv))); (case r => (conv => (lhs; cbv))); (case l => exact Nat.le_of_ble_eq_true rfl))
  (repeat' ((try (conv => whnf)); first | (with_reducible first | refine FCond.tA ?_ | refine FCond.fA ?_) | ((with_reducible refine FCond.i (fun hq => ?_) (fun hq => ?_)) <;> (try simp only [zA, zE, zD, zJ, zB, zI, Int.not_le, Int.not_lt] at hq)) | (with_reducible first | refine Fits.in64 (by omega) ?_ | refine FIdx.nat (by omega) ?_ | refine FIdx.int (by omega) ?_ | refine FTo.nat (by omega) ?_ | refine FTo.int (by omega) ?_) | ((with_reducible refine Need.mk ?_ ?_); focus exact needA) | (with_reducible refine FApp.grow ?_) | (with_reducible refine FOr.pub ?_)))
  all_goals (try (conv => whnf))
  (refine ⟨⟨_, [], [], Cut.nil _, Ln.sameB _ rfl, ?_, rfl⟩⟩)
  rfl
theorem indexR_ok (l : List Rng) (hl : l.length ≤ 1000) : ACall Try.prog 72 [aRngs false false l, fNot] [] (fun r h => r = AI (idxAt (fun x => !x.urg) l 0) ∧ h = []) := by
  (refine fcall_of mixed Try.func72 rfl (by decide) (hs := {}) ?k (ac := ?ac) ?c (rs := ?rs) ?r ?l ?H; (case k => kernel_rfl); (case c => (conv => (lhs; cbv))); (case r => (conv => (lhs; cbv))); (case l => exact Nat.le_of_ble_eq_true rfl))
  (repeat' ((try (conv => whnf)); first | (with_reducible first | refine FCond.tA ?_ | refine FCond.fA ?_) | ((with_reducible refine FCond.i (fun hq => ?_) (fun hq => ?_)) <;> (try simp only [zA, zE, zD, zJ, zB, zI, Int.not_le, Int.not_lt] at hq)) | (with_reducible first | refine Fits.in64 (by omega) ?_ | refine FIdx.nat (by omega) ?_ | refine FIdx.int (by omega) ?_ | refine FTo.nat (by omega) ?_ | refine FTo.int (by omega) ?_) | ((with_reducible refine Need.mk ?_ ?_); focus exact needA) | (with_reducible refine FApp.grow ?_) | (with_reducible refine FOr.pub ?_)))
  all_goals (try (conv => whnf))
  refine FLoop.of (ACalls.mono _) (X := Nat) (fun i => [(0, aRngs false false l), (1, fNot), (7, AI l.length), (8, AI i)]) (fun _ => []) (fun i => i ≤ l.length ∧ idxAt (fun x => !x.urg) l 0 = idxAt (fun x => !x.urg) (l.drop i) i) (fun i => l.length - i) 0 ⟨⟨Nat.zero_le _, rfl⟩, [], Cut.A, allA⟩ ?_
  rintro i ⟨hi', hL⟩
  by_cases hlt : i < l.length
  · (repeat' ((try (conv => whnf)); first | (with_reducible first | refine FCond.tA ?_ | refine FCond.fA ?_) | ((with_reducible refine FCond.i (fun hq => ?_) (fun hq => ?_)) <;> (try simp only [zA, zE, zD, zJ, zB, zI, Int.not_le, Int.not_lt] at hq)) | (with_reducible first | refine Fits.in64 (by omega) ?_ | refine FIdx.nat (by omega) ?_ | refine FIdx.int (by omega) ?_ | refine FTo.nat (by omega) ?_ | refine FTo.int (by omega) ?_) | ((with_reducible refine Need.mk ?_ ?_); focus exact needA) | (with_reducible refine FApp.grow ?_) | (refine FCall.pure ((not_ok (l.getD i rg0))) ⟨Ln.sameB _ rfl, True.intro⟩ rfl ?_) | (with_reducible refine FOr.pub ?_)))
    all_goals (try (conv => whnf))
    · (refine ⟨⟨_, [], [], Cut.nil _, Ln.sameB _ rfl, ?_, rfl⟩⟩)
      rw [idx_yes rg0 hlt hL (by rw [hq]; rfl)]
    · (exact ⟨⟨(i + 1), ⟨hlt, idx_step rg0 hlt hL (by rw [hq]; rfl)⟩, by show _ < _; omega, [], Cut.A, allA⟩⟩)
  · (repeat' ((try (conv => whnf)); first | (with_reducible first | refine FCond.tA ?_ | refine FCond.fA ?_) | ((with_reducible refine FCond.i (fun hq => ?_) (fun hq => ?_)) <;> (try simp only [zA, zE, zD, zJ, zB, zI, Int.not_le, Int.not_lt] at hq)) | (with_reducible first | refine Fits.in64 (by omega) ?_ | refine FIdx.nat (by omega) ?_ | refine FIdx.int (by omega) ?_ | refine FTo.nat (by omega) ?_ | refine FTo.int (by omega) ?_) | ((with_reducible refine Need.mk ?_ ?_); focus exact needA) | (with_reducible refine FApp.grow ?_) | (with_reducible refine FOr.pub ?_)))
    all_goals (try (conv => whnf))
    (refine ⟨⟨_, [], [], Cut.nil _, Ln.sameB _ rfl, ?_, rfl⟩⟩)
    rw [idx_end (by omega) hL]
theorem deleteR_ok (L : List Rng) (hl : 0 < L.length ∧ L.length ≤ 1000) : ACall Try.prog 64 [.own 0 L.length, fNot] [rowR L.length L] (fun v h => v = .own 0 (L.filter (·.urg)).length ∧ h = [rowR (L.filter (·.urg)).length (L.filter (·.urg))]) := by
  have cI := indexR_ok L hl.2
  (refine fcall_of mixed Try.func64 rfl (by decide) (hs := {}) ?k (ac := ?ac) ?c (rs := ?rs) ?r ?l ?H; (case k => kernel_rfl); (case c => (conv => (lhs; cbv))); (case r => (conv => (lhs; cbv))); (case l => exact Nat.le_of_ble_eq_true rfl))
  rcases idx_spec (p := fun x : Rng => !x.urg) (l := L) (i := 0) with ⟨a, b⟩ | ⟨m, a, b, c⟩
  · rw [a] at cI
    have hF : L.filter (·.urg) = L := List.filter_eq_self.2 fun x hx => by simpa using b x hx
    (repeat' ((try (conv => whnf)); first | (with_reducible first | refine FCond.tA ?_ | refine FCond.fA ?_) | ((with_reducible refine FCond.i (fun hq => ?_) (fun hq => ?_)) <;> (try simp only [zA, zE, zD, zJ, zB, zI, Int.not_le, Int.not_lt] at hq)) | (with_reducible first | refine Fits.in64 (by omega) ?_ | refine FIdx.nat (by omega) ?_ | refine FIdx.int (by omega) ?_ | refine FTo.nat (by omega) ?_ | refine FTo.int (by omega) ?_) | ((with_reducible refine Need.mk ?_ ?_); focus exact needA) | (refine FCall.lend [0] (cI) ⟨Ln.pubE (by decide) rfl (Nat.le_refl _) rfl (fun _ _ _ _ => rfl), Ln.sameB _ rfl, True.intro⟩ rfl trivial ?_) | (with_reducible refine FOr.pub ?_)))
    all_goals (try (conv => whnf))
    rw [hF]
    exact ⟨⟨_, _, [0], Cut.A, Ln.A, rfl, rfl⟩⟩
  · rw [b, Nat.zero_add] at cI
    have hF0 : keepR L (m + 1) = L.take m := by
      unfold keepR
      simpa using c
    have hFl : (keepR L (m + 1)).length = m := by rw [hF0, List.length_take]; omega
    (repeat' ((try (conv => whnf)); first | (with_reducible first | refine FCond.tA ?_ | refine FCond.fA ?_) | ((with_reducible refine FCond.i (fun hq => ?_) (fun hq => ?_)) <;> (try simp only [zA, zE, zD, zJ, zB, zI, Int.not_le, Int.not_lt] at hq)) | (with_reducible first | refine Fits.in64 (by omega) ?_ | refine FIdx.nat (by omega) ?_ | refine FIdx.int (by omega) ?_ | refine FTo.nat (by omega) ?_ | refine FTo.int (by omega) ?_) | ((with_reducible refine Need.mk ?_ ?_); focus exact needA) | (refine FCall.lend [0] (cI) ⟨Ln.pubE (by decide) rfl (Nat.le_refl _) rfl (fun _ _ _ _ => rfl), Ln.sameB _ rfl, True.intro⟩ rfl trivial ?_) | (with_reducible refine FOr.pub ?_)))
    all_goals (try (conv => whnf))
    refine FLoop.of (ACalls.mono _) (X := Nat) (fun j => [(0, .own 0 L.length), (1, fNot), (5, AI (keepR L j).length), (6, AI j)]) (fun j => [.row L.length 3 (fun k => cRng (mixR (keepR L j) L k))]) (fun j => j ≤ L.length ∧ (keepR L j).length < j) (fun j => L.length - j) (m + 1) ⟨⟨by omega, by omega⟩, [0], ?_, allA⟩ ?_
    · refine Cut.of (Nat.le_of_ble_eq_true rfl) rfl rfl (CutL.turned rfl (LnB.rowE (Nat.le_refl _) fun k hk o ho => ?_) CutL.done)
      unfold mixR
      rw [hFl]
      split
      · rename_i h; rw [hF0, getD_take h]
      · rfl
    rintro j ⟨hj, hlt⟩
    by_cases hjt : j < L.length
    · have hst := keepR_step hjt
      have hm : mixR (keepR L j) L j = L.getD j rg0 := by unfold mixR; rw [if_neg (by omega)]
      have cD := not_ok (mixR (keepR L j) L j)
      (repeat' ((try (conv => whnf)); first | (with_reducible first | refine FCond.tA ?_ | refine FCond.fA ?_) | ((with_reducible refine FCond.i (fun hq => ?_) (fun hq => ?_)) <;> (try simp only [zA, zE, zD, zJ, zB, zI, Int.not_le, Int.not_lt] at hq)) | (with_reducible first | refine Fits.in64 (by omega) ?_ | refine FIdx.nat (by omega) ?_ | refine FIdx.int (by omega) ?_ | refine FTo.nat (by omega) ?_ | refine FTo.int (by omega) ?_) | ((with_reducible refine Need.mk ?_ ?_); focus exact needA) | (refine FCall.pure (cD) ⟨Ln.sameB _ rfl, True.intro⟩ rfl ?_) | (with_reducible refine FOr.pub ?_)))
      all_goals (try (conv => whnf))
      · have hq' : (L.getD j rg0).urg = true := by rw [hm] at hq; simpa using hq
        rw [if_pos hq'] at hst
        have hlen : (keepR L (j + 1)).length = (keepR L j).length + 1 := by rw [hst, List.length_append]; rfl
        refine ⟨⟨j + 1, ⟨by omega, by omega⟩, by omega, [0], ?_, ⟨Ln.A, Ln.A, Ln.int (by rw [hlen]; rfl), Ln.A, True.intro⟩⟩⟩
        refine Cut.of (Nat.le_of_ble_eq_true rfl) rfl rfl (CutL.turned rfl (LnB.rowE (Nat.le_refl _) fun k hk o ho => ?_) CutL.done)
        simp only [updRm]
        by_cases h : k = (keepR L j).length
        · rw [if_pos h]
          have : mixR (keepR L (j + 1)) L k = mixR (keepR L j) L j := by
            rw [hm]
            unfold mixR
            rw [hst, if_pos (by simp; omega), getD_snoc, if_neg (by omega), if_pos h]
          rw [this]; rfl
        · rw [if_neg h]
          have : mixR (keepR L (j + 1)) L k = mixR (keepR L j) L k := by
            unfold mixR
            rw [hst, List.length_append, List.length_singleton]
            by_cases h2 : k < (keepR L j).length
            · rw [if_pos (by omega), if_pos h2, getD_snoc, if_pos h2]
            · rw [if_neg (by omega), if_neg h2]
          rw [this]
      · have hq' : (L.getD j rg0).urg = false := by rw [hm] at hq; simpa using hq
        rw [if_neg (by rw [hq']; decide)] at hst
        have hlen : (keepR L (j + 1)).length = (keepR L j).length := by rw [hst]
        refine ⟨⟨j + 1, ⟨by omega, by omega⟩, by omega, [0], ?_, ⟨Ln.A, Ln.A, Ln.int (by rw [hlen]), Ln.A, True.intro⟩⟩⟩
        exact Cut.of (Nat.le_of_ble_eq_true rfl) rfl rfl (CutL.turned rfl (LnB.rowE (Nat.le_refl _) fun k hk o ho => by rw [hst]) CutL.done)
    · obtain rfl : j = L.length := by omega
      (repeat' ((try (conv => whnf)); first | (with_reducible first | refine FCond.tA ?_ | refine FCond.fA ?_) | ((with_reducible refine FCond.i (fun hq => ?_) (fun hq => ?_)) <;> (try simp only [zA, zE, zD, zJ, zB, zI, Int.not_le, Int.not_lt] at hq)) | (with_reducible first | refine Fits.in64 (by omega) ?_ | refine FIdx.nat (by omega) ?_ | refine FIdx.int (by omega) ?_ | refine FTo.nat (by omega) ?_ | refine FTo.int (by omega) ?_) | ((with_reducible refine Need.mk ?_ ?_); focus exact needA) | (with_reducible refine FOr.pub ?_)))
      all_goals (try (conv => whnf))
      rw [keepR_all]
      refine ⟨⟨_, _, [0], ?_, Ln.A, rfl, rfl⟩⟩
      refine Cut.of (Nat.le_of_ble_eq_true rfl) rfl rfl (CutL.turned rfl (LnB.rowE (Nat.le_refl _) fun k hk o ho => ?_) CutL.done)
      unfold mixR; rw [if_pos hk]
theorem cloneR_ok (z e : Bool) (l : List Rng) (h1 : 0 < l.length ∧ l.length ≤ 1000) (hz : z = false) : ACall Try.prog 44 [aRngs z e l] [] (fun v h => v = .own 0 l.length ∧ h = [rowR l.length l]) := by
  subst hz
  obtain ⟨m, hm⟩ : ∃ m, l.length = m + 1 := ⟨l.length - 1, by omega⟩
  (refine fcall_of mixed Try.func44 rfl (by decide) (hs := {}) ?k (ac := ?ac) ?c (rs := ?rs) ?r ?l ?H; (case k => kernel_rfl); (case c => (conv => (lhs; cbv))); (case r => (conv => (lhs; cbv))); (case l => exact Nat.le_of_ble_eq_true rfl))
  (repeat' ((try (conv => whnf)); first | (with_reducible first | refine FCond.tA ?_ | refine FCond.fA ?_) | ((with_reducible refine FCond.i (fun hq => ?_) (fun hq => ?_)) <;> (try simp only [zA, zE, zD, zJ, zB, zI, Int.not_le, Int.not_lt] at hq)) | (with_reducible first | refine Fits.in64 (by omega) ?_ | refine FIdx.nat (by omega) ?_ | refine FIdx.int (by omega) ?_ | refine FTo.nat (by omega) ?_ | refine FTo.int (by omega) ?_) | ((with_reducible refine Need.mk ?_ ?_); focus exact needA) | (with_reducible refine FApp.grow ?_) | (with_reducible refine FOr.pub ?_)))
  (try (conv => whnf))
  rw [hm]
  (repeat' ((try (conv => whnf)); first | (with_reducible first | refine FCond.tA ?_ | refine FCond.fA ?_) | ((with_reducible refine FCond.i (fun hq => ?_) (fun hq => ?_)) <;> (try simp only [zA, zE, zD, zJ, zB, zI, Int.not_le, Int.not_lt] at hq)) | (with_reducible first | refine Fits.in64 (by omega) ?_ | refine FIdx.nat (by omega) ?_ | refine FIdx.int (by omega) ?_ | refine FTo.nat (by omega) ?_ | refine FTo.int (by omega) ?_) | ((with_reducible refine Need.mk ?_ ?_); focus exact needA) | (with_reducible refine FApp.grow ?_) | (with_reducible refine FOr.pub ?_)))
  (try (conv => whnf))
  refine ⟨⟨.own 0 (m + 1), [rowR (m + 1) l], [0], ?_, Ln.ownE rfl (by omega), rfl, rfl⟩⟩
  exact Cut.of (Nat.le_of_ble_eq_true rfl) rfl rfl (CutL.turned rfl (LnB.rowE (by omega) fun k hk o ho => by simp [appc]) CutL.done)
theorem cloneR_0 (z e : Bool) : ACall Try.prog 44 [aRngs z e []] [] (fun v h => v = aRngs z true [] ∧ h = []) := by
  (refine fcall_of mixed Try.func44 rfl (by decide) (hs := {}) ?k (ac := ?ac) ?c (rs := ?rs) ?r ?l ?H; (case k => kernel_rfl); (case c => (conv => (lhs; cbv))); (case r => (conv => (lhs; cbv))); (case l => exact Nat.le_of_ble_eq_true rfl))
  cases z
  all_goals (repeat' ((try (conv => whnf)); first | (with_reducible first | refine FCond.tA ?_ | refine FCond.fA ?_) | ((with_reducible refine FCond.i (fun hq => ?_) (fun hq => ?_)) <;> (try simp only [zA, zE, zD, zJ, zB, zI, Int.not_le, Int.not_lt] at hq)) | (with_reducible first | refine Fits.in64 (by omega) ?_ | refine FIdx.nat (by omega) ?_ | refine FIdx.int (by omega) ?_ | refine FTo.nat (by omega) ?_ | refine FTo.int (by omega) ?_) | ((with_reducible refine Need.mk ?_ ?_); focus exact needA) | (with_reducible refine FApp.grow ?_) | (refine Need.mk ⟨Or.inr rfl, by decide, by decide⟩ ?_) | (with_reducible refine FOr.pub ?_)))
  all_goals (try (conv => whnf))
  all_goals exact ⟨⟨_, [], [], Cut.nil _, Ln.slz _ _ _ _ _ _ _ (by decide), rfl, rfl⟩⟩
theorem indexR_0 (z e : Bool) : ACall Try.prog 72 [aRngs z e [], fNot] [] (fun r h => r = AI (-1) ∧ h = []) := by
  (refine fcall_of mixed Try.func72 rfl (by decide) (hs := {}) ?k (ac := ?ac) ?c (rs := ?rs) ?r ?l ?H; (case k => kernel_rfl); (case c => (conv => (lhs; cbv))); (case r => (conv => (lhs; cbv))); (case l => exact Nat.le_of_ble_eq_true rfl))
  (repeat' ((try (conv => whnf)); first | (with_reducible first | refine FCond.tA ?_ | refine FCond.fA ?_) | ((with_reducible refine FCond.i (fun hq => ?_) (fun hq => ?_)) <;> (try simp only [zA, zE, zD, zJ, zB, zI, Int.not_le, Int.not_lt] at hq)) | (with_reducible first | refine Fits.in64 (by omega) ?_ | refine FIdx.nat (by omega) ?_ | refine FIdx.int (by omega) ?_ | refine FTo.nat (by omega) ?_ | refine FTo.int (by omega) ?_) | ((with_reducible refine Need.mk ?_ ?_); focus exact needA) | (with_reducible refine FApp.grow ?_) | (with_reducible refine FOr.pub ?_)))
  all_goals (try (conv => whnf))
  refine FLoop.of (ACalls.mono _) (X := Nat) (fun i => [(0, aRngs z e []), (1, fNot), (7, AI 0), (8, AI 0)]) (fun _ => []) (fun i => True) (fun i => 0) 0 ⟨trivial, [], Cut.A, allA⟩ ?_
  intro i _
  (repeat' ((try (conv => whnf)); first | (with_reducible first | refine FCond.tA ?_ | refine FCond.fA ?_) | ((with_reducible refine FCond.i (fun hq => ?_) (fun hq => ?_)) <;> (try simp only [zA, zE, zD, zJ, zB, zI, Int.not_le, Int.not_lt] at hq)) | (with_reducible first | refine Fits.in64 (by omega) ?_ | refine FIdx.nat (by omega) ?_ | refine FIdx.int (by omega) ?_ | refine FTo.nat (by omega) ?_ | refine FTo.int (by omega) ?_) | ((with_reducible refine Need.mk ?_ ?_); focus exact needA) | (with_reducible refine FApp.grow ?_) | (with_reducible refine FOr.pub ?_)))
  all_goals (try (conv => whnf))
  (refine ⟨⟨_, [], [], Cut.nil _, Ln.sameB _ rfl, ?_, rfl⟩⟩)
  rfl
theorem deleteR_0 (z e : Bool) : ACall Try.prog 64 [aRngs z e [], fNot] [] (fun v h => v = aRngs z e [] ∧ h = []) := by
  (refine fcall_of mixed Try.func64 rfl (by decide) (hs := {}) ?k (ac := ?ac) ?c (rs := ?rs) ?r ?l ?H; (case k => kernel_rfl); (case c => (conv => (lhs; cbv))); (case r => (conv => (lhs; cbv))); (case l => exact Nat.le_of_ble_eq_true rfl))
  (repeat' ((try (conv => whnf)); first | (with_reducible first | refine FCond.tA ?_ | refine FCond.fA ?_) | ((with_reducible refine FCond.i (fun hq => ?_) (fun hq => ?_)) <;> (try simp only [zA, zE, zD, zJ, zB, zI, Int.not_le, Int.not_lt] at hq)) | (with_reducible first | refine Fits.in64 (by omega) ?_ | refine FIdx.nat (by omega) ?_ | refine FIdx.int (by omega) ?_ | refine FTo.nat (by omega) ?_ | refine FTo.int (by omega) ?_) | ((with_reducible refine Need.mk ?_ ?_); focus exact needA) | (with_reducible refine FApp.grow ?_) | (refine FCall.pure ((indexR_0 z e)) ⟨Ln.sameB _ rfl, Ln.sameB _ rfl, True.intro⟩ rfl ?_) | (with_reducible refine FOr.pub ?_)))
  all_goals (try (conv => whnf))
  (refine ⟨⟨_, [], [], Cut.nil _, Ln.sameB _ rfl, ?_, rfl⟩⟩)
  rfl
theorem urgent_0 (f : StF) (s : Std) (hs : StdOk s) (h0 : s.rg = []) : ACall Try.prog 43 [aStd f s] [] (fun r h => r = AI (bestW (al s)).u ∧ h = []) := by
  have e : al s = s := by unfold al; rw [h0]; cases s; simp_all
  rw [e]
  have cB := pbest_ok ⟨f.zs, f.es, f.zr, true⟩ s hs
  obtain ⟨a, b, c⟩ := s
  simp only at h0
  subst h0
  (refine fcall_of mixed Try.func43 rfl (by decide) (hs := {}) ?k (ac := ?ac) ?c (rs := ?rs) ?r ?l ?H; (case k => kernel_rfl); (case c => (conv => (lhs; cbv))); (case r => (conv => (lhs; cbv))); (case l => exact Nat.le_of_ble_eq_true rfl))
  (repeat' ((try (conv => whnf)); first | (with_reducible first | refine FCond.tA ?_ | refine FCond.fA ?_) | ((with_reducible refine FCond.i (fun hq => ?_) (fun hq => ?_)) <;> (try simp only [zA, zE, zD, zJ, zB, zI, Int.not_le, Int.not_lt] at hq)) | (with_reducible first | refine Fits.in64 (by omega) ?_ | refine FIdx.nat (by omega) ?_ | refine FIdx.int (by omega) ?_ | refine FTo.nat (by omega) ?_ | refine FTo.int (by omega) ?_) | ((with_reducible refine Need.mk ?_ ?_); focus exact needA) | (with_reducible refine FApp.grow ?_) | (refine FCall.pure ((cloneR_0 f.zr f.er)) ⟨Ln.sameB _ rfl, True.intro⟩ rfl ?_) | (refine FCall.pure ((deleteR_0 f.zr true)) ⟨Ln.sameB _ rfl, Ln.sameB _ rfl, True.intro⟩ rfl ?_) | (refine FCall.pure (cB) ⟨Ln.sameB _ rfl, True.intro⟩ rfl ?_) | (with_reducible refine FOr.pub ?_)))
  all_goals (try (conv => whnf))
  (refine ⟨⟨_, [], [], Cut.nil _, Ln.sameB _ rfl, ?_, rfl⟩⟩)
  rfl
theorem urgent_1 (f : StF) (s : Std) (hs : StdOk s) (hsa : StdOk (al s)) (h0 : 0 < s.rg.length) (hz : f.zr = false) : ACall Try.prog 43 [aStd f s] [] (fun r h => r = AI (bestW (al s)).u ∧ h = []) := by
  have c12 : s.rg.length ≤ 12 := hs.c12
  have cB := pbest_ok ⟨f.zs, f.es, false, false⟩ (al s) hsa
  (refine fcall_of mixed Try.func43 rfl (by decide) (hs := { pub := [2] }) ?k (ac := ?ac) ?c (rs := ?rs) ?r ?l ?H; (case k => kernel_rfl); (case c => (conv => (lhs; cbv))); (case r => (conv => (lhs; cbv))); (case l => exact Nat.le_of_ble_eq_true rfl))
  (repeat' ((try (conv => whnf)); first | (with_reducible first | refine FCond.tA ?_ | refine FCond.fA ?_) | ((with_reducible refine FCond.i (fun hq => ?_) (fun hq => ?_)) <;> (try simp only [zA, zE, zD, zJ, zB, zI, Int.not_le, Int.not_lt] at hq)) | (with_reducible first | refine Fits.in64 (by omega) ?_ | refine FIdx.nat (by omega) ?_ | refine FIdx.int (by omega) ?_ | refine FTo.nat (by omega) ?_ | refine FTo.int (by omega) ?_) | ((with_reducible refine Need.mk ?_ ?_); focus exact needA) | (with_reducible refine FApp.grow ?_) | ((refine FCall.give [] [] ((cloneR_ok f.zr f.er s.rg ⟨h0, by omega⟩ hz)) rfl rfl True.intro ⟨Ln.A, True.intro⟩ ?_); rintro _ _ ⟨rfl, rfl⟩; (refine ⟨by first | exact Nat.le_of_ble_eq_true rfl | omega, .inl rfl, ?_⟩)) | ((refine FCall.give [1] [] ((deleteR_ok s.rg ⟨h0, by omega⟩)) rfl rfl ⟨⟨_, rfl, trivial, LnB.A⟩, True.intro⟩ ⟨Ln.A, Ln.A, True.intro⟩ ?_); rintro _ _ ⟨rfl, rfl⟩; (refine ⟨by first | exact Nat.le_of_ble_eq_true rfl | omega, .inl rfl, ?_⟩)) | (with_reducible refine FOr.pub ?_)))
  all_goals (try (conv => whnf))
  refine FWk.of [(1, .ptr 0 0)] [.box 3 (cStd ⟨f.zs, f.es, false, false⟩ (al s))] [0] (Cut.of (Nat.le_of_ble_eq_true rfl) rfl rfl (CutL.turned rfl (LnB.boxN ⟨⟨⟨True.intro, Ln.A⟩, Ln.A⟩, Ln.pubE (goneB rfl) rfl (Nat.le_refl _) rfl (fun _ _ _ _ => rfl)⟩) CutL.done)) ⟨Ln.A, True.intro⟩ ?_
  (repeat' ((try (conv => whnf)); first | (with_reducible first | refine FCond.tA ?_ | refine FCond.fA ?_) | ((with_reducible refine FCond.i (fun hq => ?_) (fun hq => ?_)) <;> (try simp only [zA, zE, zD, zJ, zB, zI, Int.not_le, Int.not_lt] at hq)) | (with_reducible first | refine Fits.in64 (by omega) ?_ | refine FIdx.nat (by omega) ?_ | refine FIdx.int (by omega) ?_ | refine FTo.nat (by omega) ?_ | refine FTo.int (by omega) ?_) | ((with_reducible refine Need.mk ?_ ?_); focus exact needA) | (with_reducible refine FApp.grow ?_) | (refine FCall.pure (cB) ⟨Ln.sameB _ rfl, True.intro⟩ rfl ?_) | (with_reducible refine FOr.pub ?_)))
  all_goals (try (conv => whnf))
  (refine ⟨⟨_, [], [], Cut.nil _, Ln.sameB _ rfl, ?_, rfl⟩⟩)
  rfl
/-- THE URGENT WAITING. -/
theorem urgent_ok (f : StF) (s : Std) (hk : s.ok = true) : ACall Try.prog 43 [aStd f s] [] (fun r h => r = AI (bestW s).u ∧ h = []) := by
  have e : (bestW (al s)).u = (bestW s).u := by rw [best_alone]
  rw [← e]
  have hs := std_d hk
  have hsa := std_d (al_ok hk)
  rcases Nat.eq_zero_or_pos s.rg.length with h0 | h0
  · exact urgent_0 f s hs (List.eq_nil_of_length_eq_zero h0)
  · cases hz : f.zr
    · exact urgent_1 f s hs hsa h0 hz
    · refine ACall.void (urgent_1 ⟨f.zs, f.es, false, f.er⟩ s hs hsa h0 rfl) (i := 0) rfl (agg_void (i := 2) (by decide) ?_)
      show ∀ M w g u, ¬ rep M w (aRngs f.zr f.er s.rg) g u
      rw [hz]
      exact sl_void h0
end Go.Proofs.Ytnghcfmloljagaa

namespace Go.Proofs.Ytnghcfmloljagaa
open Go.RowKit

/-- One more emergency. -/
def wr (s : Std) (g t : Int) : Std := { s with rg := s.rg ++ [⟨g, t, true⟩] }
theorem wr_ok {s : Std} {g t : Int} (h : s.ok = true) (hc : s.C ≤ 11) (hg : 0 ≤ g ∧ g ≤ 4) (ht : 0 ≤ t ∧ t ≤ s.times - 1) : (wr s g t).ok = true := by
  unfold Std.ok Std.head at h ⊢
  simp only [Bool.and_eq_true, decide_eq_true_eq, List.all_eq_true] at h ⊢
  obtain ⟨⟨⟨⟨a, b⟩, c⟩, d⟩, e⟩ := h
  have hc' : s.rg.length ≤ 11 := hc
  refine ⟨⟨⟨⟨a, b⟩, ?_⟩, d⟩, fun x hx => ?_⟩
  · show ((s.rg ++ [_]).length : Int) ≤ 12
    rw [List.length_append, List.length_singleton]; omega
  · rcases List.mem_append.1 hx with hx | hx
    · exact e x hx
    · rw [List.mem_singleton] at hx
      subst hx
      unfold Rng.ok
      simp only [inB, Bool.and_eq_true, decide_eq_true_eq]
      exact ⟨⟨hg.1, hg.2⟩, ht.1, ht.2⟩
/-- A signer who signs no language. -/
def mute (s : Std) (i : Nat) : Std := { s with sg := s.sg.set i { s.S i with tongues := 0 } }
theorem mute_ok {s : Std} {i : Nat} (h : s.ok = true) (hi : i < s.n) : (mute s i).ok = true := by
  have hs := (std_d h).sg i hi
  unfold Std.ok Std.head at h ⊢
  simp only [Bool.and_eq_true, decide_eq_true_eq, List.all_eq_true] at h ⊢
  obtain ⟨⟨⟨⟨a, b⟩, c⟩, d⟩, e⟩ := h
  refine ⟨⟨⟨⟨a, ?_⟩, c⟩, fun x hx => ?_⟩, e⟩
  · show 1 ≤ ((s.sg.set i _).length : Int) ∧ ((s.sg.set i _).length : Int) ≤ 4
    rw [List.length_set]; exact b
  · rcases List.mem_or_eq_of_mem_set hx with hx | hx
    · exact d x hx
    · subst hx
      unfold Sgn.ok
      simp only [inB, Bool.and_eq_true, decide_eq_true_eq]
      exact ⟨⟨⟨by decide, by decide⟩, hs.2.1, hs.2.2.1⟩, hs.2.2.2⟩
/-- A list that is nil if it is empty. -/
def outI : List Int → AV
  | [] => nilS
  | x :: xs => aInts false false (x :: xs)
theorem out_pureB (l : List Int) : (outI l).pureB = true := by cases l <;> rfl
def freeK (s : Std) (g : Int) (t : Nat) : List Int := ((List.range t).filter fun (k : Nat) => decide ((bestW (wr s g (k : Int))).u ≤ (bestW s).u)).map fun (k : Nat) => (k : Int)
theorem freeK_succ (s : Std) (g : Int) (t : Nat) : freeK s g (t + 1) = if (bestW (wr s g t)).u ≤ (bestW s).u then freeK s g t ++ [(t : Int)] else freeK s g t := by
  unfold freeK
  rw [List.range_succ, List.filter_append, List.map_append]
  by_cases h : (bestW (wr s g t)).u ≤ (bestW s).u
  · rw [if_pos h]; simp [h]
  · rw [if_neg h]; simp [h]
theorem freeK_len (s : Std) (g : Int) (t : Nat) : (freeK s g t).length ≤ t := by
  unfold freeK
  rw [List.length_map]
  exact Nat.le_trans (List.length_filter_le _ _) (by simp)
def vitK (s : Std) (i : Nat) : List Int := ((List.range i).filter fun (k : Nat) => decide ((bestW s).u < (bestW (mute s k)).u)).map fun (k : Nat) => (k : Int)
theorem vitK_succ (s : Std) (i : Nat) : vitK s (i + 1) = if (bestW s).u < (bestW (mute s i)).u then vitK s i ++ [(i : Int)] else vitK s i := by
  unfold vitK
  rw [List.range_succ, List.filter_append, List.map_append]
  by_cases h : (bestW s).u < (bestW (mute s i)).u
  · rw [if_pos h]; simp [h]
  · rw [if_neg h]; simp [h]
theorem vitK_len (s : Std) (i : Nat) : (vitK s i).length ≤ i := by
  unfold vitK
  rw [List.length_map]
  exact Nat.le_trans (List.length_filter_le _ _) (by simp)
theorem bestW_bd {s : Std} (hs : StdOk s) : WBd (bestW s) 44 := by
  obtain ⟨_, h1, h2, h3, _⟩ := bestAt_eq s
  rw [h3]
  have a := row_bd hs (s.n * s.T) (Nat.le_refl _) (bestAt s)
  have b := leftK_bd hs (bestAt s) s.C (Nat.le_refl _)
  have hnT : s.n * s.T ≤ 32 := Nat.le_trans (Nat.mul_le_mul hs.n4 hs.t8) (by decide)
  have c := hs.c12
  have a1 := a.u
  have a2 := a.o
  have b1 := b.u
  have b2 := b.o
  unfold fin'
  have e : left s (bestAt s) = leftK s (bestAt s) s.C := rfl
  rw [e]
  exact ⟨by rw [add_u]; omega, by rw [add_o]; omega⟩
def oI (d : Nat) : List Int → AV
  | [] => nilS
  | _ :: xs => .own d (xs.length + 1)
def hI (a b : AB) : List Int → List AB
  | [] => [a, b]
  | x :: xs => [a, b, .row (xs.length + 1) 1 (fun k _ => AI ((x :: xs).getD k 0))]
theorem snocI_old {x c : Int} {xs : List Int} {k : Nat} (h : k < xs.length + 1) : (x :: (xs ++ [c])).getD k 0 = (x :: xs).getD k 0 := by
  cases k with
  | zero => rfl
  | succ k => simp [List.getD, List.getElem?_append_left (show k < xs.length by omega)]
theorem snocI_new {x c : Int} {xs : List Int} : (x :: (xs ++ [c])).getD (xs.length + 1) 0 = c := by simp [List.getD]
theorem LnB.snocI {σ : Nat → Nat → Prop} {Bp : Nat → Prop} {H : List AB} {x c : Int} {xs : List Int} {z : Nat → Nat → AV} : LnB σ Bp H (.row (xs.length + 1 + 1) 1 (appc (xs.length + 1) (fun k _ => AI ((x :: xs).getD k 0)) (bslC z [(0, AI c)]))) (.row ((xs ++ [c]).length + 1) 1 (fun k _ => AI ((x :: (xs ++ [c])).getD k 0))) := by
  refine LnB.rowE (by simp) fun k hk o ho => ?_
  obtain rfl : o = 0 := by omega
  simp only [appc]
  by_cases hk2 : k < xs.length + 1
  · rw [if_pos hk2, snocI_old hk2]
  · simp only [List.length_append, List.length_singleton] at hk
    obtain rfl : k = xs.length + 1 := by omega
    rw [if_neg hk2, snocI_new, Nat.sub_self]
    rfl
theorem snoc_len {x : Int} {xs : List Int} : (xs ++ [x]).length = xs.length + 1 := by simp
abbrev stF (f : StF) : StF := ⟨f.zs, f.es, false, false⟩
set_option maxHeartbeats 8000000
set_option maxRecDepth 100000
theorem rng_snoc {l : List Rng} {x : Rng} {k : Nat} (hk : k < l.length + 1) : (l ++ [x]).getD k rg0 = if k < l.length then l.getD k rg0 else x := by
  rw [getD_snoc]
  by_cases h : k < l.length
  · rw [if_pos h, if_pos h]
  · rw [if_neg h, if_neg h, if_pos (by omega)]
theorem wr_row {l : List Rng} {r : Rng} {c : Nat → Nat → AV} {z : Nat → Nat → AV} (hc : ∀ k, k < l.length → ∀ o, o < 3 → c k o = cRng (l.getD k rg0) o) : ∀ k, k < l.length + 1 → ∀ o, o < 3 → cRng ((l ++ [r]).getD k rg0) o = appc l.length c (bslC z [(0, aRng r)]) k o := fun k hk o ho => by
  simp only [appc]
  rw [rng_snoc hk]
  by_cases h : k < l.length
  · rw [if_pos h, if_pos h, hc k h o ho]
  · rw [if_neg h, if_neg h, show k - l.length = 0 by omega]; rfl
theorem free_1 (f : StF) (s : Std) (hn : NearS s) (hk : s.ok = true) (hc : s.C ≤ 11) (g : Int) (hg : 0 ≤ g ∧ g ≤ 4) (hz : f.zr = false ∨ s.rg = []) : ACall Try.prog 21 [aStd f s, AI g] [] (fun r h => r = .tup 2 (ofL [outI (freeK s g s.T), AI 0]) ∧ h = []) := by
  have hs := std_d hk
  have cC := check_ok f s hn
  rw [check_ok' hk] at cC
  have cU := urgent_ok f s hk
  have tt := hs.t
  have t8 := hs.t8
  have hc' : s.rg.length ≤ 11 := hc
  have hb0 := (bestW_bd hs).u
  (refine fcall_of mixed Try.func21 rfl (by decide) (hs := { pub := [13] }) ?k (ac := ?ac) ?c (rs := ?rs) ?r ?l ?H; (case k => kernel_rfl); (case c => (conv => (lhs; cbv))); (case r => (conv => (lhs; cbv))); (case l => exact Nat.le_of_ble_eq_true rfl))
  (repeat' ((try (conv => whnf)); first | (with_reducible first | refine FCond.tA ?_ | refine FCond.fA ?_) | ((with_reducible refine FCond.i (fun hq => ?_) (fun hq => ?_)) <;> (try simp only [zA, zE, zD, zJ, zB, zI, Int.not_le, Int.not_lt] at hq)) | (with_reducible first | refine Fits.in64 (by omega) ?_ | refine FIdx.nat (by omega) ?_ | refine FIdx.int (by omega) ?_ | refine FTo.nat (by omega) ?_ | refine FTo.int (by omega) ?_) | ((with_reducible refine Need.mk ?_ ?_); focus exact needA) | (with_reducible refine FApp.grow ?_) | (refine FCall.pure (cC) ⟨Ln.sameB _ rfl, True.intro⟩ rfl ?_) | (refine FCall.pure (cU) ⟨Ln.sameB _ rfl, True.intro⟩ rfl ?_) | (with_reducible refine FOr.pub ?_)))
  all_goals (try (conv => whnf))
  refine FLoop.of (ACalls.mono _) (X := Nat × List Int) (fun x => [(1, AI g), (2, .ptr 0 0), (7, .ptr 1 0), (8, AI (bestW s).u), (9, oI 2 x.2), (27, AI s.times), (28, AI x.1)]) (fun x => hI (.box 3 (cStd f s)) (.box 3 (ofL [AI s.times, aSgns f.zs f.es s.sg, .bot])) x.2) (fun x => x.1 ≤ s.T ∧ x.2 = freeK s g x.1) (fun x => s.T - x.1) (0, []) ⟨⟨Nat.zero_le _, rfl⟩, [0, 1], Cut.of (Nat.le_of_ble_eq_true rfl) rfl rfl (CutL.turned rfl LnB.A (CutL.turned rfl (LnB.boxN ⟨⟨⟨True.intro, Ln.A⟩, Ln.A⟩, Ln.bot _⟩) CutL.done)), allA⟩ ?_
  rintro ⟨t, l⟩ ⟨ht, hl⟩
  simp only at ht hl
  by_cases hlt : t < s.T
  · have hw := wr_ok hk hc hg (show 0 ≤ (t : Int) ∧ (t : Int) ≤ s.times - 1 by omega)
    have cW := urgent_ok (stF f) (wr s g t) hw
    have hb1 := (bestW_bd (std_d hw)).u
    have hst := freeK_succ s g t
    rw [← hl] at hst
    have hll := freeK_len s g t
    rw [← hl] at hll
    have hlw : (wr s g t).rg.length = s.rg.length + 1 := List.length_append
    rcases Nat.eq_zero_or_pos s.rg.length with h0 | h0
    · have he : s.rg = [] := List.eq_nil_of_length_eq_zero h0
      have cK := cloneR_0 f.zr f.er
      rw [← he] at cK
      rcases l with _ | ⟨x, xs⟩
      · (repeat' ((try (conv => whnf)); first | (with_reducible first | refine FCond.tA ?_ | refine FCond.fA ?_) | ((with_reducible refine FCond.i (fun hq => ?_) (fun hq => ?_)) <;> (try simp only [zA, zE, zD, zJ, zB, zI, Int.not_le, Int.not_lt] at hq)) | (with_reducible first | refine Fits.in64 (by omega) ?_ | refine FIdx.nat (by omega) ?_ | refine FIdx.int (by omega) ?_ | refine FTo.nat (by omega) ?_ | refine FTo.int (by omega) ?_) | ((with_reducible refine Need.mk ?_ ?_); focus exact needA) | (with_reducible refine FApp.grow ?_) | (refine FCall.pure (cK) ⟨Ln.sameB _ rfl, True.intro⟩ rfl ?_) | (refine Need.mk ⟨Or.inr h0, by unfold maxLen; simp; omega, by simp; omega⟩ ?_) | (with_reducible refine FOr.pub ?_)))
        all_goals (try (conv => whnf))
        refine FWk.of [(1, AI g), (2, .ptr 0 0), (7, .ptr 1 0), (8, AI (bestW s).u), (9, oI 2 []), (10, AI t), (27, AI s.times), (28, AI t)] (hI (.box 3 (cStd f s)) (.box 3 (cStd (stF f) (wr s g t))) []) [0, 1] (Cut.of (Nat.le_of_ble_eq_true rfl) rfl rfl (CutL.turned rfl LnB.A (CutL.turned rfl (LnB.boxN ⟨⟨⟨True.intro, Ln.A⟩, Ln.A⟩, Ln.pubE (goneB rfl) rfl (Nat.le_refl _) hlw.symm (wr_row fun _ _ _ _ => rfl)⟩) CutL.done))) allA ?_
        (repeat' ((try (conv => whnf)); first | (with_reducible first | refine FCond.tA ?_ | refine FCond.fA ?_) | ((with_reducible refine FCond.i (fun hq => ?_) (fun hq => ?_)) <;> (try simp only [zA, zE, zD, zJ, zB, zI, Int.not_le, Int.not_lt] at hq)) | (with_reducible first | refine Fits.in64 (by omega) ?_ | refine FIdx.nat (by omega) ?_ | refine FIdx.int (by omega) ?_ | refine FTo.nat (by omega) ?_ | refine FTo.int (by omega) ?_) | ((with_reducible refine Need.mk ?_ ?_); focus exact needA) | (with_reducible refine FApp.grow ?_) | (refine FCall.pure (cW) ⟨Ln.sameB _ rfl, True.intro⟩ rfl ?_) | (with_reducible refine FOr.pub ?_)))
        all_goals (try (conv => whnf))
        · rw [if_pos (by omega)] at hst
          exact ⟨⟨(t + 1, [(t : Int)]), ⟨hlt, hst.symm⟩, by show _ < _; simp only; omega, [0, 1, 2], Cut.of (Nat.le_of_ble_eq_true rfl) rfl rfl (CutL.turned rfl LnB.A (CutL.turned rfl (LnB.boxN ⟨⟨⟨True.intro, Ln.A⟩, Ln.A⟩, Ln.bot _⟩) (CutL.turned rfl (LnB.app (fun k hk => absurd hk (Nat.not_lt_zero k)) (fun o ho => by obtain rfl : o = 0 := (by omega); rfl)) CutL.done))), ⟨Ln.A, Ln.A, Ln.A, Ln.A, Ln.A, Ln.A, Ln.A, True.intro⟩⟩⟩
        · rw [if_neg (by omega)] at hst
          exact ⟨⟨(t + 1, []), ⟨hlt, hst.symm⟩, by show _ < _; simp only; omega, [0, 1], Cut.of (Nat.le_of_ble_eq_true rfl) rfl rfl (CutL.turned rfl LnB.A (CutL.turned rfl (LnB.boxN ⟨⟨⟨True.intro, Ln.A⟩, Ln.A⟩, Ln.bot _⟩) CutL.done)), allA⟩⟩
      · simp only [List.length_cons] at hll
        (repeat' ((try (conv => whnf)); first | (with_reducible first | refine FCond.tA ?_ | refine FCond.fA ?_) | ((with_reducible refine FCond.i (fun hq => ?_) (fun hq => ?_)) <;> (try simp only [zA, zE, zD, zJ, zB, zI, Int.not_le, Int.not_lt] at hq)) | (with_reducible first | refine Fits.in64 (by omega) ?_ | refine FIdx.nat (by omega) ?_ | refine FIdx.int (by omega) ?_ | refine FTo.nat (by omega) ?_ | refine FTo.int (by omega) ?_) | ((with_reducible refine Need.mk ?_ ?_); focus exact needA) | (with_reducible refine FApp.grow ?_) | (refine FCall.pure (cK) ⟨Ln.sameB _ rfl, True.intro⟩ rfl ?_) | (refine Need.mk ⟨Or.inr h0, by unfold maxLen; simp; omega, by simp; omega⟩ ?_) | (with_reducible refine FOr.pub ?_)))
        all_goals (try (conv => whnf))
        refine FWk.of [(1, AI g), (2, .ptr 0 0), (7, .ptr 1 0), (8, AI (bestW s).u), (9, oI 2 (x :: xs)), (10, AI t), (27, AI s.times), (28, AI t)] (hI (.box 3 (cStd f s)) (.box 3 (cStd (stF f) (wr s g t))) (x :: xs)) [0, 1, 2] (Cut.of (Nat.le_of_ble_eq_true rfl) rfl rfl (CutL.turned rfl LnB.A (CutL.turned rfl (LnB.boxN ⟨⟨⟨True.intro, Ln.A⟩, Ln.A⟩, Ln.pubE (goneB rfl) rfl (Nat.le_refl _) hlw.symm (wr_row fun _ _ _ _ => rfl)⟩) (CutL.turned rfl LnB.A CutL.done)))) allA ?_
        (repeat' ((try (conv => whnf)); first | (with_reducible first | refine FCond.tA ?_ | refine FCond.fA ?_) | ((with_reducible refine FCond.i (fun hq => ?_) (fun hq => ?_)) <;> (try simp only [zA, zE, zD, zJ, zB, zI, Int.not_le, Int.not_lt] at hq)) | (with_reducible first | refine Fits.in64 (by omega) ?_ | refine FIdx.nat (by omega) ?_ | refine FIdx.int (by omega) ?_ | refine FTo.nat (by omega) ?_ | refine FTo.int (by omega) ?_) | ((with_reducible refine Need.mk ?_ ?_); focus exact needA) | (with_reducible refine FApp.grow ?_) | (refine FCall.pure (cW) ⟨Ln.sameB _ rfl, True.intro⟩ rfl ?_) | (with_reducible refine FOr.pub ?_)))
        all_goals (try (conv => whnf))
        · rw [if_pos (by omega)] at hst
          exact ⟨⟨(t + 1, (x :: (xs ++ [(t : Int)]))), ⟨hlt, hst.symm⟩, by show _ < _; simp only; omega, [0, 1, 3], Cut.of (Nat.le_of_ble_eq_true rfl) rfl rfl (CutL.turned rfl LnB.A (CutL.turned rfl (LnB.boxN ⟨⟨⟨True.intro, Ln.A⟩, Ln.A⟩, Ln.bot _⟩) (CutL.turned rfl LnB.snocI CutL.done))), ⟨Ln.A, Ln.A, Ln.A, Ln.A, Ln.ownE rfl (by simp), Ln.A, Ln.A, True.intro⟩⟩⟩
        · rw [if_neg (by omega)] at hst
          exact ⟨⟨(t + 1, (x :: xs)), ⟨hlt, hst.symm⟩, by show _ < _; simp only; omega, [0, 1, 2], Cut.of (Nat.le_of_ble_eq_true rfl) rfl rfl (CutL.turned rfl LnB.A (CutL.turned rfl (LnB.boxN ⟨⟨⟨True.intro, Ln.A⟩, Ln.A⟩, Ln.bot _⟩) (CutL.turned rfl LnB.A CutL.done))), allA⟩⟩
    · have hz' : f.zr = false := hz.resolve_right (fun e => by rw [e] at h0; exact absurd h0 (Nat.lt_irrefl 0))
      have cK := cloneR_ok f.zr f.er s.rg ⟨h0, by omega⟩ hz'
      rcases l with _ | ⟨x, xs⟩
      · (repeat' ((try (conv => whnf)); first | (with_reducible first | refine FCond.tA ?_ | refine FCond.fA ?_) | ((with_reducible refine FCond.i (fun hq => ?_) (fun hq => ?_)) <;> (try simp only [zA, zE, zD, zJ, zB, zI, Int.not_le, Int.not_lt] at hq)) | (with_reducible first | refine Fits.in64 (by omega) ?_ | refine FIdx.nat (by omega) ?_ | refine FIdx.int (by omega) ?_ | refine FTo.nat (by omega) ?_ | refine FTo.int (by omega) ?_) | ((with_reducible refine Need.mk ?_ ?_); focus exact needA) | (with_reducible refine FApp.grow ?_) | ((refine FCall.give [] [] (cK) rfl rfl True.intro ⟨Ln.A, True.intro⟩ ?_); rintro _ _ ⟨rfl, rfl⟩; (refine ⟨by first | exact Nat.le_of_ble_eq_true rfl | omega, .inl rfl, ?_⟩)) | (with_reducible refine FOr.pub ?_)))
        all_goals (try (conv => whnf))
        refine FWk.of [(1, AI g), (2, .ptr 0 0), (7, .ptr 1 0), (8, AI (bestW s).u), (9, oI 2 []), (10, AI t), (27, AI s.times), (28, AI t)] (hI (.box 3 (cStd f s)) (.box 3 (cStd (stF f) (wr s g t))) []) [0, 1] (Cut.of (Nat.le_of_ble_eq_true rfl) rfl rfl (CutL.turned rfl LnB.A (CutL.turned rfl (LnB.boxN ⟨⟨⟨True.intro, Ln.A⟩, Ln.A⟩, Ln.pubE (goneB rfl) rfl (Nat.le_refl _) hlw.symm (wr_row fun _ _ _ _ => rfl)⟩) CutL.done))) allA ?_
        (repeat' ((try (conv => whnf)); first | (with_reducible first | refine FCond.tA ?_ | refine FCond.fA ?_) | ((with_reducible refine FCond.i (fun hq => ?_) (fun hq => ?_)) <;> (try simp only [zA, zE, zD, zJ, zB, zI, Int.not_le, Int.not_lt] at hq)) | (with_reducible first | refine Fits.in64 (by omega) ?_ | refine FIdx.nat (by omega) ?_ | refine FIdx.int (by omega) ?_ | refine FTo.nat (by omega) ?_ | refine FTo.int (by omega) ?_) | ((with_reducible refine Need.mk ?_ ?_); focus exact needA) | (with_reducible refine FApp.grow ?_) | (refine FCall.pure (cW) ⟨Ln.sameB _ rfl, True.intro⟩ rfl ?_) | (with_reducible refine FOr.pub ?_)))
        all_goals (try (conv => whnf))
        · rw [if_pos (by omega)] at hst
          exact ⟨⟨(t + 1, [(t : Int)]), ⟨hlt, hst.symm⟩, by show _ < _; simp only; omega, [0, 1, 2], Cut.of (Nat.le_of_ble_eq_true rfl) rfl rfl (CutL.turned rfl LnB.A (CutL.turned rfl (LnB.boxN ⟨⟨⟨True.intro, Ln.A⟩, Ln.A⟩, Ln.bot _⟩) (CutL.turned rfl (LnB.app (fun k hk => absurd hk (Nat.not_lt_zero k)) (fun o ho => by obtain rfl : o = 0 := (by omega); rfl)) CutL.done))), ⟨Ln.A, Ln.A, Ln.A, Ln.A, Ln.A, Ln.A, Ln.A, True.intro⟩⟩⟩
        · rw [if_neg (by omega)] at hst
          exact ⟨⟨(t + 1, []), ⟨hlt, hst.symm⟩, by show _ < _; simp only; omega, [0, 1], Cut.of (Nat.le_of_ble_eq_true rfl) rfl rfl (CutL.turned rfl LnB.A (CutL.turned rfl (LnB.boxN ⟨⟨⟨True.intro, Ln.A⟩, Ln.A⟩, Ln.bot _⟩) CutL.done)), allA⟩⟩
      · simp only [List.length_cons] at hll
        (repeat' ((try (conv => whnf)); first | (with_reducible first | refine FCond.tA ?_ | refine FCond.fA ?_) | ((with_reducible refine FCond.i (fun hq => ?_) (fun hq => ?_)) <;> (try simp only [zA, zE, zD, zJ, zB, zI, Int.not_le, Int.not_lt] at hq)) | (with_reducible first | refine Fits.in64 (by omega) ?_ | refine FIdx.nat (by omega) ?_ | refine FIdx.int (by omega) ?_ | refine FTo.nat (by omega) ?_ | refine FTo.int (by omega) ?_) | ((with_reducible refine Need.mk ?_ ?_); focus exact needA) | (with_reducible refine FApp.grow ?_) | ((refine FCall.give [] [] (cK) rfl rfl True.intro ⟨Ln.A, True.intro⟩ ?_); rintro _ _ ⟨rfl, rfl⟩; (refine ⟨by first | exact Nat.le_of_ble_eq_true rfl | omega, .inl rfl, ?_⟩)) | (with_reducible refine FOr.pub ?_)))
        all_goals (try (conv => whnf))
        refine FWk.of [(1, AI g), (2, .ptr 0 0), (7, .ptr 1 0), (8, AI (bestW s).u), (9, oI 2 (x :: xs)), (10, AI t), (27, AI s.times), (28, AI t)] (hI (.box 3 (cStd f s)) (.box 3 (cStd (stF f) (wr s g t))) (x :: xs)) [0, 1, 2] (Cut.of (Nat.le_of_ble_eq_true rfl) rfl rfl (CutL.turned rfl LnB.A (CutL.turned rfl (LnB.boxN ⟨⟨⟨True.intro, Ln.A⟩, Ln.A⟩, Ln.pubE (goneB rfl) rfl (Nat.le_refl _) hlw.symm (wr_row fun _ _ _ _ => rfl)⟩) (CutL.turned rfl LnB.A CutL.done)))) allA ?_
        (repeat' ((try (conv => whnf)); first | (with_reducible first | refine FCond.tA ?_ | refine FCond.fA ?_) | ((with_reducible refine FCond.i (fun hq => ?_) (fun hq => ?_)) <;> (try simp only [zA, zE, zD, zJ, zB, zI, Int.not_le, Int.not_lt] at hq)) | (with_reducible first | refine Fits.in64 (by omega) ?_ | refine FIdx.nat (by omega) ?_ | refine FIdx.int (by omega) ?_ | refine FTo.nat (by omega) ?_ | refine FTo.int (by omega) ?_) | ((with_reducible refine Need.mk ?_ ?_); focus exact needA) | (with_reducible refine FApp.grow ?_) | (refine FCall.pure (cW) ⟨Ln.sameB _ rfl, True.intro⟩ rfl ?_) | (with_reducible refine FOr.pub ?_)))
        all_goals (try (conv => whnf))
        · rw [if_pos (by omega)] at hst
          exact ⟨⟨(t + 1, (x :: (xs ++ [(t : Int)]))), ⟨hlt, hst.symm⟩, by show _ < _; simp only; omega, [0, 1, 3], Cut.of (Nat.le_of_ble_eq_true rfl) rfl rfl (CutL.turned rfl LnB.A (CutL.turned rfl (LnB.boxN ⟨⟨⟨True.intro, Ln.A⟩, Ln.A⟩, Ln.bot _⟩) (CutL.turned rfl LnB.snocI CutL.done))), ⟨Ln.A, Ln.A, Ln.A, Ln.A, Ln.ownE rfl (by simp), Ln.A, Ln.A, True.intro⟩⟩⟩
        · rw [if_neg (by omega)] at hst
          exact ⟨⟨(t + 1, (x :: xs)), ⟨hlt, hst.symm⟩, by show _ < _; simp only; omega, [0, 1, 2], Cut.of (Nat.le_of_ble_eq_true rfl) rfl rfl (CutL.turned rfl LnB.A (CutL.turned rfl (LnB.boxN ⟨⟨⟨True.intro, Ln.A⟩, Ln.A⟩, Ln.bot _⟩) (CutL.turned rfl LnB.A CutL.done))), allA⟩⟩
  · obtain rfl : t = s.T := by omega
    rcases l with _ | ⟨x, xs⟩
    · (repeat' ((try (conv => whnf)); first | (with_reducible first | refine FCond.tA ?_ | refine FCond.fA ?_) | ((with_reducible refine FCond.i (fun hq => ?_) (fun hq => ?_)) <;> (try simp only [zA, zE, zD, zJ, zB, zI, Int.not_le, Int.not_lt] at hq)) | (with_reducible first | refine Fits.in64 (by omega) ?_ | refine FIdx.nat (by omega) ?_ | refine FIdx.int (by omega) ?_ | refine FTo.nat (by omega) ?_ | refine FTo.int (by omega) ?_) | ((with_reducible refine Need.mk ?_ ?_); focus exact needA) | (with_reducible refine FApp.grow ?_) | (with_reducible refine FOr.pub ?_)))
      all_goals (try (conv => whnf))
      rw [show freeK s g s.T = _ from hl.symm]
      exact ⟨⟨_, [], [], Cut.nil _, allA, rfl, rfl⟩⟩
    · (repeat' ((try (conv => whnf)); first | (with_reducible first | refine FCond.tA ?_ | refine FCond.fA ?_) | ((with_reducible refine FCond.i (fun hq => ?_) (fun hq => ?_)) <;> (try simp only [zA, zE, zD, zJ, zB, zI, Int.not_le, Int.not_lt] at hq)) | (with_reducible first | refine Fits.in64 (by omega) ?_ | refine FIdx.nat (by omega) ?_ | refine FIdx.int (by omega) ?_ | refine FTo.nat (by omega) ?_ | refine FTo.int (by omega) ?_) | ((with_reducible refine Need.mk ?_ ?_); focus exact needA) | (with_reducible refine FApp.grow ?_) | (with_reducible refine FOr.pub ?_)))
      all_goals (try (conv => whnf))
      rw [show freeK s g s.T = _ from hl.symm]
      exact ⟨⟨.tup 2 (ofL [outI (x :: xs), AI 0]), [], [], Cut.nil _, Ln.tupN ⟨⟨True.intro, Ln.pubE (goneB rfl) rfl (Nat.le_refl _) rfl (fun _ _ _ _ => rfl)⟩, Ln.A⟩, rfl, rfl⟩⟩
abbrev rowG (n : Nat) (l : List Sgn) : AB := .row n 3 (fun k => cSgn (l.getD k sg0))
abbrev muF (f : StF) : StF := ⟨false, false, f.zr, f.er⟩
theorem cloneG_ok (z e : Bool) (l : List Sgn) (h1 : 0 < l.length ∧ l.length ≤ 1000) (hz : z = false) : ACall Try.prog 46 [aSgns z e l] [] (fun v h => v = .own 0 l.length ∧ h = [rowG l.length l]) := by
  subst hz
  obtain ⟨m, hm⟩ : ∃ m, l.length = m + 1 := ⟨l.length - 1, by omega⟩
  (refine fcall_of mixed Try.func46 rfl (by decide) (hs := {}) ?k (ac := ?ac) ?c (rs := ?rs) ?r ?l ?H; (case k => kernel_rfl); (case c => (conv => (lhs; cbv))); (case r => (conv => (lhs; cbv))); (case l => exact Nat.le_of_ble_eq_true rfl))
  (repeat' ((try (conv => whnf)); first | (with_reducible first | refine FCond.tA ?_ | refine FCond.fA ?_) | ((with_reducible refine FCond.i (fun hq => ?_) (fun hq => ?_)) <;> (try simp only [zA, zE, zD, zJ, zB, zI, Int.not_le, Int.not_lt] at hq)) | (with_reducible first | refine Fits.in64 (by omega) ?_ | refine FIdx.nat (by omega) ?_ | refine FIdx.int (by omega) ?_ | refine FTo.nat (by omega) ?_ | refine FTo.int (by omega) ?_) | ((with_reducible refine Need.mk ?_ ?_); focus exact needA) | (with_reducible refine FApp.grow ?_) | (with_reducible refine FOr.pub ?_)))
  (try (conv => whnf))
  rw [hm]
  (repeat' ((try (conv => whnf)); first | (with_reducible first | refine FCond.tA ?_ | refine FCond.fA ?_) | ((with_reducible refine FCond.i (fun hq => ?_) (fun hq => ?_)) <;> (try simp only [zA, zE, zD, zJ, zB, zI, Int.not_le, Int.not_lt] at hq)) | (with_reducible first | refine Fits.in64 (by omega) ?_ | refine FIdx.nat (by omega) ?_ | refine FIdx.int (by omega) ?_ | refine FTo.nat (by omega) ?_ | refine FTo.int (by omega) ?_) | ((with_reducible refine Need.mk ?_ ?_); focus exact needA) | (with_reducible refine FApp.grow ?_) | (with_reducible refine FOr.pub ?_)))
  (try (conv => whnf))
  refine ⟨⟨.own 0 (m + 1), [rowG (m + 1) l], [0], ?_, Ln.ownE rfl (by omega), rfl, rfl⟩⟩
  exact Cut.of (Nat.le_of_ble_eq_true rfl) rfl rfl (CutL.turned rfl (LnB.rowE (by omega) fun k hk o ho => by simp [appc]) CutL.done)
theorem mute_row {s : Std} {t : Nat} (ht : t < s.n) : ∀ k, k < s.sg.length → ∀ o, o < 3 → cSgn ((mute s t).sg.getD k sg0) o = updR (fun k => cSgn (s.sg.getD k sg0)) t 0 (AI 0) k o := fun k hk o ho => by
  simp only [updR, mute]
  have ht' : t < s.sg.length := ht
  by_cases e : k = t
  · subst e
    have e2 : (s.sg.set k { s.S k with tongues := 0 }).getD k sg0 = { s.S k with tongues := 0 } := by simp [List.getD, ht']
    rw [e2]
    rcases (show o = 0 ∨ o = 1 ∨ o = 2 by omega) with rfl | rfl | rfl
    · rw [if_pos ⟨rfl, rfl⟩]; rfl
    · rw [if_neg (by omega)]; rfl
    · rw [if_neg (by omega)]; rfl
  · have e2 : (s.sg.set t { s.S t with tongues := 0 }).getD k sg0 = s.sg.getD k sg0 := by
      simp only [List.getD]
      rw [List.getElem?_set_ne (fun h => e h.symm)]
    rw [e2, if_neg (fun h => e h.1)]
theorem vital_1 (f : StF) (s : Std) (hn : NearS s) (hk : s.ok = true) (hz : f.zs = false) : ACall Try.prog 27 [aStd f s] [] (fun r h => r = .tup 2 (ofL [outI (vitK s s.n), AI 0]) ∧ h = []) := by
  have hs := std_d hk
  have cC := check_ok f s hn
  rw [check_ok' hk] at cC
  have cU := urgent_ok f s hk
  have n1 : 1 ≤ s.sg.length := hs.n1
  have n4 : s.sg.length ≤ 4 := hs.n4
  have hb0 := (bestW_bd hs).u
  (refine fcall_of mixed Try.func27 rfl (by decide) (hs := { pub := [12] }) ?k (ac := ?ac) ?c (rs := ?rs) ?r ?l ?H; (case k => kernel_rfl); (case c => (conv => (lhs; cbv))); (case r => (conv => (lhs; cbv))); (case l => exact Nat.le_of_ble_eq_true rfl))
  (repeat' ((try (conv => whnf)); first | (with_reducible first | refine FCond.tA ?_ | refine FCond.fA ?_) | ((with_reducible refine FCond.i (fun hq => ?_) (fun hq => ?_)) <;> (try simp only [zA, zE, zD, zJ, zB, zI, Int.not_le, Int.not_lt] at hq)) | (with_reducible first | refine Fits.in64 (by omega) ?_ | refine FIdx.nat (by omega) ?_ | refine FIdx.int (by omega) ?_ | refine FTo.nat (by omega) ?_ | refine FTo.int (by omega) ?_) | ((with_reducible refine Need.mk ?_ ?_); focus exact needA) | (with_reducible refine FApp.grow ?_) | (refine FCall.pure (cC) ⟨Ln.sameB _ rfl, True.intro⟩ rfl ?_) | (refine FCall.pure (cU) ⟨Ln.sameB _ rfl, True.intro⟩ rfl ?_) | (with_reducible refine FOr.pub ?_)))
  all_goals (try (conv => whnf))
  refine FLoop.of (ACalls.mono _) (X := Nat × List Int) (fun x => [(1, .ptr 0 0), (5, .ptr 1 0), (6, AI (bestW s).u), (7, oI 2 x.2), (20, AI s.sg.length), (21, AI x.1)]) (fun x => hI (.box 3 (cStd f s)) (.box 3 (ofL [AI s.times, .bot, aRngs f.zr f.er s.rg])) x.2) (fun x => x.1 ≤ s.sg.length ∧ x.2 = vitK s x.1) (fun x => s.sg.length - x.1) (0, []) ⟨⟨Nat.zero_le _, rfl⟩, [0, 1], Cut.of (Nat.le_of_ble_eq_true rfl) rfl rfl (CutL.turned rfl LnB.A (CutL.turned rfl (LnB.boxN ⟨⟨⟨True.intro, Ln.A⟩, Ln.bot _⟩, Ln.A⟩) CutL.done)), allA⟩ ?_
  rintro ⟨t, l⟩ ⟨ht, hl⟩
  simp only at ht hl
  by_cases hlt : t < s.sg.length
  · have hw := mute_ok hk (show t < s.n from hlt)
    have cW := urgent_ok (muF f) (mute s t) hw
    have hb1 := (bestW_bd (std_d hw)).u
    have hst := vitK_succ s t
    rw [← hl] at hst
    have hll := vitK_len s t
    rw [← hl] at hll
    have hlw : (mute s t).sg.length = s.sg.length := List.length_set
    have cK := cloneG_ok f.zs f.es s.sg ⟨by omega, by omega⟩ hz
    rcases l with _ | ⟨x, xs⟩
    · (repeat' ((try (conv => whnf)); first | (with_reducible first | refine FCond.tA ?_ | refine FCond.fA ?_) | ((with_reducible refine FCond.i (fun hq => ?_) (fun hq => ?_)) <;> (try simp only [zA, zE, zD, zJ, zB, zI, Int.not_le, Int.not_lt] at hq)) | (with_reducible first | refine Fits.in64 (by omega) ?_ | refine FIdx.nat (by omega) ?_ | refine FIdx.int (by omega) ?_ | refine FTo.nat (by omega) ?_ | refine FTo.int (by omega) ?_) | ((with_reducible refine Need.mk ?_ ?_); focus exact needA) | (with_reducible refine FApp.grow ?_) | ((refine FCall.give [] [] (cK) rfl rfl True.intro ⟨Ln.A, True.intro⟩ ?_); rintro _ _ ⟨rfl, rfl⟩; (refine ⟨by first | exact Nat.le_of_ble_eq_true rfl | omega, .inl rfl, ?_⟩)) | (with_reducible refine FOr.pub ?_)))
      all_goals (try (conv => whnf))
      refine FWk.of [(1, .ptr 0 0), (5, .ptr 1 0), (6, AI (bestW s).u), (7, oI 2 []), (8, AI t), (20, AI s.sg.length), (21, AI t)] (hI (.box 3 (cStd f s)) (.box 3 (cStd (muF f) (mute s t))) []) [0, 1] (Cut.of (Nat.le_of_ble_eq_true rfl) rfl rfl (CutL.turned rfl LnB.A (CutL.turned rfl (LnB.boxN ⟨⟨⟨True.intro, Ln.A⟩, Ln.pubE (goneB rfl) rfl (Nat.le_refl _) hlw.symm (mute_row hlt)⟩, Ln.A⟩) CutL.done))) allA ?_
      (repeat' ((try (conv => whnf)); first | (with_reducible first | refine FCond.tA ?_ | refine FCond.fA ?_) | ((with_reducible refine FCond.i (fun hq => ?_) (fun hq => ?_)) <;> (try simp only [zA, zE, zD, zJ, zB, zI, Int.not_le, Int.not_lt] at hq)) | (with_reducible first | refine Fits.in64 (by omega) ?_ | refine FIdx.nat (by omega) ?_ | refine FIdx.int (by omega) ?_ | refine FTo.nat (by omega) ?_ | refine FTo.int (by omega) ?_) | ((with_reducible refine Need.mk ?_ ?_); focus exact needA) | (with_reducible refine FApp.grow ?_) | (refine FCall.pure (cW) ⟨Ln.sameB _ rfl, True.intro⟩ rfl ?_) | (with_reducible refine FOr.pub ?_)))
      all_goals (try (conv => whnf))
      · rw [if_pos (by omega)] at hst
        exact ⟨⟨(t + 1, [(t : Int)]), ⟨hlt, hst.symm⟩, by show _ < _; simp only; omega, [0, 1, 2], Cut.of (Nat.le_of_ble_eq_true rfl) rfl rfl (CutL.turned rfl LnB.A (CutL.turned rfl (LnB.boxN ⟨⟨⟨True.intro, Ln.A⟩, Ln.bot _⟩, Ln.A⟩) (CutL.turned rfl (LnB.app (fun k hk => absurd hk (Nat.not_lt_zero k)) (fun o ho => by obtain rfl : o = 0 := (by omega); rfl)) CutL.done))), ⟨Ln.A, Ln.A, Ln.A, Ln.A, Ln.A, Ln.A, True.intro⟩⟩⟩
      · rw [if_neg (by omega)] at hst
        exact ⟨⟨(t + 1, []), ⟨hlt, hst.symm⟩, by show _ < _; simp only; omega, [0, 1], Cut.of (Nat.le_of_ble_eq_true rfl) rfl rfl (CutL.turned rfl LnB.A (CutL.turned rfl (LnB.boxN ⟨⟨⟨True.intro, Ln.A⟩, Ln.bot _⟩, Ln.A⟩) CutL.done)), allA⟩⟩
    · simp only [List.length_cons] at hll
      (repeat' ((try (conv => whnf)); first | (with_reducible first | refine FCond.tA ?_ | refine FCond.fA ?_) | ((with_reducible refine FCond.i (fun hq => ?_) (fun hq => ?_)) <;> (try simp only [zA, zE, zD, zJ, zB, zI, Int.not_le, Int.not_lt] at hq)) | (with_reducible first | refine Fits.in64 (by omega) ?_ | refine FIdx.nat (by omega) ?_ | refine FIdx.int (by omega) ?_ | refine FTo.nat (by omega) ?_ | refine FTo.int (by omega) ?_) | ((with_reducible refine Need.mk ?_ ?_); focus exact needA) | (with_reducible refine FApp.grow ?_) | ((refine FCall.give [] [] (cK) rfl rfl True.intro ⟨Ln.A, True.intro⟩ ?_); rintro _ _ ⟨rfl, rfl⟩; (refine ⟨by first | exact Nat.le_of_ble_eq_true rfl | omega, .inl rfl, ?_⟩)) | (with_reducible refine FOr.pub ?_)))
      all_goals (try (conv => whnf))
      refine FWk.of [(1, .ptr 0 0), (5, .ptr 1 0), (6, AI (bestW s).u), (7, oI 2 (x :: xs)), (8, AI t), (20, AI s.sg.length), (21, AI t)] (hI (.box 3 (cStd f s)) (.box 3 (cStd (muF f) (mute s t))) (x :: xs)) [0, 1, 2] (Cut.of (Nat.le_of_ble_eq_true rfl) rfl rfl (CutL.turned rfl LnB.A (CutL.turned rfl (LnB.boxN ⟨⟨⟨True.intro, Ln.A⟩, Ln.pubE (goneB rfl) rfl (Nat.le_refl _) hlw.symm (mute_row hlt)⟩, Ln.A⟩) (CutL.turned rfl LnB.A CutL.done)))) allA ?_
      (repeat' ((try (conv => whnf)); first | (with_reducible first | refine FCond.tA ?_ | refine FCond.fA ?_) | ((with_reducible refine FCond.i (fun hq => ?_) (fun hq => ?_)) <;> (try simp only [zA, zE, zD, zJ, zB, zI, Int.not_le, Int.not_lt] at hq)) | (with_reducible first | refine Fits.in64 (by omega) ?_ | refine FIdx.nat (by omega) ?_ | refine FIdx.int (by omega) ?_ | refine FTo.nat (by omega) ?_ | refine FTo.int (by omega) ?_) | ((with_reducible refine Need.mk ?_ ?_); focus exact needA) | (with_reducible refine FApp.grow ?_) | (refine FCall.pure (cW) ⟨Ln.sameB _ rfl, True.intro⟩ rfl ?_) | (with_reducible refine FOr.pub ?_)))
      all_goals (try (conv => whnf))
      · rw [if_pos (by omega)] at hst
        exact ⟨⟨(t + 1, (x :: (xs ++ [(t : Int)]))), ⟨hlt, hst.symm⟩, by show _ < _; simp only; omega, [0, 1, 3], Cut.of (Nat.le_of_ble_eq_true rfl) rfl rfl (CutL.turned rfl LnB.A (CutL.turned rfl (LnB.boxN ⟨⟨⟨True.intro, Ln.A⟩, Ln.bot _⟩, Ln.A⟩) (CutL.turned rfl LnB.snocI CutL.done))), ⟨Ln.A, Ln.A, Ln.A, Ln.ownE rfl (by simp), Ln.A, Ln.A, True.intro⟩⟩⟩
      · rw [if_neg (by omega)] at hst
        exact ⟨⟨(t + 1, (x :: xs)), ⟨hlt, hst.symm⟩, by show _ < _; simp only; omega, [0, 1, 2], Cut.of (Nat.le_of_ble_eq_true rfl) rfl rfl (CutL.turned rfl LnB.A (CutL.turned rfl (LnB.boxN ⟨⟨⟨True.intro, Ln.A⟩, Ln.bot _⟩, Ln.A⟩) (CutL.turned rfl LnB.A CutL.done))), allA⟩⟩
  · obtain rfl : t = s.sg.length := by omega
    rcases l with _ | ⟨x, xs⟩
    · (repeat' ((try (conv => whnf)); first | (with_reducible first | refine FCond.tA ?_ | refine FCond.fA ?_) | ((with_reducible refine FCond.i (fun hq => ?_) (fun hq => ?_)) <;> (try simp only [zA, zE, zD, zJ, zB, zI, Int.not_le, Int.not_lt] at hq)) | (with_reducible first | refine Fits.in64 (by omega) ?_ | refine FIdx.nat (by omega) ?_ | refine FIdx.int (by omega) ?_ | refine FTo.nat (by omega) ?_ | refine FTo.int (by omega) ?_) | ((with_reducible refine Need.mk ?_ ?_); focus exact needA) | (with_reducible refine FApp.grow ?_) | (with_reducible refine FOr.pub ?_)))
      all_goals (try (conv => whnf))
      rw [show vitK s s.n = _ from hl.symm]
      exact ⟨⟨_, [], [], Cut.nil _, allA, rfl, rfl⟩⟩
    · (repeat' ((try (conv => whnf)); first | (with_reducible first | refine FCond.tA ?_ | refine FCond.fA ?_) | ((with_reducible refine FCond.i (fun hq => ?_) (fun hq => ?_)) <;> (try simp only [zA, zE, zD, zJ, zB, zI, Int.not_le, Int.not_lt] at hq)) | (with_reducible first | refine Fits.in64 (by omega) ?_ | refine FIdx.nat (by omega) ?_ | refine FIdx.int (by omega) ?_ | refine FTo.nat (by omega) ?_ | refine FTo.int (by omega) ?_) | ((with_reducible refine Need.mk ?_ ?_); focus exact needA) | (with_reducible refine FApp.grow ?_) | (with_reducible refine FOr.pub ?_)))
      all_goals (try (conv => whnf))
      rw [show vitK s s.n = _ from hl.symm]
      exact ⟨⟨.tup 2 (ofL [outI (x :: xs), AI 0]), [], [], Cut.nil _, Ln.tupN ⟨⟨True.intro, Ln.pubE (goneB rfl) rfl (Nat.le_refl _) rfl (fun _ _ _ _ => rfl)⟩, Ln.A⟩, rfl, rfl⟩⟩
/-- What Free and Vital return. -/
def freeE (s : Std) (g : Int) : List Int × Int := if s.ok then (if 0 ≤ g ∧ g ≤ 4 then (freeK s g s.T, 0) else ([], 1)) else ([], 60)
def vitalE (s : Std) : List Int × Int := if s.ok then (vitK s s.n, 0) else ([], 60)
theorem free_no (f : StF) (s : Std) (hn : NearS s) (g : Int) (h : ¬ (s.ok = true ∧ 0 ≤ g ∧ g ≤ 4)) : ACall Try.prog 21 [aStd f s, AI g] [] (fun r h => r = .tup 2 (ofL [outI (freeE s g).1, AI (freeE s g).2]) ∧ h = []) := by
  have cC := check_ok f s hn
  (refine fcall_of mixed Try.func21 rfl (by decide) (hs := { pub := [13] }) ?k (ac := ?ac) ?c (rs := ?rs) ?r ?l ?H; (case k => kernel_rfl); (case c => (conv => (lhs; cbv))); (case r => (conv => (lhs; cbv))); (case l => exact Nat.le_of_ble_eq_true rfl))
  cases hk : s.ok
  · rw [check_60 hk] at cC
    (repeat' ((try (conv => whnf)); first | (with_reducible first | refine FCond.tA ?_ | refine FCond.fA ?_) | ((with_reducible refine FCond.i (fun hq => ?_) (fun hq => ?_)) <;> (try simp only [zA, zE, zD, zJ, zB, zI, Int.not_le, Int.not_lt] at hq)) | (with_reducible first | refine Fits.in64 (by omega) ?_ | refine FIdx.nat (by omega) ?_ | refine FIdx.int (by omega) ?_ | refine FTo.nat (by omega) ?_ | refine FTo.int (by omega) ?_) | ((with_reducible refine Need.mk ?_ ?_); focus exact needA) | (with_reducible refine FApp.grow ?_) | (refine FCall.pure (cC) ⟨Ln.sameB _ rfl, True.intro⟩ rfl ?_) | (with_reducible refine FOr.pub ?_)))
    all_goals (try (conv => whnf))
    (refine ⟨⟨_, [], [], Cut.nil _, Ln.sameB _ rfl, ?_, rfl⟩⟩)
    unfold freeE; rw [hk]; rfl
  · rw [check_ok' hk] at cC
    have hg : ¬ (0 ≤ g ∧ g ≤ 4) := fun hg => h ⟨hk, hg⟩
    by_cases h0 : g < 0
    · (repeat' ((try (conv => whnf)); first | (with_reducible first | refine FCond.tA ?_ | refine FCond.fA ?_) | ((with_reducible refine FCond.i (fun hq => ?_) (fun hq => ?_)) <;> (try simp only [zA, zE, zD, zJ, zB, zI, Int.not_le, Int.not_lt] at hq)) | (with_reducible first | refine Fits.in64 (by omega) ?_ | refine FIdx.nat (by omega) ?_ | refine FIdx.int (by omega) ?_ | refine FTo.nat (by omega) ?_ | refine FTo.int (by omega) ?_) | ((with_reducible refine Need.mk ?_ ?_); focus exact needA) | (with_reducible refine FApp.grow ?_) | (refine FCall.pure (cC) ⟨Ln.sameB _ rfl, True.intro⟩ rfl ?_) | (with_reducible refine FOr.pub ?_)))
      all_goals (try (conv => whnf))
      (refine ⟨⟨_, [], [], Cut.nil _, Ln.sameB _ rfl, ?_, rfl⟩⟩)
      unfold freeE; rw [hk, if_pos rfl, if_neg hg]; rfl
    · (repeat' ((try (conv => whnf)); first | (with_reducible first | refine FCond.tA ?_ | refine FCond.fA ?_) | ((with_reducible refine FCond.i (fun hq => ?_) (fun hq => ?_)) <;> (try simp only [zA, zE, zD, zJ, zB, zI, Int.not_le, Int.not_lt] at hq)) | (with_reducible first | refine Fits.in64 (by omega) ?_ | refine FIdx.nat (by omega) ?_ | refine FIdx.int (by omega) ?_ | refine FTo.nat (by omega) ?_ | refine FTo.int (by omega) ?_) | ((with_reducible refine Need.mk ?_ ?_); focus exact needA) | (with_reducible refine FApp.grow ?_) | (refine FCall.pure (cC) ⟨Ln.sameB _ rfl, True.intro⟩ rfl ?_) | (with_reducible refine FOr.pub ?_)))
      all_goals (try (conv => whnf))
      (refine ⟨⟨_, [], [], Cut.nil _, Ln.sameB _ rfl, ?_, rfl⟩⟩)
      unfold freeE; rw [hk, if_pos rfl, if_neg hg]; rfl
theorem free_ok (f : StF) (s : Std) (hn : NearS s) (hc : s.ok = true → s.C ≤ 11) (g : Int) : ACall Try.prog 21 [aStd f s, AI g] [] (fun r h => r = .tup 2 (ofL [outI (freeE s g).1, AI (freeE s g).2]) ∧ h = []) := by
  by_cases h : s.ok = true ∧ 0 ≤ g ∧ g ≤ 4
  · have e : freeE s g = (freeK s g s.T, 0) := by unfold freeE; rw [if_pos h.1, if_pos h.2]
    rw [e]
    rcases Nat.eq_zero_or_pos s.rg.length with h0 | h0
    · exact free_1 f s hn h.1 (hc h.1) g h.2 (.inr (List.eq_nil_of_length_eq_zero h0))
    · cases hz : f.zr
      · exact free_1 f s hn h.1 (hc h.1) g h.2 (.inl hz)
      · refine ACall.void (free_1 ⟨f.zs, f.es, false, f.er⟩ s hn h.1 (hc h.1) g h.2 (.inl rfl)) (i := 0) rfl (agg_void (i := 2) (by decide) ?_)
        show ∀ M w g u, ¬ rep M w (aRngs f.zr f.er s.rg) g u
        rw [hz]
        exact sl_void h0
  · exact free_no f s hn g h
theorem vital_no (f : StF) (s : Std) (hn : NearS s) (hk : s.ok = false) : ACall Try.prog 27 [aStd f s] [] (fun r h => r = .tup 2 (ofL [outI (vitalE s).1, AI (vitalE s).2]) ∧ h = []) := by
  have cC := check_ok f s hn
  (refine fcall_of mixed Try.func27 rfl (by decide) (hs := { pub := [12] }) ?k (ac := ?ac) ?c (rs := ?rs) ?r ?l ?H; (case k => kernel_rfl); (case c => (conv => (lhs; cbv))); (case r => (conv => (lhs; cbv))); (case l => exact Nat.le_of_ble_eq_true rfl))
  rw [check_60 hk] at cC
  (repeat' ((try (conv => whnf)); first | (with_reducible first | refine FCond.tA ?_ | refine FCond.fA ?_) | ((with_reducible refine FCond.i (fun hq => ?_) (fun hq => ?_)) <;> (try simp only [zA, zE, zD, zJ, zB, zI, Int.not_le, Int.not_lt] at hq)) | (with_reducible first | refine Fits.in64 (by omega) ?_ | refine FIdx.nat (by omega) ?_ | refine FIdx.int (by omega) ?_ | refine FTo.nat (by omega) ?_ | refine FTo.int (by omega) ?_) | ((with_reducible refine Need.mk ?_ ?_); focus exact needA) | (with_reducible refine FApp.grow ?_) | (refine FCall.pure (cC) ⟨Ln.sameB _ rfl, True.intro⟩ rfl ?_) | (with_reducible refine FOr.pub ?_)))
  all_goals (try (conv => whnf))
  (refine ⟨⟨_, [], [], Cut.nil _, Ln.sameB _ rfl, ?_, rfl⟩⟩)
  unfold vitalE; rw [hk]; rfl
theorem vital_ok (f : StF) (s : Std) (hn : NearS s) : ACall Try.prog 27 [aStd f s] [] (fun r h => r = .tup 2 (ofL [outI (vitalE s).1, AI (vitalE s).2]) ∧ h = []) := by
  cases hk : s.ok
  · exact vital_no f s hn hk
  · have e : vitalE s = (vitK s s.n, 0) := by unfold vitalE; rw [if_pos hk]
    rw [e]
    cases hz : f.zs
    · exact vital_1 f s hn hk hz
    · refine ACall.void (vital_1 ⟨false, f.es, f.zr, f.er⟩ s hn hk rfl) (i := 0) rfl (agg_void (i := 1) (by decide) ?_)
      show ∀ M w g u, ¬ rep M w (aSgns f.zs f.es s.sg) g u
      rw [hz]
      exact sl_void (std_d hk).n1
end Go.Proofs.Ytnghcfmloljagaa

namespace Go.Proofs.Ytnghcfmloljagaa
open Go.RowKit

theorem stepRow_congr {s : Std} {p : Nat × Nat} {b b' : Nat → Stp} (h : ∀ S, S < 2 ^ s.C → b S = b' S) : ∀ c S, S < 2 ^ s.C → stepRow s p b c S = stepRow s p b' c S
  | 0, S, hS => by simp only [stepRow]; rw [h S hS]
  | c + 1, S, hS => by
    simp only [stepRow]
    rw [stepRow_congr h c S hS, h (rem S c) (rem_lt hS)]
/-- The same, each part computed once. -/
def stepX (s : Std) (p : Nat × Nat) (b : List Stp) (S : Nat) : Nat → Stp
  | 0 => { b.getD S default with call := -1 }
  | c + 1 => match stepX s p b S c with
    | x => match canA s p.1 p.2 c, S.testBit c, b.getD (rem S c) default with
      | true, true, ⟨w, _, false⟩ => match x.never || (w.more (s.R c) p.2).lt x.w with
        | true => ⟨w.more (s.R c) p.2, c, false⟩
        | false => x
      | _, _, _ => x
theorem stepX_eq (s : Std) (p : Nat × Nat) (b : List Stp) (S : Nat) : ∀ c, stepX s p b S c = stepRow s p (fun S => b.getD S default) c S
  | 0 => rfl
  | c + 1 => by
    simp only [stepX, stepRow]
    rw [stepX_eq s p b S c]
    cases canA s p.1 p.2 c
    · simp
    · cases S.testBit c
      · simp
      · rcases hb : b.getD (rem S c) default with ⟨w, k, nv⟩
        cases nv
        · simp only [Bool.true_and, Bool.not_false, if_true]
          cases (stepRow s p (fun S => b.getD S default) c S).never || (w.more (s.R c) p.2).lt (stepRow s p (fun S => b.getD S default) c S).w <;> simp
        · simp
def rowsX (s : Std) : Nat → List Stp
  | 0 => (List.range (2 ^ s.C)).map (row s 0)
  | k + 1 => (List.range (2 ^ s.C)).map fun S => stepX s (sp s.T k) (rowsX s k) S s.C
theorem rowsX_get (s : Std) : ∀ k S, S < 2 ^ s.C → (rowsX s k).getD S default = row s k S
  | 0, S, h => by simp [rowsX, List.getD, h]
  | k + 1, S, h => by
    have : (rowsX s (k + 1)).getD S default = stepX s (sp s.T k) (rowsX s k) S s.C := by simp [rowsX, List.getD, h]
    rw [this, stepX_eq]
    exact stepRow_congr (fun S hS => rowsX_get s k S hS) s.C S h
def leftX (s : Std) (S : Nat) : Nat → Wt
  | 0 => w0
  | k + 1 => if S.testBit k then leftX s S k else (leftX s S k).more (s.R k) s.times
theorem leftX_eq (s : Std) (S : Nat) : ∀ k, leftX s S k = leftK s S k
  | 0 => rfl
  | k + 1 => by
    have e : leftK s S (k + 1) = (leftK s S k).add (if S.testBit k then w0 else (s.R k).w s.times) := rfl
    rw [e]
    simp only [leftX]
    rw [leftX_eq s S k]
    cases S.testBit k
    · simp [more_add]
    · simp [add_w0]
/-- The least of a list. -/
def minX : List Wt → Option Wt
  | [] => none
  | w :: l => match minX l with
    | none => some w
    | some v => if w.lt v then some w else some v
theorem minX_mem : ∀ {l : List Wt} {v : Wt}, minX l = some v → v ∈ l ∧ ∀ w, w ∈ l → w.lt v = false
  | [], v, h => by cases h
  | w :: l, v, h => by
    simp only [minX] at h
    cases hl : minX l with
    | none =>
      rw [hl] at h
      injection h with h
      subst h
      have : l = [] := by
        cases l with
        | nil => rfl
        | cons x xs =>
          simp only [minX] at hl
          cases hm : minX xs with
          | none => rw [hm] at hl; cases hl
          | some y =>
            rw [hm] at hl
            simp only at hl
            split at hl <;> cases hl
      subst this
      exact ⟨List.mem_cons_self, fun x hx => by rw [List.mem_singleton.1 hx]; exact lt_self _⟩
    | some u =>
      rw [hl] at h
      obtain ⟨h1, h2⟩ := minX_mem hl
      simp only at h
      cases hw : w.lt u with
      | true =>
        rw [hw, if_pos rfl] at h
        injection h with h
        subst h
        refine ⟨List.mem_cons_self, fun x hx => ?_⟩
        rcases List.mem_cons.1 hx with rfl | hx
        · exact lt_self _
        · exact lt_trans' (h2 x hx) hw
      | false =>
        rw [hw, if_neg (by decide)] at h
        injection h with h
        subst h
        refine ⟨List.mem_cons_of_mem _ h1, fun x hx => ?_⟩
        rcases List.mem_cons.1 hx with rfl | hx
        · exact hw
        · exact h2 x hx
def bestX (s : Std) : Option Wt := match rowsX s (s.n * s.T) with
  | R => minX (((List.range (2 ^ s.C)).filter fun S => !(R.getD S default).never).map fun S => (R.getD S default).w.add (leftX s S s.C))
theorem bestX_eq {s : Std} {v : Wt} (h : bestX s = some v) : bestW s = v := by
  unfold bestX at h
  obtain ⟨h1, h2⟩ := minX_mem h
  obtain ⟨_, b1, b2, b3, b4⟩ := bestAt_eq s
  obtain ⟨S, hS, e⟩ := List.mem_map.1 h1
  simp only [List.mem_filter, List.mem_range, Bool.not_eq_true'] at hS
  rw [rowsX_get s _ S hS.1] at hS e
  rw [leftX_eq] at e
  have a1 := b4 S hS.1 hS.2
  have a2 := h2 (fin' s (bestAt s)) (List.mem_map.2 ⟨bestAt s, by
    simp only [List.mem_filter, List.mem_range, Bool.not_eq_true']
    exact ⟨b1, by rw [rowsX_get s _ _ b1]; exact b2⟩, by rw [rowsX_get s _ _ b1, leftX_eq]; rfl⟩)
  have e' : fin' s S = v := e
  rw [e'] at a1
  rw [← b3] at a2
  rw [nlt_iff] at a1 a2
  exact Wt.ext' (by omega) (by omega)
def exS : Std := ⟨5, [⟨3, 0, 4⟩, ⟨2, 1, 5⟩], [⟨0, 0, false⟩, ⟨1, 0, false⟩, ⟨0, 1, true⟩, ⟨1, 1, true⟩, ⟨1, 1, false⟩]⟩
theorem ex_best : bestW exS = ⟨0, 3⟩ := bestX_eq (by decide +kernel)
theorem al_best (s : Std) {v : Wt} (h : bestX (al s) = some v) : (bestW s).u = v.u := by
  have := bestX_eq h
  rw [best_alone] at this
  rw [← this]
def freeX (s : Std) (g : Int) (t : Nat) : Option Int := (bestX (al (wr s g (t : Int)))).map (·.u)
theorem freeX_eq {s : Std} {g : Int} {t : Nat} {v : Int} (h : freeX s g t = some v) : (bestW (wr s g (t : Int))).u = v := by
  unfold freeX at h
  cases hb : bestX (al (wr s g (t : Int))) with
  | none => rw [hb] at h; cases h
  | some w =>
    rw [hb] at h
    injection h with h
    rw [al_best _ hb]; exact h
theorem ex_free : freeK exS 0 5 = [0, 2, 3] := by
  have h0 := freeX_eq (s := exS) (g := 0) (t := 0) (v := 0) (by decide +kernel)
  have h1 := freeX_eq (s := exS) (g := 0) (t := 1) (v := 1) (by decide +kernel)
  have h2 := freeX_eq (s := exS) (g := 0) (t := 2) (v := 0) (by decide +kernel)
  have h3 := freeX_eq (s := exS) (g := 0) (t := 3) (v := 0) (by decide +kernel)
  have h4 := freeX_eq (s := exS) (g := 0) (t := 4) (v := 1) (by decide +kernel)
  have hb : (bestW exS).u = 0 := by rw [ex_best]
  rw [freeK_succ, freeK_succ, freeK_succ, freeK_succ, freeK_succ, h0, h1, h2, h3, h4, hb]
  rfl
/-- No more than there are spots on duty. -/
theorem cnt_spots {s : Std} {t : Nat} {u : Bool} {S : Nat} {a : Asg} (h : IsM s (upT s t) S a) (l : List (Nat × Nat)) (hl : ∀ p c, p.1 < s.n → p.2 ≤ t → canA s p.1 p.2 c = true → p ∈ l) : cntM s u S ≤ l.length := by
  unfold cntM
  rw [cntB_filter, ← List.length_map (f := fun c => (a c).getD (0, 0))]
  have hg : ∀ c, c ∈ (List.range s.C).filter (fun c => S.testBit c && counts s u c) → ∃ p, a c = some p := fun c hc => by
    simp only [List.mem_filter, List.mem_range, Bool.and_eq_true] at hc
    exact isM_get h hc.1 hc.2.1
  refine pig (nodup_map (List.Nodup.sublist List.filter_sublist List.nodup_range) (fun x hx y hy e => ?_)) (fun p hp => ?_)
  · obtain ⟨p, e1⟩ := hg x hx
    obtain ⟨q, e2⟩ := hg y hy
    rw [e1, e2] at e
    simp only [Option.getD_some] at e
    subst e
    exact h.inj x y p e1 e2
  · obtain ⟨c, hc, rfl⟩ := List.mem_map.1 hp
    obtain ⟨p, e1⟩ := hg c hc
    rw [e1]
    obtain ⟨⟨h1, h2⟩, h3⟩ := h.can c p e1
    exact hl p c h1 h2 h3
theorem ex_most : mostN exS 1 false = 3 := by
  refine mostN_eq ⟨⟨11, fun c => match c with | 0 => some (0, 0) | 1 => some (1, 1) | 3 => some (0, 1) | _ => none, ⟨fun c => ?_, fun c p hp => ?_, fun c c' p h1 h2 => ?_⟩, by decide +kernel⟩, fun S a ha => ?_⟩
  · match c with
    | 0 => decide
    | 1 => decide
    | 2 => decide
    | 3 => decide
    | 4 => decide
    | c + 5 =>
      constructor
      · intro _ hh
        have : c + 5 < 5 := hh.1
        omega
      · intro _; rfl
  · match c, hp with
    | 0, hp => cases hp; exact ⟨⟨by decide, by decide⟩, by decide⟩
    | 1, hp => cases hp; exact ⟨⟨by decide, by decide⟩, by decide⟩
    | 3, hp => cases hp; exact ⟨⟨by decide, by decide⟩, by decide⟩
  · match c, c', h1, h2 with
    | 0, 0, _, _ => rfl
    | 1, 1, _, _ => rfl
    | 3, 3, _, _ => rfl
    | 0, 1, h1, h2 => cases h1; cases h2
    | 0, 3, h1, h2 => cases h1; cases h2
    | 1, 0, h1, h2 => cases h1; cases h2
    | 1, 3, h1, h2 => cases h1; cases h2
    | 3, 0, h1, h2 => cases h1; cases h2
    | 3, 1, h1, h2 => cases h1; cases h2
  · refine cnt_spots ha [(0, 0), (0, 1), (1, 1)] fun p c h1 h2 h3 => ?_
    obtain ⟨i, t⟩ := p
    have h1' : i < 2 := h1
    have h2' : t ≤ 1 := h2
    rcases (show i = 0 ∨ i = 1 by omega) with rfl | rfl <;> rcases (show t = 0 ∨ t = 1 by omega) with rfl | rfl
    · simp
    · simp
    · exact absurd (canA_d h3).1 (by decide)
    · simp
end Go.Proofs.Ytnghcfmloljagaa

namespace Go.Proofs.Ytnghcfmloljagaa
open Go.RowKit

theorem same_step {a b : List Int} {i : Nat} (hl : a.length = b.length) (hi : i < a.length) (h : a.take i = b.take i) (e : a.getD i 0 = b.getD i 0) : a.take (i + 1) = b.take (i + 1) := by
  have hb : i < b.length := by omega
  rw [List.take_add_one, List.take_add_one, h]
  simp only [List.getD, List.getElem?_eq_getElem hi, List.getElem?_eq_getElem hb, Option.getD_some] at e
  rw [List.getElem?_eq_getElem hi, List.getElem?_eq_getElem hb, e]
theorem Ln.out {σ : Nat → Nat → Prop} {Bp : Nat → Prop} {H : List AB} (l : List Int) : Ln σ Bp H (outI l) (aInts l.isEmpty l.isEmpty l) := by
  cases l with
  | nil => exact Ln.slz _ _ _ _ _ _ _ (fun h => h)
  | cons x xs => exact Ln.sameB _ rfl
theorem Ln.lits {σ : Nat → Nat → Prop} {Bp : Nat → Prop} {H : List AB} {c : Nat → Nat → AV} {n : Nat} {l : List Int} (hn : n = l.length) (h : ∀ k, k < n → c k 0 = AI (l.getD k 0)) : Ln σ Bp H (.sl false true n 1 c) (aInts false true l) := by
  subst hn
  exact Ln.sl _ _ _ _ _ _ _ (fun h => h) fun k hk o ho => by
    obtain rfl : o = 0 := by omega
    exact (h k hk).symm
theorem k2 {p : Nat → Prop} (h0 : p 0) (h1 : p 1) : ∀ k, k < 2 → p k := fun k hk => by
  rcases (show k = 0 ∨ k = 1 by omega) with rfl | rfl
  · exact h0
  · exact h1
theorem k3 {p : Nat → Prop} (h0 : p 0) (h1 : p 1) (h2 : p 2) : ∀ k, k < 3 → p k := fun k hk => by
  rcases (show k = 0 ∨ k = 1 ∨ k = 2 by omega) with rfl | rfl | rfl
  · exact h0
  · exact h1
  · exact h2
theorem k5 {p : Nat → Prop} (h0 : p 0) (h1 : p 1) (h2 : p 2) (h3 : p 3) (h4 : p 4) : ∀ k, k < 5 → p k := fun k hk => by
  rcases (show k = 0 ∨ k = 1 ∨ k = 2 ∨ k = 3 ∨ k = 4 by omega) with rfl | rfl | rfl | rfl | rfl
  · exact h0
  · exact h1
  · exact h2
  · exact h3
  · exact h4
set_option maxHeartbeats 4000000
set_option maxRecDepth 100000
theorem sameInts_ok (z e z2 e2 : Bool) (a b : List Int) (h1 : a.length ≤ 1000000) : ACall Try.prog 30 [aInts z e a, aInts z2 e2 b] [] (fun r h => r = .bool (decide (a = b)) ∧ h = []) := by
  (refine fcall_of mixed Try.func30 rfl (by decide) (hs := {}) ?k (ac := ?ac) ?c (rs := ?rs) ?r ?l ?H; (case k => kernel_rfl); (case c => (conv => (lhs; cbv))); (case r => (conv => (lhs; cbv))); (case l => exact Nat.le_of_ble_eq_true rfl))
  (repeat' ((try (conv => whnf)); first | (with_reducible first | refine FCond.tA ?_ | refine FCond.fA ?_) | ((with_reducible refine FCond.i (fun hq => ?_) (fun hq => ?_)) <;> (try simp only [zA, zE, zD, zJ, zB, zI, Int.not_le, Int.not_lt] at hq)) | (with_reducible first | refine Fits.in64 (by omega) ?_ | refine FIdx.nat (by omega) ?_ | refine FIdx.int (by omega) ?_ | refine FTo.nat (by omega) ?_ | refine FTo.int (by omega) ?_) | ((with_reducible refine Need.mk ?_ ?_); focus exact needA) | (with_reducible refine FApp.grow ?_) | (with_reducible refine FOr.pub ?_)))
  all_goals (try (conv => whnf))
  · (refine ⟨⟨_, [], [], Cut.nil _, Ln.sameB _ rfl, ?_, rfl⟩⟩)
    rw [decide_eq_false fun h => hq (by rw [h])]
  · have hl : a.length = b.length := by omega
    refine FLoop.of (ACalls.mono _) (X := Nat) (fun i => [(0, aInts z e a), (1, aInts z2 e2 b), (5, AI i)]) (fun _ => []) (fun i => i ≤ a.length ∧ a.take i = b.take i) (fun i => a.length - i) 0 ⟨⟨by omega, rfl⟩, [], Cut.A, allA⟩ ?_
    rintro i ⟨hi, hL⟩
    by_cases hlt : i < a.length
    · (repeat' ((try (conv => whnf)); first | (with_reducible first | refine FCond.tA ?_ | refine FCond.fA ?_) | ((with_reducible refine FCond.i (fun hq => ?_) (fun hq => ?_)) <;> (try simp only [zA, zE, zD, zJ, zB, zI, Int.not_le, Int.not_lt] at hq)) | (with_reducible first | refine Fits.in64 (by omega) ?_ | refine FIdx.nat (by omega) ?_ | refine FIdx.int (by omega) ?_ | refine FTo.nat (by omega) ?_ | refine FTo.int (by omega) ?_) | ((with_reducible refine Need.mk ?_ ?_); focus exact needA) | (with_reducible refine FApp.grow ?_) | (with_reducible refine FOr.pub ?_)))
      all_goals (try (conv => whnf))
      · (refine ⟨⟨_, [], [], Cut.nil _, Ln.sameB _ rfl, ?_, rfl⟩⟩)
        rw [decide_eq_false fun h => hq (by rw [h])]
      · (exact ⟨⟨(i + 1), ⟨by omega, same_step hl hlt hL hq⟩, by show _ < _; omega, [], Cut.A, allA⟩⟩)
    · (repeat' ((try (conv => whnf)); first | (with_reducible first | refine FCond.tA ?_ | refine FCond.fA ?_) | ((with_reducible refine FCond.i (fun hq => ?_) (fun hq => ?_)) <;> (try simp only [zA, zE, zD, zJ, zB, zI, Int.not_le, Int.not_lt] at hq)) | (with_reducible first | refine Fits.in64 (by omega) ?_ | refine FIdx.nat (by omega) ?_ | refine FIdx.int (by omega) ?_ | refine FTo.nat (by omega) ?_ | refine FTo.int (by omega) ?_) | ((with_reducible refine Need.mk ?_ ?_); focus exact needA) | (with_reducible refine FApp.grow ?_) | (with_reducible refine FOr.pub ?_)))
      all_goals (try (conv => whnf))
      (refine ⟨⟨_, [], [], Cut.nil _, Ln.sameB _ rfl, ?_, rfl⟩⟩)
      rw [List.take_of_length_le (by omega), List.take_of_length_le (by omega)] at hL
      rw [decide_eq_true hL]
def exF : StF := ⟨false, true, false, true⟩
theorem example_ok : ACall Try.prog 39 [] [] (fun r h' => r = aStd exF exS ∧ h' = []) := by
  (refine fcall_of mixed Try.func39 rfl (by decide) (hs := {}) ?k (ac := ?ac) ?c (rs := ?rs) ?r ?l ?H; (case k => kernel_rfl); (case c => (conv => (lhs; cbv))); (case r => (conv => (lhs; cbv))); (case l => exact Nat.le_of_ble_eq_true rfl))
  (repeat' ((try (conv => whnf)); first | (with_reducible first | refine FCond.tA ?_ | refine FCond.fA ?_) | ((with_reducible refine FCond.i (fun hq => ?_) (fun hq => ?_)) <;> (try simp only [zA, zE, zD, zJ, zB, zI, Int.not_le, Int.not_lt] at hq)) | (with_reducible first | refine Fits.in64 (by omega) ?_ | refine FIdx.nat (by omega) ?_ | refine FIdx.int (by omega) ?_ | refine FTo.nat (by omega) ?_ | refine FTo.int (by omega) ?_) | ((with_reducible refine Need.mk ?_ ?_); focus exact needA) | (with_reducible refine FApp.grow ?_) | (with_reducible refine FOr.pub ?_)))
  all_goals (try (conv => whnf))
  refine ⟨⟨aStd exF exS, [], [], Cut.nil _, Ln.aggN ⟨⟨⟨True.intro, Ln.A⟩, Ln.sl _ _ _ _ _ _ _ (fun h => h) ?sg⟩, Ln.sl _ _ _ _ _ _ _ (fun h => h) ?rg⟩, rfl, rfl⟩⟩
  case sg => exact k2 (k3 rfl rfl rfl) (k3 rfl rfl rfl)
  case rg => exact k5 (k3 rfl rfl rfl) (k3 rfl rfl rfl) (k3 rfl rfl rfl) (k3 rfl rfl rfl) (k3 rfl rfl rfl)
theorem ex_near : NearS exS := ⟨by decide, by decide⟩
theorem ex_planC : ACall Try.prog 16 [aStd exF exS] [] (fun r h => r = .tup 4 (ofL [aAns false false (bestL exS), AI 0, AI 3, AI 0]) ∧ h = []) := by
  have := plan_yes exF exS ex_near (by decide)
  rwa [ex_best] at this
theorem ex_mostC : ACall Try.prog 19 [aStd exF exS, AI 1, .bool false] [] (fun r h => r = .tup 2 (ofL [AI 3, AI 0]) ∧ h = []) := by
  have := most_yes exF exS ex_near (by decide) 1 (by decide) false
  rwa [ex_most] at this
theorem ex_freeC : ACall Try.prog 21 [aStd exF exS, AI 0] [] (fun r h => r = .tup 2 (ofL [outI [0, 2, 3], AI 0]) ∧ h = []) := by
  have := free_1 exF exS ex_near (by decide) (by decide) 0 (by decide) (.inl rfl)
  rwa [show exS.T = 5 from rfl, ex_free] at this
theorem ex_right : ACall Try.prog 23 [aStd exF exS, aAns false false (bestL exS)] [] (fun r h => r = .bool true ∧ h = []) := by
  have h := bestL_right exS
  have := areRight_ok exF exS (std_d (by decide)) false false (bestL exS) (by rw [h.len]; decide)
  rwa [right_d.2 h] at this
theorem ex_same : ACall Try.prog 30 [aInts false false [0, 2, 3], aInts false true [0, 2, 3]] [] (fun r h => r = .bool true ∧ h = []) := sameInts_ok false false false true [0, 2, 3] [0, 2, 3] (by decide)
theorem works_ok : ACall Try.prog 14 [] [] (fun r h' => r = .bool true ∧ h' = []) := by
  (refine fcall_of mixed Try.func14 rfl (by decide) (hs := {}) ?k (ac := ?ac) ?c (rs := ?rs) ?r ?l ?H; (case k => kernel_rfl); (case c => (conv => (lhs; cbv))); (case r => (conv => (lhs; cbv))); (case l => exact Nat.le_of_ble_eq_true rfl))
  (repeat' ((try (conv => whnf)); first | (with_reducible first | refine FCond.tA ?_ | refine FCond.fA ?_) | ((with_reducible refine FCond.i (fun hq => ?_) (fun hq => ?_)) <;> (try simp only [zA, zE, zD, zJ, zB, zI, Int.not_le, Int.not_lt] at hq)) | (with_reducible first | refine Fits.in64 (by omega) ?_ | refine FIdx.nat (by omega) ?_ | refine FIdx.int (by omega) ?_ | refine FTo.nat (by omega) ?_ | refine FTo.int (by omega) ?_) | ((with_reducible refine Need.mk ?_ ?_); focus exact needA) | (with_reducible refine FApp.grow ?_) | (refine FCall.pure example_ok True.intro rfl ?_) | (refine FCall.pure (ex_planC) ⟨Ln.sameB _ rfl, True.intro⟩ rfl ?_) | (refine FCall.pure (ex_mostC) ⟨Ln.sameB _ rfl, Ln.sameB _ rfl, Ln.sameB _ rfl, True.intro⟩ rfl ?_) | (refine FCall.pure (ex_freeC) ⟨Ln.sameB _ rfl, Ln.sameB _ rfl, True.intro⟩ rfl ?_) | (refine FCall.pure (ex_right) ⟨Ln.sameB _ rfl, Ln.sameB _ rfl, True.intro⟩ rfl ?_) | (refine FCall.pure ex_same ⟨Ln.sameB _ rfl, Ln.lits rfl (k3 rfl rfl rfl), True.intro⟩ rfl ?_) | (with_reducible refine FOr.pub ?_)))
  all_goals (try (conv => whnf))
  all_goals (refine ⟨⟨_, [], [], Cut.nil _, Ln.sameB _ rfl, ?_, rfl⟩⟩)
  all_goals rfl
end Go.Proofs.Ytnghcfmloljagaa

namespace Go.Proofs.Ytnghcfmloljagaa
open Go.RowKit

theorem bestL_in64 {s : Std} (hs : StdOk s) : ∀ c, c < (bestL s).length → in64 ((bestL s).getD c na).t ∧ in64 ((bestL s).getD c na).g := fun c hc => by
  have h := bestL_right s
  have t8 := hs.t8
  have tt := hs.t
  have n4 := hs.n4
  rcases h.ok c (by rw [← h.len]; exact hc) with e | ⟨h1, h2, _⟩
  · rw [e]
    have h1 : na.t = -1 := rfl
    have h2 : na.g = -1 := rfl
    unfold in64; omega
  · have := can_time hs (by omega) h2
    unfold in64; omega
theorem waitsV_best {s : Std} (hk : s.ok = true) : waitsV s (bestL s) = .tup 3 (ofL [AI (bestW s).u, AI (bestW s).o, AI 0]) := by
  unfold waitsV
  rw [waits_0 hk (right_d.2 (bestL_right s)), bestL_wait (std_d hk)]
theorem bestL_len {s : Std} (hs : StdOk s) : (bestL s).length ≤ 1000 := by rw [(bestL_right s).len]; have := hs.c12; omega
theorem valid_d {s : Std} (h : validS s = true) : farS s = false ∧ s.ok = true := by
  unfold validS at h
  simp only [Bool.and_eq_true, Bool.not_eq_true'] at h
  exact h
/-- Lengths that a machine has. -/
structure Mach (s : Std) : Prop where
  n : s.sg.length ≤ 9223372036854775807
  c : s.rg.length ≤ 9223372036854775807
set_option maxHeartbeats 8000000
set_option maxRecDepth 100000
theorem least_any (f : StF) (s : Std) (hM : Mach s) (z : Bool) (l : List Anr) (hl : l.length ≤ 9223372036854775807) (hb : ∀ c, c < l.length → in64 (l.getD c na).t ∧ in64 (l.getD c na).g) : ACall Try.prog 9 [aStd f s, aAns z false l] [] (fun v h => v = .bool true ∧ h = []) := by
  have cV := valid_ok f s hM.n hM.c
  (refine fcall_of mixed Try.func9 rfl (by decide) (hs := {}) ?k (ac := ?ac) ?c (rs := ?rs) ?r ?l ?H; (case k => kernel_rfl); (case c => (conv => (lhs; cbv))); (case r => (conv => (lhs; cbv))); (case l => exact Nat.le_of_ble_eq_true rfl))
  by_cases hv : validS s = true ∧ l.length ≤ 30
  · obtain ⟨hv, h30⟩ := hv
    obtain ⟨hf, hk⟩ := valid_d hv
    have hn := near_of hf
    have hs := std_d hk
    rw [hv] at cV
    have cP := plan_yes f s hn hk
    have cW := waits_ok f s hn false false (bestL s) (bestL_len hs) (bestL_in64 hs)
    rw [waitsV_best hk] at cW
    have cA := areRight_ok f s hs false false (bestL s) (bestL_len hs)
    rw [right_d.2 (bestL_right s)] at cA
    have cR := areRight_ok f s hs z false l (by omega)
    cases hr : rightL s l
    · rw [hr] at cR
      (repeat' ((try (conv => whnf)); first | (with_reducible first | refine FCond.tA ?_ | refine FCond.fA ?_) | ((with_reducible refine FCond.i (fun hq => ?_) (fun hq => ?_)) <;> (try simp only [zA, zE, zD, zJ, zB, zI, Int.not_le, Int.not_lt] at hq)) | (with_reducible first | refine Fits.in64 (by omega) ?_ | refine FIdx.nat (by omega) ?_ | refine FIdx.int (by omega) ?_ | refine FTo.nat (by omega) ?_ | refine FTo.int (by omega) ?_) | ((with_reducible refine Need.mk ?_ ?_); focus exact needA) | (with_reducible refine FApp.grow ?_) | (refine FCall.pure (cV) ⟨Ln.sameB _ rfl, True.intro⟩ rfl ?_) | (refine FCall.pure (cP) ⟨Ln.sameB _ rfl, True.intro⟩ rfl ?_) | (refine FCall.pure (cW) ⟨Ln.sameB _ rfl, Ln.sameB _ rfl, True.intro⟩ rfl ?_) | (refine FCall.pure (cA) ⟨Ln.sameB _ rfl, Ln.sameB _ rfl, True.intro⟩ rfl ?_) | (refine FCall.pure (cR) ⟨Ln.sameB _ rfl, Ln.sameB _ rfl, True.intro⟩ rfl ?_) | (refine FCall.pure works_ok True.intro rfl ?_) | (with_reducible refine FOr.pub ?_)))
      all_goals (try (conv => whnf))
      all_goals ((refine ⟨⟨_, [], [], Cut.nil _, Ln.sameB _ rfl, ?_, rfl⟩⟩); rfl)
    · rw [hr] at cR
      have cX := waits_ok f s hn z false l (by omega) hb
      unfold waitsV at cX
      rw [waits_0 hk hr] at cX
      have cM := isMore_ok (bestW s).u (bestW s).o (waitL s l).u (waitL s l).o
      have hle := bestL_least hs (right_d.1 hr)
      rw [show (Wt.mk (waitL s l).u (waitL s l).o).lt ⟨(bestW s).u, (bestW s).o⟩ = false from hle] at cM
      (repeat' ((try (conv => whnf)); first | (with_reducible first | refine FCond.tA ?_ | refine FCond.fA ?_) | ((with_reducible refine FCond.i (fun hq => ?_) (fun hq => ?_)) <;> (try simp only [zA, zE, zD, zJ, zB, zI, Int.not_le, Int.not_lt] at hq)) | (with_reducible first | refine Fits.in64 (by omega) ?_ | refine FIdx.nat (by omega) ?_ | refine FIdx.int (by omega) ?_ | refine FTo.nat (by omega) ?_ | refine FTo.int (by omega) ?_) | ((with_reducible refine Need.mk ?_ ?_); focus exact needA) | (with_reducible refine FApp.grow ?_) | (refine FCall.pure (cV) ⟨Ln.sameB _ rfl, True.intro⟩ rfl ?_) | (refine FCall.pure (cP) ⟨Ln.sameB _ rfl, True.intro⟩ rfl ?_) | (refine FCall.pure (cW) ⟨Ln.sameB _ rfl, Ln.sameB _ rfl, True.intro⟩ rfl ?_) | (refine FCall.pure (cA) ⟨Ln.sameB _ rfl, Ln.sameB _ rfl, True.intro⟩ rfl ?_) | (refine FCall.pure (cR) ⟨Ln.sameB _ rfl, Ln.sameB _ rfl, True.intro⟩ rfl ?_) | (refine FCall.pure (cX) ⟨Ln.sameB _ rfl, Ln.sameB _ rfl, True.intro⟩ rfl ?_) | (refine FCall.pure (cM) ⟨Ln.sameB _ rfl, Ln.sameB _ rfl, Ln.sameB _ rfl, Ln.sameB _ rfl, True.intro⟩ rfl ?_) | (refine FCall.pure works_ok True.intro rfl ?_) | (with_reducible refine FOr.pub ?_)))
      all_goals (try (conv => whnf))
      all_goals ((refine ⟨⟨_, [], [], Cut.nil _, Ln.sameB _ rfl, ?_, rfl⟩⟩); rfl)
  · cases hv2 : validS s
    · rw [hv2] at cV
      (repeat' ((try (conv => whnf)); first | (with_reducible first | refine FCond.tA ?_ | refine FCond.fA ?_) | ((with_reducible refine FCond.i (fun hq => ?_) (fun hq => ?_)) <;> (try simp only [zA, zE, zD, zJ, zB, zI, Int.not_le, Int.not_lt] at hq)) | (with_reducible first | refine Fits.in64 (by omega) ?_ | refine FIdx.nat (by omega) ?_ | refine FIdx.int (by omega) ?_ | refine FTo.nat (by omega) ?_ | refine FTo.int (by omega) ?_) | ((with_reducible refine Need.mk ?_ ?_); focus exact needA) | (with_reducible refine FApp.grow ?_) | (refine FCall.pure (cV) ⟨Ln.sameB _ rfl, True.intro⟩ rfl ?_) | (refine FCall.pure works_ok True.intro rfl ?_) | (with_reducible refine FOr.pub ?_)))
      all_goals (try (conv => whnf))
      all_goals ((refine ⟨⟨_, [], [], Cut.nil _, Ln.sameB _ rfl, ?_, rfl⟩⟩); rfl)
    · rw [hv2] at cV
      have : ¬ l.length ≤ 30 := fun h => hv ⟨hv2, h⟩
      (repeat' ((try (conv => whnf)); first | (with_reducible first | refine FCond.tA ?_ | refine FCond.fA ?_) | ((with_reducible refine FCond.i (fun hq => ?_) (fun hq => ?_)) <;> (try simp only [zA, zE, zD, zJ, zB, zI, Int.not_le, Int.not_lt] at hq)) | (with_reducible first | refine Fits.in64 (by omega) ?_ | refine FIdx.nat (by omega) ?_ | refine FIdx.int (by omega) ?_ | refine FTo.nat (by omega) ?_ | refine FTo.int (by omega) ?_) | ((with_reducible refine Need.mk ?_ ?_); focus exact needA) | (with_reducible refine FApp.grow ?_) | (refine FCall.pure (cV) ⟨Ln.sameB _ rfl, True.intro⟩ rfl ?_) | (refine FCall.pure works_ok True.intro rfl ?_) | (with_reducible refine FOr.pub ?_)))
      all_goals (try (conv => whnf))
      all_goals ((refine ⟨⟨_, [], [], Cut.nil _, Ln.sameB _ rfl, ?_, rfl⟩⟩); rfl)
end Go.Proofs.Ytnghcfmloljagaa

namespace Go.Proofs.Ytnghcfmloljagaa
open Go.RowKit

theorem block_of_add (a : Addr) (n : Nat) : (a.add n).block = a.block := by unfold Addr.add; split <;> rfl
theorem add_of_add (a : Addr) (i j : Nat) : (a.add i).add j = a.add (i + j) := by
  unfold Addr.add
  by_cases hi : i = 0 <;> by_cases hj : j = 0 <;> simp [hi, hj, Nat.add_assoc]

/-- w' has all that w has, unchanged. -/
abbrev Ext (w w' : World) : Prop := Below w.heap.size w w'

theorem Ext.refl (w : World) : Ext w w := Below.refl _ w
theorem Ext.trans {a b c : World} (h : Ext a b) (k : Ext b c) : Ext a c := Below.trans h (k.mono h.size)
theorem Ext.of_alloc (w : World) (o : Obj) : Ext w (w.alloc o) := (Below.refl _ w).alloc (Nat.le_refl _) o
theorem Ext.alloc {a w : World} (h : Ext a w) (o : Obj) : Ext a (w.alloc o) := Below.alloc h h.size o
theorem Ext.drew {a w : World} (h : Ext a w) : Ext a w.drew := Below.drew h
theorem Ext.drewN {a w : World} (h : Ext a w) (n : Nat) : Ext a (w.drewN n) := ⟨h.os, h.tape, h.output, h.size, h.block⟩
theorem Ext.cellOf {w w' : World} (h : Ext w w') {p : Addr} (hp : p.block < w.heap.size) : w'.cell? p = w.cell? p := Below.cell h hp

/-- The n elements (size cells each) of a slice at A are the cells xs. -/
def Sl (w : World) (size : Nat) (A : Option Addr) (n : Nat) (xs : List Value) : Prop :=
  xs.length = n * size ∧ (0 < n → ∃ b off, A = some ⟨b, off, none⟩ ∧ b < w.heap.size ∧ ∀ (j : Nat) (u : Value), xs[j]? = some u → w.cell? ⟨b, off + j, none⟩ = some u)

theorem Sl.ext {w w' : World} {size n : Nat} {A : Option Addr} {xs : List Value} (h : Sl w size A n xs) (e : Ext w w') : Sl w' size A n xs :=
  ⟨h.1, fun hn => by
    obtain ⟨b, off, hA, hb, hc⟩ := h.2 hn
    exact ⟨b, off, hA, Nat.lt_of_lt_of_le hb e.size, fun j u hu => (e.cellOf (p := ⟨b, off + j, none⟩) hb).trans (hc j u hu)⟩⟩
theorem Sl.nil (w : World) (size : Nat) (A : Option Addr) : Sl w size A 0 [] := ⟨by simp, fun h => absurd h (by omega)⟩
theorem own_lt {w : World} {g : Nat} {o : Obj} (hh : w.heap[g]? = some o) : g < w.heap.size := by
  rcases Nat.lt_or_ge g w.heap.size with hlt | hge
  · exact hlt
  · rw [Array.getElem?_eq_none hge] at hh; cases hh
theorem Sl.of_own {w : World} {base size n c : Nat} {e : TypeId} {A : Option Addr} {xs : List Value} (h : w.ownsRow base e size (.slice A n c) n xs) : Sl w size A n xs := by
  refine ⟨h.1, fun hn => ?_⟩
  rcases h.2 with ⟨hv, hx⟩ | ⟨g, cap, cur, hv, hb, hh, _⟩
  · injection hv with hA hn'
    omega
  · injection hv with hA
    subst hA
    refine ⟨g, 0, rfl, own_lt hh, fun j u hu => ?_⟩
    have h1 := h.cells (g := g) rfl j u hu
    unfold Addr.add at h1
    split at h1
    · rename_i h0; subst h0; exact h1
    · simpa using h1
theorem Sl.at {w : World} {size n : Nat} {A : Option Addr} {xs : List Value} (h : Sl w size A n xs) {k : Nat} (hk : k < n) :
    ∃ b off, A = some ⟨b, off, none⟩ ∧ b < w.heap.size ∧ ∀ i, i < size → ∃ u, xs[k * size + i]? = some u ∧ w.cell? ⟨b, off + (k * size + i), none⟩ = some u := by
  obtain ⟨b, off, hA, hb, hc⟩ := h.2 (by omega)
  refine ⟨b, off, hA, hb, fun i hi => ?_⟩
  have hlt : k * size + i < xs.length := by
    rw [h.1]
    have : (k + 1) * size ≤ n * size := Nat.mul_le_mul_right _ hk
    rw [Nat.add_mul] at this
    omega
  exact ⟨xs[k * size + i], List.getElem?_eq_getElem hlt, hc _ _ (List.getElem?_eq_getElem hlt)⟩

/-- A slice of ints. -/
def Ints (w : World) (A : Option Addr) (l : List Int) : Prop :=
  ∀ k, k < l.length → ∃ b off, A = some ⟨b, off, none⟩ ∧ b < w.heap.size ∧ w.cell? ⟨b, off + k, none⟩ = some (.int .i64 (l.getD k 0))
theorem Ints.ext {w w' : World} {A : Option Addr} {l : List Int} (h : Ints w A l) (e : Ext w w') : Ints w' A l := fun k hk => by
  obtain ⟨b, off, hA, hb, hc⟩ := h k hk
  exact ⟨b, off, hA, Nat.lt_of_lt_of_le hb e.size, (e.cellOf (p := ⟨b, off + k, none⟩) hb).trans hc⟩
theorem Ints.of_own {w : World} {base n c : Nat} {e : TypeId} {A : Option Addr} {l : List Int} (h : w.ownsRow base e 1 (.slice A n c) n (l.map (.int .i64))) : n = l.length ∧ Ints w A l := by
  have hl : n = l.length := by have := h.1; simp at this; omega
  refine ⟨hl, fun k hk => ?_⟩
  obtain ⟨b, off, hA, hb, hc⟩ := (Sl.of_own h).at (k := k) (by omega)
  obtain ⟨u, hu, hcu⟩ := hc 0 (by omega)
  refine ⟨b, off, hA, hb, ?_⟩
  simp at hu hcu
  obtain ⟨a, ha, rfl⟩ := hu
  rw [hcu]
  simp [List.getD, ha]

theorem Ints.get {w : World} {A : Option Addr} {l : List Int} (h : Ints w A l) {k : Nat} (hk : k < l.length) :
    ∃ b off x, A = some ⟨b, off, none⟩ ∧ b < w.heap.size ∧ w.cell? ⟨b, off + k, none⟩ = some (.int .i64 x) ∧ Hid (l.getD k 0 = x) := by
  obtain ⟨b, off, h1, h2, h3⟩ := h k hk
  exact ⟨b, off, _, h1, h2, h3, rfl⟩

theorem Ext.unalloc {w wr : World} {o : Obj} (h : Ext (w.alloc o) wr) : Ext w wr := (Ext.of_alloc w o).trans h
theorem Ext.box {w wr : World} {cs : Array Value} {T : TypeId} (h : Ext (w.alloc (.cells cs T)) wr) (i : Nat) : wr.cell? ⟨w.heap.size, i, none⟩ = cs[i]? := by
  rw [h.cellOf (by simp), World.cell?_alloc_at _ _ _ _ rfl]
theorem Ext.boxFree {w wr : World} {cs : Array Value} {T : TypeId} (h : Ext (w.alloc (.cells cs T)) wr) (i : Nat) : wr.frozen? ⟨w.heap.size, i, none⟩ = false := by
  rw [Below.frozen h (by simp), World.frozen?_alloc_at _ _ _ _ rfl]
theorem Ext.lt {w wr : World} {o : Obj} (h : Ext (w.alloc o) wr) : w.heap.size < wr.heap.size := by have := h.size; simp at this; omega
theorem Ext.le {w wr : World} (h : Ext w wr) : w.heap.size ≤ wr.heap.size := h.size

theorem Ext.grown {w w' : World} (h : Ext w w') (row : Option Nat) : w.grownBy w' row := ⟨h.os, h.tape, h.output, h.size, fun i hi _ => h.block i hi⟩
theorem Ext.of_grown {w w' : World} (h : w.grownBy w' none) : Ext w w' := ⟨h.os, h.tape, h.output, h.size, fun i hi => h.block i hi (by simp)⟩

/-- Block g is just the cells cs of element type t, none frozen. -/
def Blk (w : World) (g : Nat) (t : TypeId) (cs : Array Value) : Prop := w.heap[g]? = some (.cells cs t (0, 0))
theorem Blk.lt {w : World} {g : Nat} {t : TypeId} {cs : Array Value} (h : Blk w g t cs) : g < w.heap.size := own_lt h
theorem Blk.cell {w : World} {g : Nat} {t : TypeId} {cs : Array Value} (h : Blk w g t cs) (i : Nat) : w.cell? ⟨g, i, none⟩ = cs[i]? := by
  unfold Blk at h; simp [World.cell?, h]
theorem Blk.free {w : World} {g : Nat} {t : TypeId} {cs : Array Value} (h : Blk w g t cs) (i : Nat) : w.frozen? ⟨g, i, none⟩ = false := by
  unfold Blk at h; simp [World.frozen?, h]
theorem Blk.new (w : World) (t : TypeId) (cs : Array Value) : Blk (w.alloc (.cells cs t)) w.heap.size t cs := heap_alloc_new w _
theorem Blk.ext {w w' : World} {g : Nat} {t : TypeId} {cs : Array Value} (h : Blk w g t cs) (e : Ext w w') : Blk w' g t cs := (e.block g h.lt).trans h
theorem Blk.alloc {w : World} {g : Nat} {t : TypeId} {cs : Array Value} (h : Blk w g t cs) (o : Obj) : Blk (w.alloc o) g t cs := h.ext (Ext.of_alloc _ _)
theorem Blk.set {w : World} {g : Nat} {t : TypeId} {cs : Array Value} (h : Blk w g t cs) (i : Nat) (u : Value) : Blk (w.setCell ⟨g, i, none⟩ u) g t (cs.setIfInBounds i u) := by
  unfold Blk at h ⊢
  simp [World.setCell, Array.getElem?_modify, h]
theorem Blk.far {w : World} {g : Nat} {t : TypeId} {cs : Array Value} (h : Blk w g t cs) {p : Addr} (hp : g ≠ p.block) (u : Value) : Blk (w.setCell p u) g t cs := (Below.heap_setCell w p u g hp).trans h
theorem Blk.grown {w w' : World} {g : Nat} {t : TypeId} {cs : Array Value} {row : Option Nat} (h : Blk w g t cs) (hb : w.grownBy w' row) (hg : some g ≠ row) : Blk w' g t cs := (hb.block g h.lt hg).trans h
theorem Blk.ne {w : World} {g g' : Nat} {t t' : TypeId} {cs cs' : Array Value} (h : Blk w g t cs) (h' : Blk w g' t' cs') (hne : t ≠ t') : g ≠ g' := by
  rintro rfl
  unfold Blk at h h'
  rw [h] at h'
  injection h' with h'
  injection h' with _ ht
  exact hne ht
theorem grown_setCell (w : World) (p : Addr) (u : Value) : w.grownBy (w.setCell p u) (some p.block) :=
  ⟨rfl, rfl, rfl, by simp, fun i _ hne => Below.heap_setCell _ _ _ _ (fun e => hne (by rw [e]))⟩
theorem grown_refl (w : World) (row : Option Nat) : w.grownBy w row := (Ext.refl w).grown row
theorem grown_trans {a b c : World} {row : Option Nat} (h : a.grownBy b row) (k : b.grownBy c row) : a.grownBy c row :=
  ⟨k.os.trans h.os, k.tape.trans h.tape, k.output.trans h.output, Nat.le_trans h.size k.size, fun i hi hne => (k.block i (Nat.lt_of_lt_of_le hi h.size) hne).trans (h.block i hi hne)⟩
theorem grown_drew (w : World) (row : Option Nat) : w.grownBy w.drew row := (Ext.refl w).drew.grown row

theorem quiet_add_same {P : Program} {f : FuncId} {args : Array Value} {w : World} {a n : Nat} {v : Value}
    (h : Calls P f args (w.drewN (a + n)) fun e w' => e = .returned v ∧ w' = w.drewN (a + n)) :
    Calls P f args (w.drewN (a + n)) fun e w'' => e = .returned v ∧ ∃ m, w'' = w.drewN (a + m) :=
  h.mono fun _ _ ⟨he, hm⟩ => ⟨he, n, hm⟩

/-- A region that draws, all of whose operations read or call, in a class of worlds. -/
theorem wp_region_class {P : Program} {id : Nat} {Q : Exit → Act → World → Prop} {a : Act} {w : World} {l : List Oper} (C : World → Prop) (hm : P.follows .mixedOrders = true) (hB : Region.lexB .any l.toArray = true) (hC : C w.drew)
    (h : wpQuiet P l.toArray C (fun a' => ∀ w', C w' → Q .normal a' w') l a) : (Code.region id l.toArray true).wp P Q a w :=
  wp_region_quiet (C := C) hm hB hC (by simpa using h)

theorem ret_int {k : IntKind} {a b : Int} (h : a = b) : Ending.returned (.int k a) = .returned (.int k b) := by rw [h]
theorem ret_bool {a b : Bool} (h : a = b) : Ending.returned (.bool a) = .returned (.bool b) := by rw [h]
end Go.Proofs.Ytnghcfmloljagaa

namespace Go.Proofs.Ytnghcfmloljagaa
open Go.RowKit Go.ChangeShapes Go.WideShapes Go.Deep

section
variable {H : Type} {enc : TypeId × Value → H} {P : Program} {w : World} {base : Nat} {held : Bool}

/-- A slice's elements, cell by cell. -/
theorem rd_slice {t e : TypeId} {sz n : Nat} {v : Value} {y : DataW H × List MemPlace} (ht : P.underlying t = some (.slice e)) (hc : P.cellsOf e = sz) (hsz : 0 < sz) (h : DataW.trod enc P w base (fun _ => true) held n t [v] = some y) :
    ∃ A len cap, v = .slice A len cap ∧ len ≤ 9223372036854775807 ∧ (A = none → len = 0) ∧ ∀ i, i < len → ∃ b off m cs z, A = some ⟨b, off, none⟩ ∧ b < w.heap.size ∧ cs.length = sz ∧ (∀ j, j < sz → w.cell? ⟨b, off + i * sz + j, none⟩ = cs[j]?) ∧
      DataW.trod enc P w base (fun _ => true) held m e cs = some z := by
  rcases open_slice ht h with ⟨h0, _⟩ | ⟨a, len, cap, m, n', D, Pl, h0, hb, hl, hm, hmm, _, hx⟩
  · injection h0 with h0
    exact ⟨none, 0, 0, h0, by omega, fun _ => rfl, fun i hi => by omega⟩
  · injection h0 with h0
    have hmx : maxLen = 9223372036854775807 := rfl
    refine ⟨some a, len, cap, h0, by omega, (fun h => by cases h), fun i hi => ?_⟩
    simp only [if_true] at hmm
    obtain ⟨cs, h1, h2⟩ := hx i (by omega)
    obtain ⟨_, hlen, hcell⟩ := World.cells?_some h1
    rw [hc] at hlen hcell
    have hc0 := hcell 0 hsz
    rw [List.getElem?_eq_getElem (by omega)] at hc0
    obtain ⟨b, off, spot⟩ := a
    have hadd : ∀ (x y : Nat), ((⟨b, off, spot⟩ : Addr).add x).add y = (⟨b, off, spot⟩ : Addr).add (x + y) := fun x y => add_of_add _ _ _
    have hsp : spot = none := by
      obtain ⟨cs0, g1, _⟩ := hx 0 (by omega)
      obtain ⟨_, glen, gcell⟩ := World.cells?_some g1
      rw [hc] at glen gcell
      have g0 := gcell 0 hsz
      rw [List.getElem?_eq_getElem (by omega)] at g0
      have := World.cell?_spot g0
      simpa [hadd, Addr.add] using this
    subst hsp
    have hform : ∀ x, (⟨b, off, none⟩ : Addr).add x = ⟨b, off + x, none⟩ := fun x => by
      unfold Addr.add
      by_cases hx0 : x = 0 <;> simp [hx0]
    refine ⟨b, off, n', cs, _, rfl, ?_, hlen, fun j hj => ?_, h2⟩
    · have := World.block_lt_of_cell? w _ hc0
      rw [hadd, hform] at this
      exact this
    · have := hcell j hj
      rw [hadd, hform] at this
      rw [← this, Nat.add_assoc]

theorem rd_int {t : TypeId} {n : Nat} {cs : List Value} {y : DataW H × List MemPlace} (ht : P.underlying t = some (.int .i64)) (h : DataW.trod enc P w base (fun _ => true) held n t cs = some y) : ∃ i : Int, cs = [.int .i64 i] ∧ -9223372036854775808 ≤ i ∧ i ≤ 9223372036854775807 := by
  obtain ⟨i, h1, _, h3⟩ := DataW.trod_int ht h
  refine ⟨i, h1, ?_⟩
  simpa [Lit.wf, IntKind.min, IntKind.max, IntKind.signed, IntKind.bits] using h3

def I64 (x : Int) : Prop := -9223372036854775808 ≤ x ∧ x ≤ 9223372036854775807

theorem rd_ints {t e : TypeId} {n : Nat} {v : Value} {y : DataW H × List MemPlace} (ht : P.underlying t = some (.slice e)) (he : P.underlying e = some (.int .i64)) (hc : P.cellsOf e = 1) (h : DataW.trod enc P w base (fun _ => true) held n t [v] = some y) :
    ∃ A c, ∃ l : List Int, v = .slice A l.length c ∧ Ints w A l ∧ l.length ≤ 9223372036854775807 ∧ (A = none → l = []) ∧ ∀ x ∈ l, I64 x := by
  obtain ⟨A, len, cap, rfl, hl, hn, hx⟩ := rd_slice ht hc (by omega) h
  have key : ∀ i, i < len → ∃ x : Int, (∃ b off, A = some ⟨b, off, none⟩ ∧ b < w.heap.size ∧ w.cell? ⟨b, off + i, none⟩ = some (.int .i64 x)) ∧ I64 x := by
    intro i hi
    obtain ⟨b, off, m, cs, z, hA, hb, hlen, hcell, ht'⟩ := hx i hi
    obtain ⟨x, rfl, h1, h2⟩ := rd_int he ht'
    have := hcell 0 (by omega)
    rw [Nat.mul_one, Nat.add_zero] at this
    exact ⟨x, ⟨b, off, hA, hb, this⟩, h1, h2⟩
  obtain ⟨f, hf⟩ := choose_lt key
  have hlen : ((List.range len).map f).length = len := by simp
  refine ⟨A, cap, (List.range len).map f, by rw [hlen], fun k hk => ?_, by omega, fun hA => by rw [hn hA]; rfl, fun x hx' => ?_⟩
  · rw [hlen] at hk
    obtain ⟨⟨b, off, h1, h2, h3⟩, _⟩ := hf k hk
    exact ⟨b, off, h1, h2, by rw [h3]; simp [List.getD, hk]⟩
  · obtain ⟨k, hk, rfl⟩ := List.mem_map.1 hx'
    exact (hf k (by simpa using hk)).2

/-- A world that only has more. -/
theorem since_of_ext {W W' : World} (h : Ext W W') : W.Since W.heap.size W' := ⟨h.os, h.tape, h.output, h.size, fun k hk => h.block k hk⟩
/-- An argument reads as before in a world that only has more. -/
theorem stays {t : TypeId} (hl : laidOutB P = true) (hr : P.readableRec t = true) (hrow : t < P.types.size) {W W' : World} {sp' : Nat → Bool} {v : Value} {d : DataW H} {ps : List MemPlace}
    (h : DataW.Trod enc P W 0 (fun _ => true) true t v d ps) (hE : Ext W W') (hlt : ∀ p ∈ ps, p.block < W.heap.size) (hs : ∀ p ∈ ps, sp' p.block = true) : DataW.Trod enc P W' 0 sp' true t v d ps :=
  WideElems.Trod_stays hl hr hrow h (fun p hp => (since_of_ext hE).sameAt (hlt p hp)) hs
end
end Go.Proofs.Ytnghcfmloljagaa

namespace Go.Proofs.Ytnghcfmloljagaa
open Go.RowKit Go.ChangeShapes Go.WideShapes Go.Deep Go.ChangeAt

section
variable {H : Type} {enc : TypeId × Value → H} {P : Program}
theorem staysAll (hl : laidOutB P = true) {W W' : World} (hE : Ext W W') {sp' : Nat → Bool} : ∀ {ts : List TypeId} {vs : List Value} {ds : List (DataW H)} {ps : List MemPlace}, (∀ t ∈ ts, P.readableRec t = true ∧ t < P.types.size) →
    DataW.TrodAll enc P W 0 (fun _ => true) true ts vs ds ps → (∀ p ∈ ps, p.block < W.heap.size) → (∀ p ∈ ps, sp' p.block = true) → DataW.TrodAll enc P W' 0 sp' true ts vs ds ps := by
  intro ts
  induction ts with
  | nil =>
    intro vs ds ps _ h _ _
    obtain ⟨rfl, rfl, rfl⟩ := trodAll_nil h
    exact trodAll_mk0
  | cons t ts ih =>
    intro vs ds ps ht h hlt hs
    obtain ⟨v, vs', d, ds', p, q, rfl, rfl, rfl, h0, hr⟩ := trodAll_cons h
    exact trodAll_cons_mk (stays hl (ht t List.mem_cons_self).1 (ht t List.mem_cons_self).2 h0 hE (fun x hx => hlt x (List.mem_append_left _ hx)) (fun x hx => hs x (List.mem_append_left _ hx)))
      (ih (fun t' h' => ht t' (List.mem_cons_of_mem _ h')) hr (fun x hx => hlt x (List.mem_append_right _ hx)) (fun x hx => hs x (List.mem_append_right _ hx)))

theorem trodLen {w : World} {base : Nat} {spare : Nat → Bool} {held : Bool} : ∀ {ts : List TypeId} {vs : List Value} {ds : List (DataW H)} {ps : List MemPlace}, DataW.TrodAll enc P w base spare held ts vs ds ps → ds.length = ts.length := by
  intro ts
  induction ts with
  | nil =>
    intro vs ds ps h
    obtain ⟨rfl, rfl, rfl⟩ := trodAll_nil h
    rfl
  | cons t ts ih =>
    intro vs ds ps h
    obtain ⟨v, vs', d, ds', p, q, rfl, rfl, rfl, h0, hr⟩ := trodAll_cons h
    simp [ih hr]

theorem law_post {f : Func} {s : ChangeSpec} {W W' : World} {args : Array Value} {ds gs : List (DataW H)} {before : List MemPlace} {tb : TypeId} (hl : laidOutB P = true) (hts : ∀ t ∈ f.params.toList, P.readableRec t = true ∧ t < P.types.size)
    (hv : s.vars = []) (hb : P.underlying tb = some .bool) (hrt : f.resultTypes = #[tb]) (hspec : ∀ l : List (DataW H), l.length = f.params.toList.length → s.fn H (l ++ []) = { results := [.lit (.bool true)], args := l, vars := [] })
    (hW : DataW.Whole enc P f.params.toList s.vars false W args.toList ds gs before) (hE : Ext W W') : s.post enc P f false true false false W args (.bool true) W' := by
  have hW' := hW
  obtain ⟨p, q, hA, hV, rfl, _, _⟩ := hW
  rw [hv] at hV
  obtain ⟨rfl, rfl⟩ := trodVars_none hV
  have hlt : ∀ x ∈ p, x.block < W.heap.size := fun x hx => hW'.lt x (by simp [hx])
  have hlen := trodLen hA
  have hs := hspec ds hlen
  refine ⟨ds, [], _, [], p, [], hW', ?_, ?_, ?_, (since_of_ext hE).frame _, fun h => by cases h⟩
  · rw [hs, hrt]
    exact trodAll_cons_mk (shut_bool hb _) trodAll_mk0
  · rw [hs]
    exact staysAll hl hE hts hA hlt (fun x hx => by simpa using hlt x hx)
  · rw [hs, hv]
    rfl
end
end Go.Proofs.Ytnghcfmloljagaa
