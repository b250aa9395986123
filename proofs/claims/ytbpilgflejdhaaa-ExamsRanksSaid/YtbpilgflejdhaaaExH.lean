/- Exams: none, add, width, the survey's grade. -/
import Derived.Test.YtbpilgflejdhaaaExG
import Derived.StillTailTactics
import Derived.BigRegion
namespace Go.Proofs.Ytbpilgflejdhaaa
open Go.RowKit

/-- A region that draws: what reads, then a tail in a forced order. -/
theorem wp_region_tail {P : Program} {id : Nat} {Q : Exit → Act → World → Prop} {a : Act} {w : World} {l : List Oper} (n : Nat) (hm : P.follows .mixedOrders = true) (hB : Region.lexTailB .any l.toArray n = true)
    (h : wpStill P l.toArray w.drew (fun a' => wpList P l.toArray Q (l.drop n) a' w.drew) (l.take n) a) : (Code.region id l.toArray true).wp P Q a w :=
  wp_region_still_tail n hm hB h

theorem wpStill_want {P : Program} {ops : Array Oper} {w : World} {Q : Act → Prop} {a : Act} {o : Oper} {rest : List Oper} (hw : Region.wanted o (yielded ops a.tmps) = true) (h : ∀ K : Act → Prop, (∀ a, wpStill P ops w Q rest a → K a) → o.still P a w K) : wpStill P ops w Q (o :: rest) a :=
  wpStill_step fun K hK => by rw [if_pos hw]; exact h K hK
theorem wpStill_skip {P : Program} {ops : Array Oper} {w : World} {Q : Act → Prop} {a : Act} {o : Oper} {rest : List Oper} (hw : Region.wanted o (yielded ops a.tmps) = false) (h : wpStill P ops w Q rest (a.put o.dst undef)) : wpStill P ops w Q (o :: rest) a :=
  wpStill_step fun K hK => by rw [if_neg (by rw [hw]; exact Bool.false_ne_true)]; exact hK _ h

theorem none_any (w : World) : Calls Try.prog 49 #[] w fun e w' => e = .returned (.agg #[.int .i64 1073741824, .int .i64 (-1073741824)]) ∧ w.alloc (.cells #[.int .i64 1073741824, .int .i64 (-1073741824)] 35) = w' := by
  go_enter Try.func49, Try.ntmps49
  go_wp2
  refine bodyPost_ret (v := .agg #[.int .i64 1073741824, .int .i64 (-1073741824)]) (by simp [results, Try.results49, go_sem]) rfl ⟨rfl, rfl⟩

set_option maxHeartbeats 1000000 in
theorem add_any (b o : Nat) (T : TypeId) (cs : Array Value) (lo hi x y : Int) (w : World) (hb : Blk w b T cs) (h1 : cs[o]? = some (.int .i64 lo)) (h2 : cs[o + 1]? = some (.int .i64 hi)) :
    Calls Try.prog 50 #[.pointer (some ⟨b, o, none⟩), .agg #[.int .i64 x, .int .i64 y]] w fun e w' => e = .returned (.tuple #[]) ∧
      Blk w' b T ((cs.setIfInBounds o (.int .i64 (min lo x))).setIfInBounds (o + 1) (.int .i64 (max hi y))) ∧ w.grownBy w' (some b) := by
  have hlt := hb.lt
  have hE := Ext.of_alloc w (.cells #[.int .i64 x, .int .i64 y] 35)
  have hB1 := hb.ext hE
  have hfin : ∀ w1 u v, u = min lo x → v = max hi y → Blk w1 b T cs → w.grownBy w1 (some b) → Blk (((w1.setCell ⟨b, o, none⟩ (.int .i64 u)).setCell ⟨b, o + 1, none⟩ (.int .i64 v)).drew) b T ((cs.setIfInBounds o (.int .i64 (min lo x))).setIfInBounds (o + 1) (.int .i64 (max hi y))) ∧ w.grownBy (((w1.setCell ⟨b, o, none⟩ (.int .i64 u)).setCell ⟨b, o + 1, none⟩ (.int .i64 v)).drew) (some b) := by
    intro w1 u v hu hv h g
    subst hu; subst hv
    exact ⟨(h.set o _).set (o + 1) _, grown_trans (grown_trans (grown_trans g (grown_setCell w1 ⟨b, o, none⟩ _)) (grown_setCell _ ⟨b, o + 1, none⟩ _)) (grown_drew _ _)⟩
  have HF := Lib.hid hfin
  have HE := Lib.hid hE
  clear hfin
  go_enter Try.func50, Try.ntmps50
  go_wp2
  generalize hw1 : w.alloc (.cells #[.int .i64 x, .int .i64 y] 35) = w1 at *
  have g1 : w1.cell? ⟨b, o, none⟩ = some (.int .i64 lo) := (hB1.cell o).trans h1
  have g2 : w1.cell? ⟨b, o + 1, none⟩ = some (.int .i64 hi) := (hB1.cell (o + 1)).trans h2
  have g3 : w1.cell? ⟨w.heap.size, 0, none⟩ = some (.int .i64 x) := by rw [← hw1, World.cell?_alloc_at _ _ _ _ rfl]; rfl
  have g4 : w1.cell? ⟨w.heap.size, 1, none⟩ = some (.int .i64 y) := by rw [← hw1, World.cell?_alloc_at _ _ _ _ rfl]; rfl
  have g5 := hB1.free o
  have g6 := hB1.free (o + 1)
  have hne : ¬ w.heap.size = b := by omega
  have hne' : ¬ b = w.heap.size := by omega
  have HW := Lib.hid hw1
  have HB := Lib.hid hB1
  clear h1 h2 hw1 hB1 hE hb
  go_region
  all_goals
    go_wp2
  all_goals
    go_end0
    exact ⟨rfl, HF.out _ _ _ (by omega) (by omega) HB.out (HE.out.grown _)⟩

set_option maxHeartbeats 1000000 in
theorem width_any (lo hi : Int) (w : World) (h1 : -1099511627776 ≤ lo) (h2 : lo ≤ 1099511627776) (h3 : -1099511627776 ≤ hi) (h4 : hi ≤ 1099511627776) :
    Calls Try.prog 51 #[.agg #[.int .i64 lo, .int .i64 hi]] w fun e w' => e = .returned (.int .i64 (max 0 (hi - lo))) ∧ Ext w w' := by
  go_enter Try.func51, Try.ntmps51
  go_wp2
  all_goals
    go_ret
    exact ⟨ret_int (by omega), Ext.of_alloc _ _⟩
end Go.Proofs.Ytbpilgflejdhaaa
