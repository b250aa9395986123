/- Exams: the walk over Points. -/
import Derived.Test.YtbpilgflejdhaaaExT
import Derived.Test.YtbpilgflejdhaaaExV
import Derived.Deep.MidRow
namespace Go.Proofs.Ytbpilgflejdhaaa
open Go.RowKit

/-- The cells of an item's spans. -/
def itCells (S : Surv) (i : Nat) : List Value := spanCells ((List.range 31).map (S.it i))
theorem itCells_len (S : Surv) (i : Nat) : (itCells S i).length = 62 := by unfold itCells; rw [spanCells_length]; simp
theorem itCells_get (S : Surv) (i k : Nat) (hk : k < 31) : (itCells S i)[k * 2]? = some (.int .i64 (S.it i k).1) ∧ (itCells S i)[k * 2 + 1]? = some (.int .i64 (S.it i k).2) := by
  unfold itCells
  have := spanCells_get ((List.range 31).map (S.it i)) k
  rw [this.1, this.2]
  simp [hk]
set_option maxRecDepth 100000 in
theorem run_index_spans (cs : Array Value) (k : Nat) (x y : Value) (hk : k < 31) (h1 : cs[k * 2]? = some x) (h2 : cs[k * 2 + 1]? = some y) (w : World) :
    (Instr.index 79 (.agg cs) (.int .i64 k)).run Try.prog w = .ok (.agg #[x, y]) w := by
  have hinfo : (Try.prog.info? 35).map (·.size) = some 2 := by kernel_rfl
  cases hq : Try.prog.info? 35 with
  | none => simp [hq] at hinfo
  | some i =>
    have hs : i.size = 2 := by simpa [hq] using hinfo
    have hagg : (isAgg 35).run Try.prog w = .ok true w := by
      unfold isAgg
      rw [Sem.run_bind, run_underlying Try.underlying35 w]
      rfl
    have hlt : k * 2 + 1 < cs.size := by
      rcases Nat.lt_or_ge (k * 2 + 1) cs.size with h | h
      · exact h
      · rw [Array.getElem?_eq_none h] at h2; cases h2
    have hex : cs.extract (k * 2) (k * 2 + 2) = #[x, y] := by
      apply Array.ext'
      rw [Array.toList_extract, List.extract_eq_take_drop]
      have e1 : cs.toList[k * 2]? = some x := by simpa using h1
      have e2 : cs.toList[k * 2 + 1]? = some y := by simpa using h2
      have hl : k * 2 + 1 < cs.toList.length := by simpa using hlt
      rw [List.drop_eq_getElem_cons (by omega), List.drop_eq_getElem_cons (by omega)]
      rw [List.getElem?_eq_getElem (by omega)] at e1 e2
      injection e1 with e1
      injection e2 with e2
      simp [e1, e2]
    have h0 : (0 : Int) ≤ (k : Int) ∧ (k : Int) < (31 : Nat) := by omega
    simp [Instr.index, run_underlying Try.underlying79, asIntOf, part, hagg, sizeOf, typeInfo, hq, hs, hex, Result.andThen]
    omega
end Go.Proofs.Ytbpilgflejdhaaa
