/- Exams: visit: what it computes. -/
import Derived.Test.YtbpilgflejdhaaaExK
namespace Go.Proofs.Ytbpilgflejdhaaa
open Go.RowKit

/-- What a judge's mark of item i leaves of a span of biases if the item has n points. -/
def cut1 (x : Judge) (i : Nat) (n : Int) (s : Int × Int) : Int × Int :=
  if 0 ≤ x.marks.getD i 0 then (max s.1 (x.marks.getD i 0 - n - x.err), min s.2 (x.marks.getD i 0 - n + x.err)) else s
def cutTo (p : Paper) (i : Nat) (n : Int) : Nat → List (Int × Int) → List (Int × Int)
  | 0, l => l
  | k + 1, l => (cutTo p i n k l).set k (cut1 (p.judges.getD k default) i n ((cutTo p i n k l).getD k (0, 0)))
theorem cutTo_length (p : Paper) (i : Nat) (n : Int) (k : Nat) (l : List (Int × Int)) : (cutTo p i n k l).length = l.length := by
  induction k with
  | zero => rfl
  | succ k ih => simp [cutTo, ih]
/-- The first k numbers of points of an item, gone through by f. -/
def foldTo (f : Nat → Surv → Surv) : Nat → Surv → Surv
  | 0, S => S
  | k + 1, S => f k (foldTo f k S)
/-- visit, with m items to come. -/
def visitM (p : Paper) : Nat → List Int → Int → List (Int × Int) → Surv → Surv
  | 0, t, r, bs, S => endM p t r bs S
  | m + 1, t, r, bs, S =>
    let i := p.items.length - (m + 1)
    foldTo (fun n S => visitM p m (t.set i n) (r + n * (p.items.getD i default).weight) (cutTo p i n p.judges.length bs) S) ((p.items.getD i default).most + 1).toNat S

theorem set4 (a b c d : Int) (i : Nat) (n : Int) : ∃ a' b' c' d', [a, b, c, d].set i n = [a', b', c', d'] := by
  match i with
  | 0 => exact ⟨_, _, _, _, rfl⟩
  | 1 => exact ⟨_, _, _, _, rfl⟩
  | 2 => exact ⟨_, _, _, _, rfl⟩
  | 3 => exact ⟨_, _, _, _, rfl⟩
  | i + 4 => exact ⟨_, _, _, _, rfl⟩
theorem set4V (a b c d : Int) (i : Nat) (n : Int) (a' b' c' d' : Int) (h : [a, b, c, d].set i n = [a', b', c', d']) :
    (#[Value.int .i64 a, .int .i64 b, .int .i64 c, .int .i64 d] : Array Value).setIfInBounds i (.int .i64 n) = #[.int .i64 a', .int .i64 b', .int .i64 c', .int .i64 d'] := by
  have : ((#[Value.int .i64 a, .int .i64 b, .int .i64 c, .int .i64 d] : Array Value).setIfInBounds i (.int .i64 n)) = (([a, b, c, d].set i n).map (Value.int .i64)).toArray := by
    apply Array.ext'
    simp [List.map_set]
  rw [this, h]; rfl
theorem set_range {t t' : List Int} {i : Nat} {n : Int} (h : t.set i n = t') (hn : 0 ≤ n ∧ n ≤ 30) (ht : ∀ k, k < i → 0 ≤ t.getD k 0 ∧ t.getD k 0 ≤ 30) (hi : i < t.length) : ∀ k, k < i + 1 → 0 ≤ t'.getD k 0 ∧ t'.getD k 0 ≤ 30 := by
  intro k hk
  subst h
  by_cases e : k = i
  · subst e
    simpa [List.getD, hi] using hn
  · have := ht k (by omega)
    simpa [List.getD, List.getElem?_set_ne (show i ≠ k by omega)] using this
end Go.Proofs.Ytbpilgflejdhaaa
