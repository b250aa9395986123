/- The builtin max of four ints. No program in sight. -/
import Derived.Test.YtbpilgflejdhaaaMem
namespace Go.Proofs.Ytbpilgflejdhaaa
theorem run_max_int4 {P : Program} {w : World} (ts : Array TypeId) (t : TypeId) (x y z u : Int) : ∃ m, (Builtin.max_ ts t #[.int .i64 x, .int .i64 y, .int .i64 z, .int .i64 u]).run P w = .ok (.int .i64 m) w ∧ m = max (max (max x y) z) u := by
  have e : ∀ a b : Int, (if b > a then b else a) = max a b := fun a b => by split <;> omega
  refine ⟨if u > (if z > (if y > x then y else x) then z else (if y > x then y else x)) then u else (if z > (if y > x then y else x) then z else (if y > x then y else x)), by simp [Builtin.max_, Builtin.max2], ?_⟩
  simp only [e]
theorem wrap_cases {x y mk err : Int} (hx : 0 ≤ x ∧ x ≤ 30) (hy : 0 ≤ y ∧ y ≤ 30) (he : 0 ≤ err ∧ err ≤ 5) (hm : -9223372036854775808 ≤ mk ∧ mk ≤ 9223372036854775807)
    (h : max (max (max (IntKind.i64.wrap (x - mk)) (IntKind.i64.wrap (mk - x))) (IntKind.i64.wrap (y - mk))) (IntKind.i64.wrap (mk - y)) ≤ err) :
    (x - mk ≤ err ∧ mk - x ≤ err ∧ y - mk ≤ err ∧ mk - y ≤ err) ∨ x = y := by
  simp only [IntKind.wrap, IntKind.bits, IntKind.signed] at h
  simp at h
  omega
end Go.Proofs.Ytbpilgflejdhaaa
