/- Guarded operations that do not run. No program in sight. -/
import Derived.Test.YtbpilgflejdhaaaMem
namespace Go.Proofs.Ytbpilgflejdhaaa
theorem wpQuiet_skip {P : Program} {ops : Array Oper} {C : World → Prop} {Q : Act → Prop} {a : Act} {o : Oper} {rest : List Oper} (hw : Region.wanted o (yielded ops a.tmps) = false)
    (h : ∀ K : Act → Prop, (∀ a, wpQuiet P ops C Q rest a → K a) → K (a.put o.dst undef)) : wpQuiet P ops C Q (o :: rest) a :=
  wpQuiet_step fun K hK => by
    rw [hw]
    exact h K hK
end Go.Proofs.Ytbpilgflejdhaaa
