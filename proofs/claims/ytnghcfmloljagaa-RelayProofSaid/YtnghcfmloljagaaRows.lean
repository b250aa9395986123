/-
  No cell of these rows narrows 'for every input' (looked for: loops, veiled, ifaces, maps, wideKeys, modest, calm, conditions, laid).
  DERIVED. THE GIVEN ROWS OF THIS SEAT. 10 by the template 'for every input the law returns true; each argument reads behind the call as it read before'; 0 by the template 'total and deterministic' (their statements: YtnghcfmloljagaaTotals.lean).
  GIVEN WITH THE SEED: the statements are not yours to turn. If you find one false, say at which input.
  Laid BY PROGRAM, IN A SANDBOX (cutbox-rows.mjs): the forced cells as the released guide's own fill.sh prints them over the translation d1c7b775135a81ee… (all of the seat's roots in one cut). By AI agents, Wed Nov 11 2026. No macro, syntax, notation, axiom, sorry.
-/
import Derived.Test.YtnghcfmloljagaaChecked
import GoSem.Claim
import GoSem.ClaimJoined
import GoSem.ClaimMapViews
import Derived.JoinedTies
import Derived.KernelRfl
namespace Go.Proofs.Ytnghcfmloljagaa
/- THE CELL 'sum', in the pinned program and in every row, IS THE sha256 OF THE DUMP (.gsa) THAT YtnghcfmloljagaaProg.lean LOADS. Nothing in Lean hashes anything: it is a label: what it is worth is what the hold of that sum in a sandbox is worth. -/
noncomputable def Try.pinned : Pinned := { name := "ytnghcfmloljagaa", sum := "d1c7b775135a81ee3d4017592e07cf2fdce44f0dce6619f3f56d0137466e3784", checked := Try.checked }
namespace Rows
def none {H : Type} : Left H := { results := [], args := [] }

/-- 'handshapelaw06.RelayUrgent': WHATEVER THE INPUT: true; the input reads as it did. -/
def relayUrgentSpec : ChangeSpec := { name := "relayUrgent", fn := fun _ => fun
  | [d] => { results := [.lit (.bool true)], args := [d] }
  | _ => none }
def relayUrgentRow : OpenClaim := { program := "ytnghcfmloljagaa", sum := "d1c7b775135a81ee3d4017592e07cf2fdce44f0dce6619f3f56d0137466e3784", func := "handshape/handshapelaw06.RelayUrgent", spec := "relayUrgent", unfollowed := true, recurses := true, plainKeys := false, apart := false }
def RelayUrgentSaid : Prop := relayUrgentRow.holds Try.pinned (OpenSpec.ofChange relayUrgentSpec)

/-- ITS FALSE NEIGHBOUR: 'it returns false'. Refute it at one input. -/
def relayUrgentWrong : ChangeSpec := { name := "relayUrgent", fn := fun _ => fun
  | [d] => { results := [.lit (.bool false)], args := [d] }
  | _ => none }
def RelayUrgentWrongFalsely : Prop := relayUrgentRow.holds Try.pinned (OpenSpec.ofChange relayUrgentWrong)

/-- 'handshapelaw06.RelayEasier': WHATEVER THE INPUT: true; the input reads as it did. -/
def relayEasierSpec : ChangeSpec := { name := "relayEasier", fn := fun _ => fun
  | [d1, d2, d3] => { results := [.lit (.bool true)], args := [d1, d2, d3] }
  | _ => none }
def relayEasierRow : OpenClaim := { program := "ytnghcfmloljagaa", sum := "d1c7b775135a81ee3d4017592e07cf2fdce44f0dce6619f3f56d0137466e3784", func := "handshape/handshapelaw06.RelayEasier", spec := "relayEasier", unfollowed := true, recurses := true, plainKeys := false, apart := false }
def RelayEasierSaid : Prop := relayEasierRow.holds Try.pinned (OpenSpec.ofChange relayEasierSpec)

/-- ITS FALSE NEIGHBOUR: 'it returns false'. Refute it at one input. -/
def relayEasierWrong : ChangeSpec := { name := "relayEasier", fn := fun _ => fun
  | [d1, d2, d3] => { results := [.lit (.bool false)], args := [d1, d2, d3] }
  | _ => none }
def RelayEasierWrongFalsely : Prop := relayEasierRow.holds Try.pinned (OpenSpec.ofChange relayEasierWrong)

/-- 'handshapelaw06.RelayAtOnce': WHATEVER THE INPUT: true; the input reads as it did. -/
def relayAtOnceSpec : ChangeSpec := { name := "relayAtOnce", fn := fun _ => fun
  | [d1, d2, d3] => { results := [.lit (.bool true)], args := [d1, d2, d3] }
  | _ => none }
def relayAtOnceRow : OpenClaim := { program := "ytnghcfmloljagaa", sum := "d1c7b775135a81ee3d4017592e07cf2fdce44f0dce6619f3f56d0137466e3784", func := "handshape/handshapelaw06.RelayAtOnce", spec := "relayAtOnce", unfollowed := true, recurses := true, plainKeys := false, apart := false }
def RelayAtOnceSaid : Prop := relayAtOnceRow.holds Try.pinned (OpenSpec.ofChange relayAtOnceSpec)

/-- ITS FALSE NEIGHBOUR: 'it returns false'. Refute it at one input. -/
def relayAtOnceWrong : ChangeSpec := { name := "relayAtOnce", fn := fun _ => fun
  | [d1, d2, d3] => { results := [.lit (.bool false)], args := [d1, d2, d3] }
  | _ => none }
def RelayAtOnceWrongFalsely : Prop := relayAtOnceRow.holds Try.pinned (OpenSpec.ofChange relayAtOnceWrong)

/-- 'handshapelaw06.RelayBounded': WHATEVER THE INPUT: true; the input reads as it did. -/
def relayBoundedSpec : ChangeSpec := { name := "relayBounded", fn := fun _ => fun
  | [d1, d2] => { results := [.lit (.bool true)], args := [d1, d2] }
  | _ => none }
def relayBoundedRow : OpenClaim := { program := "ytnghcfmloljagaa", sum := "d1c7b775135a81ee3d4017592e07cf2fdce44f0dce6619f3f56d0137466e3784", func := "handshape/handshapelaw06.RelayBounded", spec := "relayBounded", unfollowed := true, recurses := true, plainKeys := false, apart := false }
def RelayBoundedSaid : Prop := relayBoundedRow.holds Try.pinned (OpenSpec.ofChange relayBoundedSpec)

/-- ITS FALSE NEIGHBOUR: 'it returns false'. Refute it at one input. -/
def relayBoundedWrong : ChangeSpec := { name := "relayBounded", fn := fun _ => fun
  | [d1, d2] => { results := [.lit (.bool false)], args := [d1, d2] }
  | _ => none }
def RelayBoundedWrongFalsely : Prop := relayBoundedRow.holds Try.pinned (OpenSpec.ofChange relayBoundedWrong)

/-- 'handshapelaw06.RelayLater': WHATEVER THE INPUT: true; the input reads as it did. -/
def relayLaterSpec : ChangeSpec := { name := "relayLater", fn := fun _ => fun
  | [d1, d2, d3] => { results := [.lit (.bool true)], args := [d1, d2, d3] }
  | _ => none }
def relayLaterRow : OpenClaim := { program := "ytnghcfmloljagaa", sum := "d1c7b775135a81ee3d4017592e07cf2fdce44f0dce6619f3f56d0137466e3784", func := "handshape/handshapelaw06.RelayLater", spec := "relayLater", unfollowed := true, recurses := true, plainKeys := false, apart := false }
def RelayLaterSaid : Prop := relayLaterRow.holds Try.pinned (OpenSpec.ofChange relayLaterSpec)

/-- ITS FALSE NEIGHBOUR: 'it returns false'. Refute it at one input. -/
def relayLaterWrong : ChangeSpec := { name := "relayLater", fn := fun _ => fun
  | [d1, d2, d3] => { results := [.lit (.bool false)], args := [d1, d2, d3] }
  | _ => none }
def RelayLaterWrongFalsely : Prop := relayLaterRow.holds Try.pinned (OpenSpec.ofChange relayLaterWrong)

/-- 'handshapelaw06.RelayFree': WHATEVER THE INPUT: true; the input reads as it did. -/
def relayFreeSpec : ChangeSpec := { name := "relayFree", fn := fun _ => fun
  | [d1, d2] => { results := [.lit (.bool true)], args := [d1, d2] }
  | _ => none }
def relayFreeRow : OpenClaim := { program := "ytnghcfmloljagaa", sum := "d1c7b775135a81ee3d4017592e07cf2fdce44f0dce6619f3f56d0137466e3784", func := "handshape/handshapelaw06.RelayFree", spec := "relayFree", unfollowed := true, recurses := true, plainKeys := false, apart := false }
def RelayFreeSaid : Prop := relayFreeRow.holds Try.pinned (OpenSpec.ofChange relayFreeSpec)

/-- ITS FALSE NEIGHBOUR: 'it returns false'. Refute it at one input. -/
def relayFreeWrong : ChangeSpec := { name := "relayFree", fn := fun _ => fun
  | [d1, d2] => { results := [.lit (.bool false)], args := [d1, d2] }
  | _ => none }
def RelayFreeWrongFalsely : Prop := relayFreeRow.holds Try.pinned (OpenSpec.ofChange relayFreeWrong)

/-- 'handshapelaw06.RelayLeast': WHATEVER THE INPUT: true; the input reads as it did. -/
def relayLeastSpec : ChangeSpec := { name := "relayLeast", fn := fun _ => fun
  | [d1, d2] => { results := [.lit (.bool true)], args := [d1, d2] }
  | _ => none }
def relayLeastRow : OpenClaim := { program := "ytnghcfmloljagaa", sum := "d1c7b775135a81ee3d4017592e07cf2fdce44f0dce6619f3f56d0137466e3784", func := "handshape/handshapelaw06.RelayLeast", spec := "relayLeast", unfollowed := true, recurses := true, plainKeys := false, apart := false }
def RelayLeastSaid : Prop := relayLeastRow.holds Try.pinned (OpenSpec.ofChange relayLeastSpec)

/-- ITS FALSE NEIGHBOUR: 'it returns false'. Refute it at one input. -/
def relayLeastWrong : ChangeSpec := { name := "relayLeast", fn := fun _ => fun
  | [d1, d2] => { results := [.lit (.bool false)], args := [d1, d2] }
  | _ => none }
def RelayLeastWrongFalsely : Prop := relayLeastRow.holds Try.pinned (OpenSpec.ofChange relayLeastWrong)

/-- 'handshapelaw06.RelayPlans': WHATEVER THE INPUT: true; the input reads as it did. -/
def relayPlansSpec : ChangeSpec := { name := "relayPlans", fn := fun _ => fun
  | [d1, d2] => { results := [.lit (.bool true)], args := [d1, d2] }
  | _ => none }
def relayPlansRow : OpenClaim := { program := "ytnghcfmloljagaa", sum := "d1c7b775135a81ee3d4017592e07cf2fdce44f0dce6619f3f56d0137466e3784", func := "handshape/handshapelaw06.RelayPlans", spec := "relayPlans", unfollowed := true, recurses := true, plainKeys := false, apart := false }
def RelayPlansSaid : Prop := relayPlansRow.holds Try.pinned (OpenSpec.ofChange relayPlansSpec)

/-- ITS FALSE NEIGHBOUR: 'it returns false'. Refute it at one input. -/
def relayPlansWrong : ChangeSpec := { name := "relayPlans", fn := fun _ => fun
  | [d1, d2] => { results := [.lit (.bool false)], args := [d1, d2] }
  | _ => none }
def RelayPlansWrongFalsely : Prop := relayPlansRow.holds Try.pinned (OpenSpec.ofChange relayPlansWrong)

/-- 'handshapelaw06.RelayProof': WHATEVER THE INPUT: true; the input reads as it did. -/
def relayProofSpec : ChangeSpec := { name := "relayProof", fn := fun _ => fun
  | [d1, d2, d3] => { results := [.lit (.bool true)], args := [d1, d2, d3] }
  | _ => none }
def relayProofRow : OpenClaim := { program := "ytnghcfmloljagaa", sum := "d1c7b775135a81ee3d4017592e07cf2fdce44f0dce6619f3f56d0137466e3784", func := "handshape/handshapelaw06.RelayProof", spec := "relayProof", unfollowed := true, recurses := true, plainKeys := false, apart := false }
def RelayProofSaid : Prop := relayProofRow.holds Try.pinned (OpenSpec.ofChange relayProofSpec)

/-- ITS FALSE NEIGHBOUR: 'it returns false'. Refute it at one input. -/
def relayProofWrong : ChangeSpec := { name := "relayProof", fn := fun _ => fun
  | [d1, d2, d3] => { results := [.lit (.bool false)], args := [d1, d2, d3] }
  | _ => none }
def RelayProofWrongFalsely : Prop := relayProofRow.holds Try.pinned (OpenSpec.ofChange relayProofWrong)

/-- 'handshapelaw06.RelayMost': WHATEVER THE INPUT: true; the input reads as it did. -/
def relayMostSpec : ChangeSpec := { name := "relayMost", fn := fun _ => fun
  | [d1, d2, d3] => { results := [.lit (.bool true)], args := [d1, d2, d3] }
  | _ => none }
def relayMostRow : OpenClaim := { program := "ytnghcfmloljagaa", sum := "d1c7b775135a81ee3d4017592e07cf2fdce44f0dce6619f3f56d0137466e3784", func := "handshape/handshapelaw06.RelayMost", spec := "relayMost", unfollowed := true, recurses := true, plainKeys := false, apart := false }
def RelayMostSaid : Prop := relayMostRow.holds Try.pinned (OpenSpec.ofChange relayMostSpec)

/-- ITS FALSE NEIGHBOUR: 'it returns false'. Refute it at one input. -/
def relayMostWrong : ChangeSpec := { name := "relayMost", fn := fun _ => fun
  | [d1, d2, d3] => { results := [.lit (.bool false)], args := [d1, d2, d3] }
  | _ => none }
def RelayMostWrongFalsely : Prop := relayMostRow.holds Try.pinned (OpenSpec.ofChange relayMostWrong)

/- THE SECOND FORM. 'bulk': how many values and letters a reading holds, each counted each time it is reached (what is shared counts as often as it is met; a slice's spare places count too). A statement '..UptoSaid' is the law's where the arguments, and the package variables that the reading takes, are together of bulk at most 1048576: NARROWER than '..Said'. Prove '..Said' where nothing that the law and all that it calls make is longer than what came in: it says more and counts as full. Else prove '..UptoSaid'. A law counts once. -/
mutual
def uptoBulk {H : Type} : DataW H → Nat
  | .lit (.string bytes) => bytes.length + 1
  | .lit _ => 1
  | .nil => 1
  | .ptr d => uptoBulk d + 1
  | .slice elems spare => uptoBulkAll elems + uptoBulkAll spare + 1
  | .agg parts => uptoBulkAll parts + 1
  | .iface _ d => uptoBulk d + 1
  | .map entries => uptoBulkEntries entries + 1
  | .held _ => 1
def uptoBulkAll {H : Type} : List (DataW H) → Nat
  | [] => 0
  | d :: r => uptoBulk d + uptoBulkAll r
def uptoBulkEntries {H : Type} : List (Lit × DataW H) → Nat
  | [] => 0
  | x :: r => uptoBulkEntry x + uptoBulkEntries r
def uptoBulkEntry {H : Type} : Lit × DataW H → Nat
  | (.string bytes, d) => bytes.length + uptoBulk d + 1
  | (_, d) => uptoBulk d + 1
 end
def uptoSmall : (H : Type) → List (DataW H) → Bool := fun _ ds => decide (uptoBulkAll ds ≤ 1048576)
def OpenSpec.upto (s : _root_.Go.ChangeSpec) : _root_.Go.OpenSpec := { _root_.Go.OpenSpec.ofChange s with cond := some uptoSmall }

/-- 'handshapelaw06.RelayUrgent', WHERE WHAT IT READS IS OF BULK AT MOST 1048576: true; the input reads as it did. -/
def relayUrgentUptoRow : OpenClaim := { program := "ytnghcfmloljagaa", sum := "d1c7b775135a81ee3d4017592e07cf2fdce44f0dce6619f3f56d0137466e3784", func := "handshape/handshapelaw06.RelayUrgent", spec := "relayUrgent", unfollowed := true, recurses := true, plainKeys := false, apart := false, narrowed := true }
def RelayUrgentUptoSaid : Prop := relayUrgentUptoRow.holds Try.pinned (OpenSpec.upto relayUrgentSpec)

/-- 'handshapelaw06.RelayEasier', WHERE WHAT IT READS IS OF BULK AT MOST 1048576: true; the input reads as it did. -/
def relayEasierUptoRow : OpenClaim := { program := "ytnghcfmloljagaa", sum := "d1c7b775135a81ee3d4017592e07cf2fdce44f0dce6619f3f56d0137466e3784", func := "handshape/handshapelaw06.RelayEasier", spec := "relayEasier", unfollowed := true, recurses := true, plainKeys := false, apart := false, narrowed := true }
def RelayEasierUptoSaid : Prop := relayEasierUptoRow.holds Try.pinned (OpenSpec.upto relayEasierSpec)

/-- 'handshapelaw06.RelayAtOnce', WHERE WHAT IT READS IS OF BULK AT MOST 1048576: true; the input reads as it did. -/
def relayAtOnceUptoRow : OpenClaim := { program := "ytnghcfmloljagaa", sum := "d1c7b775135a81ee3d4017592e07cf2fdce44f0dce6619f3f56d0137466e3784", func := "handshape/handshapelaw06.RelayAtOnce", spec := "relayAtOnce", unfollowed := true, recurses := true, plainKeys := false, apart := false, narrowed := true }
def RelayAtOnceUptoSaid : Prop := relayAtOnceUptoRow.holds Try.pinned (OpenSpec.upto relayAtOnceSpec)

/-- 'handshapelaw06.RelayBounded', WHERE WHAT IT READS IS OF BULK AT MOST 1048576: true; the input reads as it did. -/
def relayBoundedUptoRow : OpenClaim := { program := "ytnghcfmloljagaa", sum := "d1c7b775135a81ee3d4017592e07cf2fdce44f0dce6619f3f56d0137466e3784", func := "handshape/handshapelaw06.RelayBounded", spec := "relayBounded", unfollowed := true, recurses := true, plainKeys := false, apart := false, narrowed := true }
def RelayBoundedUptoSaid : Prop := relayBoundedUptoRow.holds Try.pinned (OpenSpec.upto relayBoundedSpec)

/-- 'handshapelaw06.RelayLater', WHERE WHAT IT READS IS OF BULK AT MOST 1048576: true; the input reads as it did. -/
def relayLaterUptoRow : OpenClaim := { program := "ytnghcfmloljagaa", sum := "d1c7b775135a81ee3d4017592e07cf2fdce44f0dce6619f3f56d0137466e3784", func := "handshape/handshapelaw06.RelayLater", spec := "relayLater", unfollowed := true, recurses := true, plainKeys := false, apart := false, narrowed := true }
def RelayLaterUptoSaid : Prop := relayLaterUptoRow.holds Try.pinned (OpenSpec.upto relayLaterSpec)

/-- 'handshapelaw06.RelayFree', WHERE WHAT IT READS IS OF BULK AT MOST 1048576: true; the input reads as it did. -/
def relayFreeUptoRow : OpenClaim := { program := "ytnghcfmloljagaa", sum := "d1c7b775135a81ee3d4017592e07cf2fdce44f0dce6619f3f56d0137466e3784", func := "handshape/handshapelaw06.RelayFree", spec := "relayFree", unfollowed := true, recurses := true, plainKeys := false, apart := false, narrowed := true }
def RelayFreeUptoSaid : Prop := relayFreeUptoRow.holds Try.pinned (OpenSpec.upto relayFreeSpec)

/-- 'handshapelaw06.RelayLeast', WHERE WHAT IT READS IS OF BULK AT MOST 1048576: true; the input reads as it did. -/
def relayLeastUptoRow : OpenClaim := { program := "ytnghcfmloljagaa", sum := "d1c7b775135a81ee3d4017592e07cf2fdce44f0dce6619f3f56d0137466e3784", func := "handshape/handshapelaw06.RelayLeast", spec := "relayLeast", unfollowed := true, recurses := true, plainKeys := false, apart := false, narrowed := true }
def RelayLeastUptoSaid : Prop := relayLeastUptoRow.holds Try.pinned (OpenSpec.upto relayLeastSpec)

/-- 'handshapelaw06.RelayPlans', WHERE WHAT IT READS IS OF BULK AT MOST 1048576: true; the input reads as it did. -/
def relayPlansUptoRow : OpenClaim := { program := "ytnghcfmloljagaa", sum := "d1c7b775135a81ee3d4017592e07cf2fdce44f0dce6619f3f56d0137466e3784", func := "handshape/handshapelaw06.RelayPlans", spec := "relayPlans", unfollowed := true, recurses := true, plainKeys := false, apart := false, narrowed := true }
def RelayPlansUptoSaid : Prop := relayPlansUptoRow.holds Try.pinned (OpenSpec.upto relayPlansSpec)

/-- 'handshapelaw06.RelayProof', WHERE WHAT IT READS IS OF BULK AT MOST 1048576: true; the input reads as it did. -/
def relayProofUptoRow : OpenClaim := { program := "ytnghcfmloljagaa", sum := "d1c7b775135a81ee3d4017592e07cf2fdce44f0dce6619f3f56d0137466e3784", func := "handshape/handshapelaw06.RelayProof", spec := "relayProof", unfollowed := true, recurses := true, plainKeys := false, apart := false, narrowed := true }
def RelayProofUptoSaid : Prop := relayProofUptoRow.holds Try.pinned (OpenSpec.upto relayProofSpec)

/-- 'handshapelaw06.RelayMost', WHERE WHAT IT READS IS OF BULK AT MOST 1048576: true; the input reads as it did. -/
def relayMostUptoRow : OpenClaim := { program := "ytnghcfmloljagaa", sum := "d1c7b775135a81ee3d4017592e07cf2fdce44f0dce6619f3f56d0137466e3784", func := "handshape/handshapelaw06.RelayMost", spec := "relayMost", unfollowed := true, recurses := true, plainKeys := false, apart := false, narrowed := true }
def RelayMostUptoSaid : Prop := relayMostUptoRow.holds Try.pinned (OpenSpec.upto relayMostSpec)

end Rows
end Go.Proofs.Ytnghcfmloljagaa
