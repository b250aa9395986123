/-
  No cell of these rows narrows 'for every input' (looked for: loops, veiled, ifaces, maps, wideKeys, modest, calm, conditions, laid).
  DERIVED. THE GIVEN ROWS OF THIS SEAT. 9 by the template 'for every input the law returns true; each argument reads behind the call as it read before'; 0 by the template 'total and deterministic' (their statements: YtlffjnmbpoemnaaTotals.lean).
  GIVEN WITH THE SEED: the statements are not yours to turn. If you find one false, say at which input.
  Laid BY PROGRAM, IN A SANDBOX (cutbox-rows.mjs): the forced cells as the released guide's own fill.sh prints them over the translation 3c5c88adb34bd65b… (all of the seat's roots in one cut). By AI agents, Wed Nov 11 2026. No macro, syntax, notation, axiom, sorry.
-/
import Derived.Test.YtlffjnmbpoemnaaChecked
import GoSem.Claim
import GoSem.ClaimJoined
import GoSem.ClaimMapViews
import Derived.JoinedTies
import Derived.KernelRfl
namespace Go.Proofs.Ytlffjnmbpoemnaa
/- THE CELL 'sum', in the pinned program and in every row, IS THE sha256 OF THE DUMP (.gsa) THAT YtlffjnmbpoemnaaProg.lean LOADS. Nothing in Lean hashes anything: it is a label: what it is worth is what the hold of that sum in a sandbox is worth. -/
noncomputable def Try.pinned : Pinned := { name := "ytlffjnmbpoemnaa", sum := "3c5c88adb34bd65b9d523389450bc70f915cd6509b11a59ce1bf53aaa8de714f", checked := Try.checked }
namespace Rows
def none {H : Type} : Left H := { results := [], args := [] }

/-- 'handshapelaw08.SecretsNone': WHATEVER THE INPUT: true; the input reads as it did. -/
def secretsNoneSpec : ChangeSpec := { name := "secretsNone", fn := fun _ => fun
  | [d1, d2, d3] => { results := [.lit (.bool true)], args := [d1, d2, d3] }
  | _ => none }
def secretsNoneRow : OpenClaim := { program := "ytlffjnmbpoemnaa", sum := "3c5c88adb34bd65b9d523389450bc70f915cd6509b11a59ce1bf53aaa8de714f", func := "handshape/handshapelaw08.SecretsNone", spec := "secretsNone", unfollowed := true, recurses := true, apart := false }
def SecretsNoneSaid : Prop := secretsNoneRow.holds Try.pinned (OpenSpec.ofChange secretsNoneSpec)

/-- ITS FALSE NEIGHBOUR: 'it returns false'. Refute it at one input. -/
def secretsNoneWrong : ChangeSpec := { name := "secretsNone", fn := fun _ => fun
  | [d1, d2, d3] => { results := [.lit (.bool false)], args := [d1, d2, d3] }
  | _ => none }
def SecretsNoneWrongFalsely : Prop := secretsNoneRow.holds Try.pinned (OpenSpec.ofChange secretsNoneWrong)

/-- 'handshapelaw08.SecretsBest': WHATEVER THE INPUT: true; the input reads as it did. -/
def secretsBestSpec : ChangeSpec := { name := "secretsBest", fn := fun _ => fun
  | [d] => { results := [.lit (.bool true)], args := [d] }
  | _ => none }
def secretsBestRow : OpenClaim := { program := "ytlffjnmbpoemnaa", sum := "3c5c88adb34bd65b9d523389450bc70f915cd6509b11a59ce1bf53aaa8de714f", func := "handshape/handshapelaw08.SecretsBest", spec := "secretsBest", unfollowed := true, recurses := true, apart := false }
def SecretsBestSaid : Prop := secretsBestRow.holds Try.pinned (OpenSpec.ofChange secretsBestSpec)

/-- ITS FALSE NEIGHBOUR: 'it returns false'. Refute it at one input. -/
def secretsBestWrong : ChangeSpec := { name := "secretsBest", fn := fun _ => fun
  | [d] => { results := [.lit (.bool false)], args := [d] }
  | _ => none }
def SecretsBestWrongFalsely : Prop := secretsBestRow.holds Try.pinned (OpenSpec.ofChange secretsBestWrong)

/-- 'handshapelaw08.SecretsMore': WHATEVER THE INPUT: true; the input reads as it did. -/
def secretsMoreSpec : ChangeSpec := { name := "secretsMore", fn := fun _ => fun
  | [d1, d2, d3] => { results := [.lit (.bool true)], args := [d1, d2, d3] }
  | _ => none }
def secretsMoreRow : OpenClaim := { program := "ytlffjnmbpoemnaa", sum := "3c5c88adb34bd65b9d523389450bc70f915cd6509b11a59ce1bf53aaa8de714f", func := "handshape/handshapelaw08.SecretsMore", spec := "secretsMore", unfollowed := true, recurses := true, apart := false }
def SecretsMoreSaid : Prop := secretsMoreRow.holds Try.pinned (OpenSpec.ofChange secretsMoreSpec)

/-- ITS FALSE NEIGHBOUR: 'it returns false'. Refute it at one input. -/
def secretsMoreWrong : ChangeSpec := { name := "secretsMore", fn := fun _ => fun
  | [d1, d2, d3] => { results := [.lit (.bool false)], args := [d1, d2, d3] }
  | _ => none }
def SecretsMoreWrongFalsely : Prop := secretsMoreRow.holds Try.pinned (OpenSpec.ofChange secretsMoreWrong)

/-- 'handshapelaw08.SecretsFewest': WHATEVER THE INPUT: true; the input reads as it did. -/
def secretsFewestSpec : ChangeSpec := { name := "secretsFewest", fn := fun _ => fun
  | [d1, d2] => { results := [.lit (.bool true)], args := [d1, d2] }
  | _ => none }
def secretsFewestRow : OpenClaim := { program := "ytlffjnmbpoemnaa", sum := "3c5c88adb34bd65b9d523389450bc70f915cd6509b11a59ce1bf53aaa8de714f", func := "handshape/handshapelaw08.SecretsFewest", spec := "secretsFewest", unfollowed := true, recurses := true, apart := false }
def SecretsFewestSaid : Prop := secretsFewestRow.holds Try.pinned (OpenSpec.ofChange secretsFewestSpec)

/-- ITS FALSE NEIGHBOUR: 'it returns false'. Refute it at one input. -/
def secretsFewestWrong : ChangeSpec := { name := "secretsFewest", fn := fun _ => fun
  | [d1, d2] => { results := [.lit (.bool false)], args := [d1, d2] }
  | _ => none }
def SecretsFewestWrongFalsely : Prop := secretsFewestRow.holds Try.pinned (OpenSpec.ofChange secretsFewestWrong)

/-- 'handshapelaw08.SecretsKnown': WHATEVER THE INPUT: true; the input reads as it did. -/
def secretsKnownSpec : ChangeSpec := { name := "secretsKnown", fn := fun _ => fun
  | [d1, d2, d3] => { results := [.lit (.bool true)], args := [d1, d2, d3] }
  | _ => none }
def secretsKnownRow : OpenClaim := { program := "ytlffjnmbpoemnaa", sum := "3c5c88adb34bd65b9d523389450bc70f915cd6509b11a59ce1bf53aaa8de714f", func := "handshape/handshapelaw08.SecretsKnown", spec := "secretsKnown", unfollowed := true, recurses := true, apart := false }
def SecretsKnownSaid : Prop := secretsKnownRow.holds Try.pinned (OpenSpec.ofChange secretsKnownSpec)

/-- ITS FALSE NEIGHBOUR: 'it returns false'. Refute it at one input. -/
def secretsKnownWrong : ChangeSpec := { name := "secretsKnown", fn := fun _ => fun
  | [d1, d2, d3] => { results := [.lit (.bool false)], args := [d1, d2, d3] }
  | _ => none }
def SecretsKnownWrongFalsely : Prop := secretsKnownRow.holds Try.pinned (OpenSpec.ofChange secretsKnownWrong)

/-- 'handshapelaw08.SecretsTrue': WHATEVER THE INPUT: true; the input reads as it did. -/
def secretsTrueSpec : ChangeSpec := { name := "secretsTrue", fn := fun _ => fun
  | [d1, d2] => { results := [.lit (.bool true)], args := [d1, d2] }
  | _ => none }
def secretsTrueRow : OpenClaim := { program := "ytlffjnmbpoemnaa", sum := "3c5c88adb34bd65b9d523389450bc70f915cd6509b11a59ce1bf53aaa8de714f", func := "handshape/handshapelaw08.SecretsTrue", spec := "secretsTrue", unfollowed := true, recurses := true, apart := false }
def SecretsTrueSaid : Prop := secretsTrueRow.holds Try.pinned (OpenSpec.ofChange secretsTrueSpec)

/-- ITS FALSE NEIGHBOUR: 'it returns false'. Refute it at one input. -/
def secretsTrueWrong : ChangeSpec := { name := "secretsTrue", fn := fun _ => fun
  | [d1, d2] => { results := [.lit (.bool false)], args := [d1, d2] }
  | _ => none }
def SecretsTrueWrongFalsely : Prop := secretsTrueRow.holds Try.pinned (OpenSpec.ofChange secretsTrueWrong)

/-- 'handshapelaw08.SecretsShows': WHATEVER THE INPUT: true; the input reads as it did. -/
def secretsShowsSpec : ChangeSpec := { name := "secretsShows", fn := fun _ => fun
  | [d1, d2, d3] => { results := [.lit (.bool true)], args := [d1, d2, d3] }
  | _ => none }
def secretsShowsRow : OpenClaim := { program := "ytlffjnmbpoemnaa", sum := "3c5c88adb34bd65b9d523389450bc70f915cd6509b11a59ce1bf53aaa8de714f", func := "handshape/handshapelaw08.SecretsShows", spec := "secretsShows", unfollowed := true, recurses := true, apart := false }
def SecretsShowsSaid : Prop := secretsShowsRow.holds Try.pinned (OpenSpec.ofChange secretsShowsSpec)

/-- ITS FALSE NEIGHBOUR: 'it returns false'. Refute it at one input. -/
def secretsShowsWrong : ChangeSpec := { name := "secretsShows", fn := fun _ => fun
  | [d1, d2, d3] => { results := [.lit (.bool false)], args := [d1, d2, d3] }
  | _ => none }
def SecretsShowsWrongFalsely : Prop := secretsShowsRow.holds Try.pinned (OpenSpec.ofChange secretsShowsWrong)

/-- 'handshapelaw08.SecretsOther': WHATEVER THE INPUT: true; the input reads as it did. -/
def secretsOtherSpec : ChangeSpec := { name := "secretsOther", fn := fun _ => fun
  | [d1, d2, d3] => { results := [.lit (.bool true)], args := [d1, d2, d3] }
  | _ => none }
def secretsOtherRow : OpenClaim := { program := "ytlffjnmbpoemnaa", sum := "3c5c88adb34bd65b9d523389450bc70f915cd6509b11a59ce1bf53aaa8de714f", func := "handshape/handshapelaw08.SecretsOther", spec := "secretsOther", unfollowed := true, recurses := true, apart := false }
def SecretsOtherSaid : Prop := secretsOtherRow.holds Try.pinned (OpenSpec.ofChange secretsOtherSpec)

/-- ITS FALSE NEIGHBOUR: 'it returns false'. Refute it at one input. -/
def secretsOtherWrong : ChangeSpec := { name := "secretsOther", fn := fun _ => fun
  | [d1, d2, d3] => { results := [.lit (.bool false)], args := [d1, d2, d3] }
  | _ => none }
def SecretsOtherWrongFalsely : Prop := secretsOtherRow.holds Try.pinned (OpenSpec.ofChange secretsOtherWrong)

/-- 'handshapelaw08.SecretsAlike': WHATEVER THE INPUT: true; the input reads as it did. -/
def secretsAlikeSpec : ChangeSpec := { name := "secretsAlike", fn := fun _ => fun
  | [d1, d2, d3] => { results := [.lit (.bool true)], args := [d1, d2, d3] }
  | _ => none }
def secretsAlikeRow : OpenClaim := { program := "ytlffjnmbpoemnaa", sum := "3c5c88adb34bd65b9d523389450bc70f915cd6509b11a59ce1bf53aaa8de714f", func := "handshape/handshapelaw08.SecretsAlike", spec := "secretsAlike", unfollowed := true, recurses := true, apart := false }
def SecretsAlikeSaid : Prop := secretsAlikeRow.holds Try.pinned (OpenSpec.ofChange secretsAlikeSpec)

/-- ITS FALSE NEIGHBOUR: 'it returns false'. Refute it at one input. -/
def secretsAlikeWrong : ChangeSpec := { name := "secretsAlike", fn := fun _ => fun
  | [d1, d2, d3] => { results := [.lit (.bool false)], args := [d1, d2, d3] }
  | _ => none }
def SecretsAlikeWrongFalsely : Prop := secretsAlikeRow.holds Try.pinned (OpenSpec.ofChange secretsAlikeWrong)

/- THE SECOND FORM. 'bulk': how many values and letters a reading holds, each counted each time it is reached (what is shared counts as often as it is met; a slice's spare places count too). A statement '..UptoSaid' is the law's where the arguments, and the package variables that the reading takes, are together of bulk at most 1048576: NARROWER than '..Said'. Prove '..Said' where nothing that the law and all that it calls make is longer than what came in: it says more and counts as full. Else prove '..UptoSaid'. A law counts once. -/
mutual
def uptoBulk {H : Type} : DataW H → Nat
  | .lit (.string bytes) => bytes.length + 1
  | .lit _ => 1
  | .nil => 1
  | .ptr d => uptoBulk d + 1
  | .slice elems spare => uptoBulkAll elems + uptoBulkAll spare + 1
  | .agg parts => uptoBulkAll parts + 1
  | .iface _ d => uptoBulk d + 1
  | .map entries => uptoBulkEntries entries + 1
  | .held _ => 1
def uptoBulkAll {H : Type} : List (DataW H) → Nat
  | [] => 0
  | d :: r => uptoBulk d + uptoBulkAll r
def uptoBulkEntries {H : Type} : List (Lit × DataW H) → Nat
  | [] => 0
  | x :: r => uptoBulkEntry x + uptoBulkEntries r
def uptoBulkEntry {H : Type} : Lit × DataW H → Nat
  | (.string bytes, d) => bytes.length + uptoBulk d + 1
  | (_, d) => uptoBulk d + 1
 end
def uptoSmall : (H : Type) → List (DataW H) → Bool := fun _ ds => decide (uptoBulkAll ds ≤ 1048576)
def OpenSpec.upto (s : _root_.Go.ChangeSpec) : _root_.Go.OpenSpec := { _root_.Go.OpenSpec.ofChange s with cond := some uptoSmall }

/-- 'handshapelaw08.SecretsNone', WHERE WHAT IT READS IS OF BULK AT MOST 1048576: true; the input reads as it did. -/
def secretsNoneUptoRow : OpenClaim := { program := "ytlffjnmbpoemnaa", sum := "3c5c88adb34bd65b9d523389450bc70f915cd6509b11a59ce1bf53aaa8de714f", func := "handshape/handshapelaw08.SecretsNone", spec := "secretsNone", unfollowed := true, recurses := true, apart := false, narrowed := true }
def SecretsNoneUptoSaid : Prop := secretsNoneUptoRow.holds Try.pinned (OpenSpec.upto secretsNoneSpec)

/-- 'handshapelaw08.SecretsBest', WHERE WHAT IT READS IS OF BULK AT MOST 1048576: true; the input reads as it did. -/
def secretsBestUptoRow : OpenClaim := { program := "ytlffjnmbpoemnaa", sum := "3c5c88adb34bd65b9d523389450bc70f915cd6509b11a59ce1bf53aaa8de714f", func := "handshape/handshapelaw08.SecretsBest", spec := "secretsBest", unfollowed := true, recurses := true, apart := false, narrowed := true }
def SecretsBestUptoSaid : Prop := secretsBestUptoRow.holds Try.pinned (OpenSpec.upto secretsBestSpec)

/-- 'handshapelaw08.SecretsMore', WHERE WHAT IT READS IS OF BULK AT MOST 1048576: true; the input reads as it did. -/
def secretsMoreUptoRow : OpenClaim := { program := "ytlffjnmbpoemnaa", sum := "3c5c88adb34bd65b9d523389450bc70f915cd6509b11a59ce1bf53aaa8de714f", func := "handshape/handshapelaw08.SecretsMore", spec := "secretsMore", unfollowed := true, recurses := true, apart := false, narrowed := true }
def SecretsMoreUptoSaid : Prop := secretsMoreUptoRow.holds Try.pinned (OpenSpec.upto secretsMoreSpec)

/-- 'handshapelaw08.SecretsFewest', WHERE WHAT IT READS IS OF BULK AT MOST 1048576: true; the input reads as it did. -/
def secretsFewestUptoRow : OpenClaim := { program := "ytlffjnmbpoemnaa", sum := "3c5c88adb34bd65b9d523389450bc70f915cd6509b11a59ce1bf53aaa8de714f", func := "handshape/handshapelaw08.SecretsFewest", spec := "secretsFewest", unfollowed := true, recurses := true, apart := false, narrowed := true }
def SecretsFewestUptoSaid : Prop := secretsFewestUptoRow.holds Try.pinned (OpenSpec.upto secretsFewestSpec)

/-- 'handshapelaw08.SecretsKnown', WHERE WHAT IT READS IS OF BULK AT MOST 1048576: true; the input reads as it did. -/
def secretsKnownUptoRow : OpenClaim := { program := "ytlffjnmbpoemnaa", sum := "3c5c88adb34bd65b9d523389450bc70f915cd6509b11a59ce1bf53aaa8de714f", func := "handshape/handshapelaw08.SecretsKnown", spec := "secretsKnown", unfollowed := true, recurses := true, apart := false, narrowed := true }
def SecretsKnownUptoSaid : Prop := secretsKnownUptoRow.holds Try.pinned (OpenSpec.upto secretsKnownSpec)

/-- 'handshapelaw08.SecretsTrue', WHERE WHAT IT READS IS OF BULK AT MOST 1048576: true; the input reads as it did. -/
def secretsTrueUptoRow : OpenClaim := { program := "ytlffjnmbpoemnaa", sum := "3c5c88adb34bd65b9d523389450bc70f915cd6509b11a59ce1bf53aaa8de714f", func := "handshape/handshapelaw08.SecretsTrue", spec := "secretsTrue", unfollowed := true, recurses := true, apart := false, narrowed := true }
def SecretsTrueUptoSaid : Prop := secretsTrueUptoRow.holds Try.pinned (OpenSpec.upto secretsTrueSpec)

/-- 'handshapelaw08.SecretsShows', WHERE WHAT IT READS IS OF BULK AT MOST 1048576: true; the input reads as it did. -/
def secretsShowsUptoRow : OpenClaim := { program := "ytlffjnmbpoemnaa", sum := "3c5c88adb34bd65b9d523389450bc70f915cd6509b11a59ce1bf53aaa8de714f", func := "handshape/handshapelaw08.SecretsShows", spec := "secretsShows", unfollowed := true, recurses := true, apart := false, narrowed := true }
def SecretsShowsUptoSaid : Prop := secretsShowsUptoRow.holds Try.pinned (OpenSpec.upto secretsShowsSpec)

/-- 'handshapelaw08.SecretsOther', WHERE WHAT IT READS IS OF BULK AT MOST 1048576: true; the input reads as it did. -/
def secretsOtherUptoRow : OpenClaim := { program := "ytlffjnmbpoemnaa", sum := "3c5c88adb34bd65b9d523389450bc70f915cd6509b11a59ce1bf53aaa8de714f", func := "handshape/handshapelaw08.SecretsOther", spec := "secretsOther", unfollowed := true, recurses := true, apart := false, narrowed := true }
def SecretsOtherUptoSaid : Prop := secretsOtherUptoRow.holds Try.pinned (OpenSpec.upto secretsOtherSpec)

/-- 'handshapelaw08.SecretsAlike', WHERE WHAT IT READS IS OF BULK AT MOST 1048576: true; the input reads as it did. -/
def secretsAlikeUptoRow : OpenClaim := { program := "ytlffjnmbpoemnaa", sum := "3c5c88adb34bd65b9d523389450bc70f915cd6509b11a59ce1bf53aaa8de714f", func := "handshape/handshapelaw08.SecretsAlike", spec := "secretsAlike", unfollowed := true, recurses := true, apart := false, narrowed := true }
def SecretsAlikeUptoSaid : Prop := secretsAlikeUptoRow.holds Try.pinned (OpenSpec.upto secretsAlikeSpec)

end Rows
end Go.Proofs.Ytlffjnmbpoemnaa
