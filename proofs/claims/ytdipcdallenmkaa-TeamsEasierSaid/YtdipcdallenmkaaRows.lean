/-
  No cell of these rows narrows 'for every input' (looked for: loops, veiled, ifaces, maps, wideKeys, modest, calm, conditions, laid).
  DERIVED. THE GIVEN ROWS OF THIS SEAT. 7 by the template 'for every input the law returns true; each argument reads behind the call as it read before'; 0 by the template 'total and deterministic' (their statements: YtdipcdallenmkaaTotals.lean).
  GIVEN WITH THE SEED: the statements are not yours to turn. If you find one false, say at which input.
  Laid BY PROGRAM, IN A SANDBOX (cutbox-rows.mjs): the forced cells as the released guide's own fill.sh prints them over the translation 9d9cab157e7ded18… (all of the seat's roots in one cut). By AI agents, Wed Nov 11 2026. No macro, syntax, notation, axiom, sorry.
-/
import Derived.Test.YtdipcdallenmkaaChecked
import GoSem.Claim
import GoSem.ClaimJoined
import GoSem.ClaimMapViews
import Derived.JoinedTies
import Derived.KernelRfl
namespace Go.Proofs.Ytdipcdallenmkaa
/- THE CELL 'sum', in the pinned program and in every row, IS THE sha256 OF THE DUMP (.gsa) THAT YtdipcdallenmkaaProg.lean LOADS. Nothing in Lean hashes anything: it is a label: what it is worth is what the hold of that sum in a sandbox is worth. -/
noncomputable def Try.pinned : Pinned := { name := "ytdipcdallenmkaa", sum := "9d9cab157e7ded18bb3c4e4efa194f0bfdd18ccd7bf42fe7b0470d97e3488d15", checked := Try.checked }
namespace Rows
def none {H : Type} : Left H := { results := [], args := [] }

/-- 'handshapelaw03.TeamsEasier': WHATEVER THE INPUT: true; the input reads as it did. -/
def teamsEasierSpec : ChangeSpec := { name := "teamsEasier", fn := fun _ => fun
  | [d1, d2, d3] => { results := [.lit (.bool true)], args := [d1, d2, d3] }
  | _ => none }
def teamsEasierRow : OpenClaim := { program := "ytdipcdallenmkaa", sum := "9d9cab157e7ded18bb3c4e4efa194f0bfdd18ccd7bf42fe7b0470d97e3488d15", func := "handshape/handshapelaw03.TeamsEasier", spec := "teamsEasier", unfollowed := true, recurses := true, apart := false }
def TeamsEasierSaid : Prop := teamsEasierRow.holds Try.pinned (OpenSpec.ofChange teamsEasierSpec)

/-- ITS FALSE NEIGHBOUR: 'it returns false'. Refute it at one input. -/
def teamsEasierWrong : ChangeSpec := { name := "teamsEasier", fn := fun _ => fun
  | [d1, d2, d3] => { results := [.lit (.bool false)], args := [d1, d2, d3] }
  | _ => none }
def TeamsEasierWrongFalsely : Prop := teamsEasierRow.holds Try.pinned (OpenSpec.ofChange teamsEasierWrong)

/-- 'handshapelaw03.TeamsProof': WHATEVER THE INPUT: true; the input reads as it did. -/
def teamsProofSpec : ChangeSpec := { name := "teamsProof", fn := fun _ => fun
  | [d1, d2, d3, d4] => { results := [.lit (.bool true)], args := [d1, d2, d3, d4] }
  | _ => none }
def teamsProofRow : OpenClaim := { program := "ytdipcdallenmkaa", sum := "9d9cab157e7ded18bb3c4e4efa194f0bfdd18ccd7bf42fe7b0470d97e3488d15", func := "handshape/handshapelaw03.TeamsProof", spec := "teamsProof", unfollowed := true, recurses := true, apart := false }
def TeamsProofSaid : Prop := teamsProofRow.holds Try.pinned (OpenSpec.ofChange teamsProofSpec)

/-- ITS FALSE NEIGHBOUR: 'it returns false'. Refute it at one input. -/
def teamsProofWrong : ChangeSpec := { name := "teamsProof", fn := fun _ => fun
  | [d1, d2, d3, d4] => { results := [.lit (.bool false)], args := [d1, d2, d3, d4] }
  | _ => none }
def TeamsProofWrongFalsely : Prop := teamsProofRow.holds Try.pinned (OpenSpec.ofChange teamsProofWrong)

/-- 'handshapelaw03.TeamsChain': WHATEVER THE INPUT: true; the input reads as it did. -/
def teamsChainSpec : ChangeSpec := { name := "teamsChain", fn := fun _ => fun
  | [d1, d2, d3, d4] => { results := [.lit (.bool true)], args := [d1, d2, d3, d4] }
  | _ => none }
def teamsChainRow : OpenClaim := { program := "ytdipcdallenmkaa", sum := "9d9cab157e7ded18bb3c4e4efa194f0bfdd18ccd7bf42fe7b0470d97e3488d15", func := "handshape/handshapelaw03.TeamsChain", spec := "teamsChain", unfollowed := true, recurses := true, apart := false }
def TeamsChainSaid : Prop := teamsChainRow.holds Try.pinned (OpenSpec.ofChange teamsChainSpec)

/-- ITS FALSE NEIGHBOUR: 'it returns false'. Refute it at one input. -/
def teamsChainWrong : ChangeSpec := { name := "teamsChain", fn := fun _ => fun
  | [d1, d2, d3, d4] => { results := [.lit (.bool false)], args := [d1, d2, d3, d4] }
  | _ => none }
def TeamsChainWrongFalsely : Prop := teamsChainRow.holds Try.pinned (OpenSpec.ofChange teamsChainWrong)

/-- 'handshapelaw03.TeamsRules': WHATEVER THE INPUT: true; the input reads as it did. -/
def teamsRulesSpec : ChangeSpec := { name := "teamsRules", fn := fun _ => fun
  | [d1, d2, d3] => { results := [.lit (.bool true)], args := [d1, d2, d3] }
  | _ => none }
def teamsRulesRow : OpenClaim := { program := "ytdipcdallenmkaa", sum := "9d9cab157e7ded18bb3c4e4efa194f0bfdd18ccd7bf42fe7b0470d97e3488d15", func := "handshape/handshapelaw03.TeamsRules", spec := "teamsRules", unfollowed := true, recurses := true, apart := false }
def TeamsRulesSaid : Prop := teamsRulesRow.holds Try.pinned (OpenSpec.ofChange teamsRulesSpec)

/-- ITS FALSE NEIGHBOUR: 'it returns false'. Refute it at one input. -/
def teamsRulesWrong : ChangeSpec := { name := "teamsRules", fn := fun _ => fun
  | [d1, d2, d3] => { results := [.lit (.bool false)], args := [d1, d2, d3] }
  | _ => none }
def TeamsRulesWrongFalsely : Prop := teamsRulesRow.holds Try.pinned (OpenSpec.ofChange teamsRulesWrong)

/-- 'handshapelaw03.TeamsCheapest': WHATEVER THE INPUT: true; the input reads as it did. -/
def teamsCheapestSpec : ChangeSpec := { name := "teamsCheapest", fn := fun _ => fun
  | [d1, d2, d3] => { results := [.lit (.bool true)], args := [d1, d2, d3] }
  | _ => none }
def teamsCheapestRow : OpenClaim := { program := "ytdipcdallenmkaa", sum := "9d9cab157e7ded18bb3c4e4efa194f0bfdd18ccd7bf42fe7b0470d97e3488d15", func := "handshape/handshapelaw03.TeamsCheapest", spec := "teamsCheapest", unfollowed := true, recurses := true, apart := false }
def TeamsCheapestSaid : Prop := teamsCheapestRow.holds Try.pinned (OpenSpec.ofChange teamsCheapestSpec)

/-- ITS FALSE NEIGHBOUR: 'it returns false'. Refute it at one input. -/
def teamsCheapestWrong : ChangeSpec := { name := "teamsCheapest", fn := fun _ => fun
  | [d1, d2, d3] => { results := [.lit (.bool false)], args := [d1, d2, d3] }
  | _ => none }
def TeamsCheapestWrongFalsely : Prop := teamsCheapestRow.holds Try.pinned (OpenSpec.ofChange teamsCheapestWrong)

/-- 'handshapelaw03.TeamsTeam': WHATEVER THE INPUT: true; the input reads as it did. -/
def teamsTeamSpec : ChangeSpec := { name := "teamsTeam", fn := fun _ => fun
  | [d1, d2] => { results := [.lit (.bool true)], args := [d1, d2] }
  | _ => none }
def teamsTeamRow : OpenClaim := { program := "ytdipcdallenmkaa", sum := "9d9cab157e7ded18bb3c4e4efa194f0bfdd18ccd7bf42fe7b0470d97e3488d15", func := "handshape/handshapelaw03.TeamsTeam", spec := "teamsTeam", unfollowed := true, recurses := true, apart := false }
def TeamsTeamSaid : Prop := teamsTeamRow.holds Try.pinned (OpenSpec.ofChange teamsTeamSpec)

/-- ITS FALSE NEIGHBOUR: 'it returns false'. Refute it at one input. -/
def teamsTeamWrong : ChangeSpec := { name := "teamsTeam", fn := fun _ => fun
  | [d1, d2] => { results := [.lit (.bool false)], args := [d1, d2] }
  | _ => none }
def TeamsTeamWrongFalsely : Prop := teamsTeamRow.holds Try.pinned (OpenSpec.ofChange teamsTeamWrong)

/-- 'handshapelaw03.TeamsVital': WHATEVER THE INPUT: true; the input reads as it did. -/
def teamsVitalSpec : ChangeSpec := { name := "teamsVital", fn := fun _ => fun
  | [d1, d2, d3] => { results := [.lit (.bool true)], args := [d1, d2, d3] }
  | _ => none }
def teamsVitalRow : OpenClaim := { program := "ytdipcdallenmkaa", sum := "9d9cab157e7ded18bb3c4e4efa194f0bfdd18ccd7bf42fe7b0470d97e3488d15", func := "handshape/handshapelaw03.TeamsVital", spec := "teamsVital", unfollowed := true, recurses := true, apart := false }
def TeamsVitalSaid : Prop := teamsVitalRow.holds Try.pinned (OpenSpec.ofChange teamsVitalSpec)

/-- ITS FALSE NEIGHBOUR: 'it returns false'. Refute it at one input. -/
def teamsVitalWrong : ChangeSpec := { name := "teamsVital", fn := fun _ => fun
  | [d1, d2, d3] => { results := [.lit (.bool false)], args := [d1, d2, d3] }
  | _ => none }
def TeamsVitalWrongFalsely : Prop := teamsVitalRow.holds Try.pinned (OpenSpec.ofChange teamsVitalWrong)

/- THE SECOND FORM. 'bulk': how many values and letters a reading holds, each counted each time it is reached (what is shared counts as often as it is met; a slice's spare places count too). A statement '..UptoSaid' is the law's where the arguments, and the package variables that the reading takes, are together of bulk at most 1048576: NARROWER than '..Said'. Prove '..Said' where nothing that the law and all that it calls make is longer than what came in: it says more and counts as full. Else prove '..UptoSaid'. A law counts once. -/
mutual
def uptoBulk {H : Type} : DataW H → Nat
  | .lit (.string bytes) => bytes.length + 1
  | .lit _ => 1
  | .nil => 1
  | .ptr d => uptoBulk d + 1
  | .slice elems spare => uptoBulkAll elems + uptoBulkAll spare + 1
  | .agg parts => uptoBulkAll parts + 1
  | .iface _ d => uptoBulk d + 1
  | .map entries => uptoBulkEntries entries + 1
  | .held _ => 1
def uptoBulkAll {H : Type} : List (DataW H) → Nat
  | [] => 0
  | d :: r => uptoBulk d + uptoBulkAll r
def uptoBulkEntries {H : Type} : List (Lit × DataW H) → Nat
  | [] => 0
  | x :: r => uptoBulkEntry x + uptoBulkEntries r
def uptoBulkEntry {H : Type} : Lit × DataW H → Nat
  | (.string bytes, d) => bytes.length + uptoBulk d + 1
  | (_, d) => uptoBulk d + 1
 end
def uptoSmall : (H : Type) → List (DataW H) → Bool := fun _ ds => decide (uptoBulkAll ds ≤ 1048576)
def OpenSpec.upto (s : _root_.Go.ChangeSpec) : _root_.Go.OpenSpec := { _root_.Go.OpenSpec.ofChange s with cond := some uptoSmall }

/-- 'handshapelaw03.TeamsEasier', WHERE WHAT IT READS IS OF BULK AT MOST 1048576: true; the input reads as it did. -/
def teamsEasierUptoRow : OpenClaim := { program := "ytdipcdallenmkaa", sum := "9d9cab157e7ded18bb3c4e4efa194f0bfdd18ccd7bf42fe7b0470d97e3488d15", func := "handshape/handshapelaw03.TeamsEasier", spec := "teamsEasier", unfollowed := true, recurses := true, apart := false, narrowed := true }
def TeamsEasierUptoSaid : Prop := teamsEasierUptoRow.holds Try.pinned (OpenSpec.upto teamsEasierSpec)

/-- 'handshapelaw03.TeamsProof', WHERE WHAT IT READS IS OF BULK AT MOST 1048576: true; the input reads as it did. -/
def teamsProofUptoRow : OpenClaim := { program := "ytdipcdallenmkaa", sum := "9d9cab157e7ded18bb3c4e4efa194f0bfdd18ccd7bf42fe7b0470d97e3488d15", func := "handshape/handshapelaw03.TeamsProof", spec := "teamsProof", unfollowed := true, recurses := true, apart := false, narrowed := true }
def TeamsProofUptoSaid : Prop := teamsProofUptoRow.holds Try.pinned (OpenSpec.upto teamsProofSpec)

/-- 'handshapelaw03.TeamsChain', WHERE WHAT IT READS IS OF BULK AT MOST 1048576: true; the input reads as it did. -/
def teamsChainUptoRow : OpenClaim := { program := "ytdipcdallenmkaa", sum := "9d9cab157e7ded18bb3c4e4efa194f0bfdd18ccd7bf42fe7b0470d97e3488d15", func := "handshape/handshapelaw03.TeamsChain", spec := "teamsChain", unfollowed := true, recurses := true, apart := false, narrowed := true }
def TeamsChainUptoSaid : Prop := teamsChainUptoRow.holds Try.pinned (OpenSpec.upto teamsChainSpec)

/-- 'handshapelaw03.TeamsRules', WHERE WHAT IT READS IS OF BULK AT MOST 1048576: true; the input reads as it did. -/
def teamsRulesUptoRow : OpenClaim := { program := "ytdipcdallenmkaa", sum := "9d9cab157e7ded18bb3c4e4efa194f0bfdd18ccd7bf42fe7b0470d97e3488d15", func := "handshape/handshapelaw03.TeamsRules", spec := "teamsRules", unfollowed := true, recurses := true, apart := false, narrowed := true }
def TeamsRulesUptoSaid : Prop := teamsRulesUptoRow.holds Try.pinned (OpenSpec.upto teamsRulesSpec)

/-- 'handshapelaw03.TeamsCheapest', WHERE WHAT IT READS IS OF BULK AT MOST 1048576: true; the input reads as it did. -/
def teamsCheapestUptoRow : OpenClaim := { program := "ytdipcdallenmkaa", sum := "9d9cab157e7ded18bb3c4e4efa194f0bfdd18ccd7bf42fe7b0470d97e3488d15", func := "handshape/handshapelaw03.TeamsCheapest", spec := "teamsCheapest", unfollowed := true, recurses := true, apart := false, narrowed := true }
def TeamsCheapestUptoSaid : Prop := teamsCheapestUptoRow.holds Try.pinned (OpenSpec.upto teamsCheapestSpec)

/-- 'handshapelaw03.TeamsTeam', WHERE WHAT IT READS IS OF BULK AT MOST 1048576: true; the input reads as it did. -/
def teamsTeamUptoRow : OpenClaim := { program := "ytdipcdallenmkaa", sum := "9d9cab157e7ded18bb3c4e4efa194f0bfdd18ccd7bf42fe7b0470d97e3488d15", func := "handshape/handshapelaw03.TeamsTeam", spec := "teamsTeam", unfollowed := true, recurses := true, apart := false, narrowed := true }
def TeamsTeamUptoSaid : Prop := teamsTeamUptoRow.holds Try.pinned (OpenSpec.upto teamsTeamSpec)

/-- 'handshapelaw03.TeamsVital', WHERE WHAT IT READS IS OF BULK AT MOST 1048576: true; the input reads as it did. -/
def teamsVitalUptoRow : OpenClaim := { program := "ytdipcdallenmkaa", sum := "9d9cab157e7ded18bb3c4e4efa194f0bfdd18ccd7bf42fe7b0470d97e3488d15", func := "handshape/handshapelaw03.TeamsVital", spec := "teamsVital", unfollowed := true, recurses := true, apart := false, narrowed := true }
def TeamsVitalUptoSaid : Prop := teamsVitalUptoRow.holds Try.pinned (OpenSpec.upto teamsVitalSpec)

end Rows
end Go.Proofs.Ytdipcdallenmkaa
