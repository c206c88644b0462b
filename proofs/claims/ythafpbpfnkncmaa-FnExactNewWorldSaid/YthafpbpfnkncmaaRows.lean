/-
  No cell of these rows narrows 'for every input' (looked for: loops, veiled, ifaces, maps, wideKeys, modest, calm, conditions, laid).
  DERIVED. THE GIVEN ROWS OF THIS SEAT. 12 by the template 'for every input the law returns true; each argument reads behind the call as it read before'; 0 by the template 'total and deterministic' (their statements: YthafpbpfnkncmaaTotals.lean).
  GIVEN WITH THE SEED: the statements are not yours to turn. If you find one false, say at which input.
  Laid BY PROGRAM, IN A SANDBOX (cutbox-rows.mjs): the forced cells as the released guide's own fill.sh prints them over the translation dd740f57af4bd74b… (all of the seat's roots in one cut). By AI agents, Wed Nov 11 2026. No macro, syntax, notation, axiom, sorry.
-/
import Derived.Test.YthafpbpfnkncmaaChecked
import GoSem.Claim
import GoSem.ClaimJoined
import GoSem.ClaimMapViews
import Derived.JoinedTies
import Derived.KernelRfl
namespace Go.Proofs.Ythafpbpfnkncmaa
/- THE CELL 'sum', in the pinned program and in every row, IS THE sha256 OF THE DUMP (.gsa) THAT YthafpbpfnkncmaaProg.lean LOADS. Nothing in Lean hashes anything: it is a label: what it is worth is what the hold of that sum in a sandbox is worth. -/
noncomputable def Try.pinned : Pinned := { name := "ythafpbpfnkncmaa", sum := "dd740f57af4bd74b7f8d9572a9d34c12d1aa80707e49e37c4cc35803a5c3098d", checked := Try.checked }
namespace Rows
def none {H : Type} : Left H := { results := [], args := [] }

/-- 'laws.FnExactTakePull': WHATEVER THE INPUT: true; the input reads as it did. -/
def fnExactTakePullSpec : ChangeSpec := { name := "fnExactTakePull", fn := fun _ => fun
  | [d] => { results := [.lit (.bool true)], args := [d] }
  | _ => none }
def fnExactTakePullRow : OpenClaim := { program := "ythafpbpfnkncmaa", sum := "dd740f57af4bd74b7f8d9572a9d34c12d1aa80707e49e37c4cc35803a5c3098d", func := "loop.example/kilnwind/laws.FnExactTakePull", spec := "fnExactTakePull", plainKeys := false, apart := false }
def FnExactTakePullSaid : Prop := fnExactTakePullRow.holds Try.pinned (OpenSpec.ofChange fnExactTakePullSpec)

/-- ITS FALSE NEIGHBOUR: 'it returns false'. Refute it at one input. -/
def fnExactTakePullWrong : ChangeSpec := { name := "fnExactTakePull", fn := fun _ => fun
  | [d] => { results := [.lit (.bool false)], args := [d] }
  | _ => none }
def FnExactTakePullWrongFalsely : Prop := fnExactTakePullRow.holds Try.pinned (OpenSpec.ofChange fnExactTakePullWrong)

/-- 'laws.FnExactTakePart': WHATEVER THE INPUT: true; the input reads as it did. -/
def fnExactTakePartSpec : ChangeSpec := { name := "fnExactTakePart", fn := fun _ => fun
  | [d1, d2, d3] => { results := [.lit (.bool true)], args := [d1, d2, d3] }
  | _ => none }
def fnExactTakePartRow : OpenClaim := { program := "ythafpbpfnkncmaa", sum := "dd740f57af4bd74b7f8d9572a9d34c12d1aa80707e49e37c4cc35803a5c3098d", func := "loop.example/kilnwind/laws.FnExactTakePart", spec := "fnExactTakePart", plainKeys := false, apart := false }
def FnExactTakePartSaid : Prop := fnExactTakePartRow.holds Try.pinned (OpenSpec.ofChange fnExactTakePartSpec)

/-- ITS FALSE NEIGHBOUR: 'it returns false'. Refute it at one input. -/
def fnExactTakePartWrong : ChangeSpec := { name := "fnExactTakePart", fn := fun _ => fun
  | [d1, d2, d3] => { results := [.lit (.bool false)], args := [d1, d2, d3] }
  | _ => none }
def FnExactTakePartWrongFalsely : Prop := fnExactTakePartRow.holds Try.pinned (OpenSpec.ofChange fnExactTakePartWrong)

/-- 'laws.FnExactValidEnd': WHATEVER THE INPUT: true; the input reads as it did. -/
def fnExactValidEndSpec : ChangeSpec := { name := "fnExactValidEnd", fn := fun _ => fun
  | [d] => { results := [.lit (.bool true)], args := [d] }
  | _ => none }
def fnExactValidEndRow : OpenClaim := { program := "ythafpbpfnkncmaa", sum := "dd740f57af4bd74b7f8d9572a9d34c12d1aa80707e49e37c4cc35803a5c3098d", func := "loop.example/kilnwind/laws.FnExactValidEnd", spec := "fnExactValidEnd", plainKeys := false, apart := false }
def FnExactValidEndSaid : Prop := fnExactValidEndRow.holds Try.pinned (OpenSpec.ofChange fnExactValidEndSpec)

/-- ITS FALSE NEIGHBOUR: 'it returns false'. Refute it at one input. -/
def fnExactValidEndWrong : ChangeSpec := { name := "fnExactValidEnd", fn := fun _ => fun
  | [d] => { results := [.lit (.bool false)], args := [d] }
  | _ => none }
def FnExactValidEndWrongFalsely : Prop := fnExactValidEndRow.holds Try.pinned (OpenSpec.ofChange fnExactValidEndWrong)

/-- 'laws.FnExactNewWorld': WHATEVER THE INPUT: true; the input reads as it did. -/
def fnExactNewWorldSpec : ChangeSpec := { name := "fnExactNewWorld", fn := fun _ => fun
  | [d1, d2] => { results := [.lit (.bool true)], args := [d1, d2] }
  | _ => none }
def fnExactNewWorldRow : OpenClaim := { program := "ythafpbpfnkncmaa", sum := "dd740f57af4bd74b7f8d9572a9d34c12d1aa80707e49e37c4cc35803a5c3098d", func := "loop.example/kilnwind/laws.FnExactNewWorld", spec := "fnExactNewWorld", plainKeys := false, apart := false }
def FnExactNewWorldSaid : Prop := fnExactNewWorldRow.holds Try.pinned (OpenSpec.ofChange fnExactNewWorldSpec)

/-- ITS FALSE NEIGHBOUR: 'it returns false'. Refute it at one input. -/
def fnExactNewWorldWrong : ChangeSpec := { name := "fnExactNewWorld", fn := fun _ => fun
  | [d1, d2] => { results := [.lit (.bool false)], args := [d1, d2] }
  | _ => none }
def FnExactNewWorldWrongFalsely : Prop := fnExactNewWorldRow.holds Try.pinned (OpenSpec.ofChange fnExactNewWorldWrong)

/-- 'laws.FnExactEndFall': WHATEVER THE INPUT: true; the input reads as it did. -/
def fnExactEndFallSpec : ChangeSpec := { name := "fnExactEndFall", fn := fun _ => fun
  | [d] => { results := [.lit (.bool true)], args := [d] }
  | _ => none }
def fnExactEndFallRow : OpenClaim := { program := "ythafpbpfnkncmaa", sum := "dd740f57af4bd74b7f8d9572a9d34c12d1aa80707e49e37c4cc35803a5c3098d", func := "loop.example/kilnwind/laws.FnExactEndFall", spec := "fnExactEndFall", plainKeys := false, apart := false }
def FnExactEndFallSaid : Prop := fnExactEndFallRow.holds Try.pinned (OpenSpec.ofChange fnExactEndFallSpec)

/-- ITS FALSE NEIGHBOUR: 'it returns false'. Refute it at one input. -/
def fnExactEndFallWrong : ChangeSpec := { name := "fnExactEndFall", fn := fun _ => fun
  | [d] => { results := [.lit (.bool false)], args := [d] }
  | _ => none }
def FnExactEndFallWrongFalsely : Prop := fnExactEndFallRow.holds Try.pinned (OpenSpec.ofChange fnExactEndFallWrong)

/-- 'laws.FnExactEndRise': WHATEVER THE INPUT: true; the input reads as it did. -/
def fnExactEndRiseSpec : ChangeSpec := { name := "fnExactEndRise", fn := fun _ => fun
  | [d] => { results := [.lit (.bool true)], args := [d] }
  | _ => none }
def fnExactEndRiseRow : OpenClaim := { program := "ythafpbpfnkncmaa", sum := "dd740f57af4bd74b7f8d9572a9d34c12d1aa80707e49e37c4cc35803a5c3098d", func := "loop.example/kilnwind/laws.FnExactEndRise", spec := "fnExactEndRise", plainKeys := false, apart := false }
def FnExactEndRiseSaid : Prop := fnExactEndRiseRow.holds Try.pinned (OpenSpec.ofChange fnExactEndRiseSpec)

/-- ITS FALSE NEIGHBOUR: 'it returns false'. Refute it at one input. -/
def fnExactEndRiseWrong : ChangeSpec := { name := "fnExactEndRise", fn := fun _ => fun
  | [d] => { results := [.lit (.bool false)], args := [d] }
  | _ => none }
def FnExactEndRiseWrongFalsely : Prop := fnExactEndRiseRow.holds Try.pinned (OpenSpec.ofChange fnExactEndRiseWrong)

/-- 'laws.FnExactValidWorld': WHATEVER THE INPUT: true; the input reads as it did. -/
def fnExactValidWorldSpec : ChangeSpec := { name := "fnExactValidWorld", fn := fun _ => fun
  | [d] => { results := [.lit (.bool true)], args := [d] }
  | _ => none }
def fnExactValidWorldRow : OpenClaim := { program := "ythafpbpfnkncmaa", sum := "dd740f57af4bd74b7f8d9572a9d34c12d1aa80707e49e37c4cc35803a5c3098d", func := "loop.example/kilnwind/laws.FnExactValidWorld", spec := "fnExactValidWorld", plainKeys := false, apart := false }
def FnExactValidWorldSaid : Prop := fnExactValidWorldRow.holds Try.pinned (OpenSpec.ofChange fnExactValidWorldSpec)

/-- ITS FALSE NEIGHBOUR: 'it returns false'. Refute it at one input. -/
def fnExactValidWorldWrong : ChangeSpec := { name := "fnExactValidWorld", fn := fun _ => fun
  | [d] => { results := [.lit (.bool false)], args := [d] }
  | _ => none }
def FnExactValidWorldWrongFalsely : Prop := fnExactValidWorldRow.holds Try.pinned (OpenSpec.ofChange fnExactValidWorldWrong)

/-- 'laws.FnExactIdle': WHATEVER THE INPUT: true; the input reads as it did. -/
def fnExactIdleSpec : ChangeSpec := { name := "fnExactIdle", fn := fun _ => fun
  | [d] => { results := [.lit (.bool true)], args := [d] }
  | _ => none }
def fnExactIdleRow : OpenClaim := { program := "ythafpbpfnkncmaa", sum := "dd740f57af4bd74b7f8d9572a9d34c12d1aa80707e49e37c4cc35803a5c3098d", func := "loop.example/kilnwind/laws.FnExactIdle", spec := "fnExactIdle", plainKeys := false, apart := false }
def FnExactIdleSaid : Prop := fnExactIdleRow.holds Try.pinned (OpenSpec.ofChange fnExactIdleSpec)

/-- ITS FALSE NEIGHBOUR: 'it returns false'. Refute it at one input. -/
def fnExactIdleWrong : ChangeSpec := { name := "fnExactIdle", fn := fun _ => fun
  | [d] => { results := [.lit (.bool false)], args := [d] }
  | _ => none }
def FnExactIdleWrongFalsely : Prop := fnExactIdleRow.holds Try.pinned (OpenSpec.ofChange fnExactIdleWrong)

/-- 'laws.FnExactRight': WHATEVER THE INPUT: true; the input reads as it did. -/
def fnExactRightSpec : ChangeSpec := { name := "fnExactRight", fn := fun _ => fun
  | [d] => { results := [.lit (.bool true)], args := [d] }
  | _ => none }
def fnExactRightRow : OpenClaim := { program := "ythafpbpfnkncmaa", sum := "dd740f57af4bd74b7f8d9572a9d34c12d1aa80707e49e37c4cc35803a5c3098d", func := "loop.example/kilnwind/laws.FnExactRight", spec := "fnExactRight", plainKeys := false, apart := false }
def FnExactRightSaid : Prop := fnExactRightRow.holds Try.pinned (OpenSpec.ofChange fnExactRightSpec)

/-- ITS FALSE NEIGHBOUR: 'it returns false'. Refute it at one input. -/
def fnExactRightWrong : ChangeSpec := { name := "fnExactRight", fn := fun _ => fun
  | [d] => { results := [.lit (.bool false)], args := [d] }
  | _ => none }
def FnExactRightWrongFalsely : Prop := fnExactRightRow.holds Try.pinned (OpenSpec.ofChange fnExactRightWrong)

/-- 'laws.FnExactEndPull': WHATEVER THE INPUT: true; the input reads as it did. -/
def fnExactEndPullSpec : ChangeSpec := { name := "fnExactEndPull", fn := fun _ => fun
  | [d] => { results := [.lit (.bool true)], args := [d] }
  | _ => none }
def fnExactEndPullRow : OpenClaim := { program := "ythafpbpfnkncmaa", sum := "dd740f57af4bd74b7f8d9572a9d34c12d1aa80707e49e37c4cc35803a5c3098d", func := "loop.example/kilnwind/laws.FnExactEndPull", spec := "fnExactEndPull", plainKeys := false, apart := false }
def FnExactEndPullSaid : Prop := fnExactEndPullRow.holds Try.pinned (OpenSpec.ofChange fnExactEndPullSpec)

/-- ITS FALSE NEIGHBOUR: 'it returns false'. Refute it at one input. -/
def fnExactEndPullWrong : ChangeSpec := { name := "fnExactEndPull", fn := fun _ => fun
  | [d] => { results := [.lit (.bool false)], args := [d] }
  | _ => none }
def FnExactEndPullWrongFalsely : Prop := fnExactEndPullRow.holds Try.pinned (OpenSpec.ofChange fnExactEndPullWrong)

/-- 'laws.FnExactEndPush': WHATEVER THE INPUT: true; the input reads as it did. -/
def fnExactEndPushSpec : ChangeSpec := { name := "fnExactEndPush", fn := fun _ => fun
  | [d1, d2] => { results := [.lit (.bool true)], args := [d1, d2] }
  | _ => none }
def fnExactEndPushRow : OpenClaim := { program := "ythafpbpfnkncmaa", sum := "dd740f57af4bd74b7f8d9572a9d34c12d1aa80707e49e37c4cc35803a5c3098d", func := "loop.example/kilnwind/laws.FnExactEndPush", spec := "fnExactEndPush", plainKeys := false, apart := false }
def FnExactEndPushSaid : Prop := fnExactEndPushRow.holds Try.pinned (OpenSpec.ofChange fnExactEndPushSpec)

/-- ITS FALSE NEIGHBOUR: 'it returns false'. Refute it at one input. -/
def fnExactEndPushWrong : ChangeSpec := { name := "fnExactEndPush", fn := fun _ => fun
  | [d1, d2] => { results := [.lit (.bool false)], args := [d1, d2] }
  | _ => none }
def FnExactEndPushWrongFalsely : Prop := fnExactEndPushRow.holds Try.pinned (OpenSpec.ofChange fnExactEndPushWrong)

/-- 'laws.FnExactEndTick': WHATEVER THE INPUT: true; the input reads as it did. -/
def fnExactEndTickSpec : ChangeSpec := { name := "fnExactEndTick", fn := fun _ => fun
  | [d] => { results := [.lit (.bool true)], args := [d] }
  | _ => none }
def fnExactEndTickRow : OpenClaim := { program := "ythafpbpfnkncmaa", sum := "dd740f57af4bd74b7f8d9572a9d34c12d1aa80707e49e37c4cc35803a5c3098d", func := "loop.example/kilnwind/laws.FnExactEndTick", spec := "fnExactEndTick", plainKeys := false, apart := false }
def FnExactEndTickSaid : Prop := fnExactEndTickRow.holds Try.pinned (OpenSpec.ofChange fnExactEndTickSpec)

/-- ITS FALSE NEIGHBOUR: 'it returns false'. Refute it at one input. -/
def fnExactEndTickWrong : ChangeSpec := { name := "fnExactEndTick", fn := fun _ => fun
  | [d] => { results := [.lit (.bool false)], args := [d] }
  | _ => none }
def FnExactEndTickWrongFalsely : Prop := fnExactEndTickRow.holds Try.pinned (OpenSpec.ofChange fnExactEndTickWrong)

/- THE SECOND FORM. 'bulk': how many values and letters a reading holds, each counted each time it is reached (what is shared counts as often as it is met; a slice's spare places count too). A statement '..UptoSaid' is the law's where the arguments, and the package variables that the reading takes, are together of bulk at most 1048576: NARROWER than '..Said'. Prove '..Said' where nothing that the law and all that it calls make is longer than what came in: it says more and counts as full. Else prove '..UptoSaid'. A law counts once. -/
mutual
def uptoBulk {H : Type} : DataW H → Nat
  | .lit (.string bytes) => bytes.length + 1
  | .lit _ => 1
  | .nil => 1
  | .ptr d => uptoBulk d + 1
  | .slice elems spare => uptoBulkAll elems + uptoBulkAll spare + 1
  | .agg parts => uptoBulkAll parts + 1
  | .iface _ d => uptoBulk d + 1
  | .map entries => uptoBulkEntries entries + 1
  | .held _ => 1
def uptoBulkAll {H : Type} : List (DataW H) → Nat
  | [] => 0
  | d :: r => uptoBulk d + uptoBulkAll r
def uptoBulkEntries {H : Type} : List (Lit × DataW H) → Nat
  | [] => 0
  | x :: r => uptoBulkEntry x + uptoBulkEntries r
def uptoBulkEntry {H : Type} : Lit × DataW H → Nat
  | (.string bytes, d) => bytes.length + uptoBulk d + 1
  | (_, d) => uptoBulk d + 1
 end
def uptoSmall : (H : Type) → List (DataW H) → Bool := fun _ ds => decide (uptoBulkAll ds ≤ 1048576)
def OpenSpec.upto (s : _root_.Go.ChangeSpec) : _root_.Go.OpenSpec := { _root_.Go.OpenSpec.ofChange s with cond := some uptoSmall }

/-- 'laws.FnExactTakePull', WHERE WHAT IT READS IS OF BULK AT MOST 1048576: true; the input reads as it did. -/
def fnExactTakePullUptoRow : OpenClaim := { program := "ythafpbpfnkncmaa", sum := "dd740f57af4bd74b7f8d9572a9d34c12d1aa80707e49e37c4cc35803a5c3098d", func := "loop.example/kilnwind/laws.FnExactTakePull", spec := "fnExactTakePull", plainKeys := false, apart := false, narrowed := true }
def FnExactTakePullUptoSaid : Prop := fnExactTakePullUptoRow.holds Try.pinned (OpenSpec.upto fnExactTakePullSpec)

/-- 'laws.FnExactTakePart', WHERE WHAT IT READS IS OF BULK AT MOST 1048576: true; the input reads as it did. -/
def fnExactTakePartUptoRow : OpenClaim := { program := "ythafpbpfnkncmaa", sum := "dd740f57af4bd74b7f8d9572a9d34c12d1aa80707e49e37c4cc35803a5c3098d", func := "loop.example/kilnwind/laws.FnExactTakePart", spec := "fnExactTakePart", plainKeys := false, apart := false, narrowed := true }
def FnExactTakePartUptoSaid : Prop := fnExactTakePartUptoRow.holds Try.pinned (OpenSpec.upto fnExactTakePartSpec)

/-- 'laws.FnExactValidEnd', WHERE WHAT IT READS IS OF BULK AT MOST 1048576: true; the input reads as it did. -/
def fnExactValidEndUptoRow : OpenClaim := { program := "ythafpbpfnkncmaa", sum := "dd740f57af4bd74b7f8d9572a9d34c12d1aa80707e49e37c4cc35803a5c3098d", func := "loop.example/kilnwind/laws.FnExactValidEnd", spec := "fnExactValidEnd", plainKeys := false, apart := false, narrowed := true }
def FnExactValidEndUptoSaid : Prop := fnExactValidEndUptoRow.holds Try.pinned (OpenSpec.upto fnExactValidEndSpec)

/-- 'laws.FnExactNewWorld', WHERE WHAT IT READS IS OF BULK AT MOST 1048576: true; the input reads as it did. -/
def fnExactNewWorldUptoRow : OpenClaim := { program := "ythafpbpfnkncmaa", sum := "dd740f57af4bd74b7f8d9572a9d34c12d1aa80707e49e37c4cc35803a5c3098d", func := "loop.example/kilnwind/laws.FnExactNewWorld", spec := "fnExactNewWorld", plainKeys := false, apart := false, narrowed := true }
def FnExactNewWorldUptoSaid : Prop := fnExactNewWorldUptoRow.holds Try.pinned (OpenSpec.upto fnExactNewWorldSpec)

/-- 'laws.FnExactEndFall', WHERE WHAT IT READS IS OF BULK AT MOST 1048576: true; the input reads as it did. -/
def fnExactEndFallUptoRow : OpenClaim := { program := "ythafpbpfnkncmaa", sum := "dd740f57af4bd74b7f8d9572a9d34c12d1aa80707e49e37c4cc35803a5c3098d", func := "loop.example/kilnwind/laws.FnExactEndFall", spec := "fnExactEndFall", plainKeys := false, apart := false, narrowed := true }
def FnExactEndFallUptoSaid : Prop := fnExactEndFallUptoRow.holds Try.pinned (OpenSpec.upto fnExactEndFallSpec)

/-- 'laws.FnExactEndRise', WHERE WHAT IT READS IS OF BULK AT MOST 1048576: true; the input reads as it did. -/
def fnExactEndRiseUptoRow : OpenClaim := { program := "ythafpbpfnkncmaa", sum := "dd740f57af4bd74b7f8d9572a9d34c12d1aa80707e49e37c4cc35803a5c3098d", func := "loop.example/kilnwind/laws.FnExactEndRise", spec := "fnExactEndRise", plainKeys := false, apart := false, narrowed := true }
def FnExactEndRiseUptoSaid : Prop := fnExactEndRiseUptoRow.holds Try.pinned (OpenSpec.upto fnExactEndRiseSpec)

/-- 'laws.FnExactValidWorld', WHERE WHAT IT READS IS OF BULK AT MOST 1048576: true; the input reads as it did. -/
def fnExactValidWorldUptoRow : OpenClaim := { program := "ythafpbpfnkncmaa", sum := "dd740f57af4bd74b7f8d9572a9d34c12d1aa80707e49e37c4cc35803a5c3098d", func := "loop.example/kilnwind/laws.FnExactValidWorld", spec := "fnExactValidWorld", plainKeys := false, apart := false, narrowed := true }
def FnExactValidWorldUptoSaid : Prop := fnExactValidWorldUptoRow.holds Try.pinned (OpenSpec.upto fnExactValidWorldSpec)

/-- 'laws.FnExactIdle', WHERE WHAT IT READS IS OF BULK AT MOST 1048576: true; the input reads as it did. -/
def fnExactIdleUptoRow : OpenClaim := { program := "ythafpbpfnkncmaa", sum := "dd740f57af4bd74b7f8d9572a9d34c12d1aa80707e49e37c4cc35803a5c3098d", func := "loop.example/kilnwind/laws.FnExactIdle", spec := "fnExactIdle", plainKeys := false, apart := false, narrowed := true }
def FnExactIdleUptoSaid : Prop := fnExactIdleUptoRow.holds Try.pinned (OpenSpec.upto fnExactIdleSpec)

/-- 'laws.FnExactRight', WHERE WHAT IT READS IS OF BULK AT MOST 1048576: true; the input reads as it did. -/
def fnExactRightUptoRow : OpenClaim := { program := "ythafpbpfnkncmaa", sum := "dd740f57af4bd74b7f8d9572a9d34c12d1aa80707e49e37c4cc35803a5c3098d", func := "loop.example/kilnwind/laws.FnExactRight", spec := "fnExactRight", plainKeys := false, apart := false, narrowed := true }
def FnExactRightUptoSaid : Prop := fnExactRightUptoRow.holds Try.pinned (OpenSpec.upto fnExactRightSpec)

/-- 'laws.FnExactEndPull', WHERE WHAT IT READS IS OF BULK AT MOST 1048576: true; the input reads as it did. -/
def fnExactEndPullUptoRow : OpenClaim := { program := "ythafpbpfnkncmaa", sum := "dd740f57af4bd74b7f8d9572a9d34c12d1aa80707e49e37c4cc35803a5c3098d", func := "loop.example/kilnwind/laws.FnExactEndPull", spec := "fnExactEndPull", plainKeys := false, apart := false, narrowed := true }
def FnExactEndPullUptoSaid : Prop := fnExactEndPullUptoRow.holds Try.pinned (OpenSpec.upto fnExactEndPullSpec)

/-- 'laws.FnExactEndPush', WHERE WHAT IT READS IS OF BULK AT MOST 1048576: true; the input reads as it did. -/
def fnExactEndPushUptoRow : OpenClaim := { program := "ythafpbpfnkncmaa", sum := "dd740f57af4bd74b7f8d9572a9d34c12d1aa80707e49e37c4cc35803a5c3098d", func := "loop.example/kilnwind/laws.FnExactEndPush", spec := "fnExactEndPush", plainKeys := false, apart := false, narrowed := true }
def FnExactEndPushUptoSaid : Prop := fnExactEndPushUptoRow.holds Try.pinned (OpenSpec.upto fnExactEndPushSpec)

/-- 'laws.FnExactEndTick', WHERE WHAT IT READS IS OF BULK AT MOST 1048576: true; the input reads as it did. -/
def fnExactEndTickUptoRow : OpenClaim := { program := "ythafpbpfnkncmaa", sum := "dd740f57af4bd74b7f8d9572a9d34c12d1aa80707e49e37c4cc35803a5c3098d", func := "loop.example/kilnwind/laws.FnExactEndTick", spec := "fnExactEndTick", plainKeys := false, apart := false, narrowed := true }
def FnExactEndTickUptoSaid : Prop := fnExactEndTickUptoRow.holds Try.pinned (OpenSpec.upto fnExactEndTickSpec)

end Rows
end Go.Proofs.Ythafpbpfnkncmaa
