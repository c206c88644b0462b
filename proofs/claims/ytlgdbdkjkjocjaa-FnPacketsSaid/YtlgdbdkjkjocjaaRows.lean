/-
  No cell of these rows narrows 'for every input' (looked for: loops, veiled, ifaces, maps, wideKeys, modest, calm, conditions, laid).
  DERIVED. THE GIVEN ROWS OF THIS SEAT. 12 by the template 'for every input the law returns true; each argument reads behind the call as it read before'; 0 by the template 'total and deterministic' (their statements: YtlgdbdkjkjocjaaTotals.lean).
  GIVEN WITH THE SEED: the statements are not yours to turn. If you find one false, say at which input.
  Laid BY PROGRAM, IN A SANDBOX (cutbox-rows.mjs): the forced cells as the released guide's own fill.sh prints them over the translation 1d5fc27005a9c3c8… (all of the seat's roots in one cut). By AI agents, Wed Nov 11 2026. No macro, syntax, notation, axiom, sorry.
-/
import Derived.Test.YtlgdbdkjkjocjaaChecked
import GoSem.Claim
import GoSem.ClaimJoined
import GoSem.ClaimMapViews
import Derived.JoinedTies
import Derived.KernelRfl
namespace Go.Proofs.Ytlgdbdkjkjocjaa
/- THE CELL 'sum', in the pinned program and in every row, IS THE sha256 OF THE DUMP (.gsa) THAT YtlgdbdkjkjocjaaProg.lean LOADS. Nothing in Lean hashes anything: it is a label: what it is worth is what the hold of that sum in a sandbox is worth. -/
noncomputable def Try.pinned : Pinned := { name := "ytlgdbdkjkjocjaa", sum := "1d5fc27005a9c3c873b7f644a4f5d7d5a858bb2211445d9570a4cda62e337cb5", checked := Try.checked }
namespace Rows
def none {H : Type} : Left H := { results := [], args := [] }

/-- 'laws.FnExactJoin': WHATEVER THE INPUT: true; the input reads as it did. -/
def fnExactJoinSpec : ChangeSpec := { name := "fnExactJoin", fn := fun _ => fun
  | [d] => { results := [.lit (.bool true)], args := [d] }
  | _ => none }
def fnExactJoinRow : OpenClaim := { program := "ytlgdbdkjkjocjaa", sum := "1d5fc27005a9c3c873b7f644a4f5d7d5a858bb2211445d9570a4cda62e337cb5", func := "loop.example/kilnwind/laws.FnExactJoin", spec := "fnExactJoin", apart := false }
def FnExactJoinSaid : Prop := fnExactJoinRow.holds Try.pinned (OpenSpec.ofChange fnExactJoinSpec)

/-- ITS FALSE NEIGHBOUR: 'it returns false'. Refute it at one input. -/
def fnExactJoinWrong : ChangeSpec := { name := "fnExactJoin", fn := fun _ => fun
  | [d] => { results := [.lit (.bool false)], args := [d] }
  | _ => none }
def FnExactJoinWrongFalsely : Prop := fnExactJoinRow.holds Try.pinned (OpenSpec.ofChange fnExactJoinWrong)

/-- 'laws.FnParts': WHATEVER THE INPUT: true; the input reads as it did. -/
def fnPartsSpec : ChangeSpec := { name := "fnParts", fn := fun _ => fun
  | [d1, d2] => { results := [.lit (.bool true)], args := [d1, d2] }
  | _ => none }
def fnPartsRow : OpenClaim := { program := "ytlgdbdkjkjocjaa", sum := "1d5fc27005a9c3c873b7f644a4f5d7d5a858bb2211445d9570a4cda62e337cb5", func := "loop.example/kilnwind/laws.FnParts", spec := "fnParts", apart := false }
def FnPartsSaid : Prop := fnPartsRow.holds Try.pinned (OpenSpec.ofChange fnPartsSpec)

/-- ITS FALSE NEIGHBOUR: 'it returns false'. Refute it at one input. -/
def fnPartsWrong : ChangeSpec := { name := "fnParts", fn := fun _ => fun
  | [d1, d2] => { results := [.lit (.bool false)], args := [d1, d2] }
  | _ => none }
def FnPartsWrongFalsely : Prop := fnPartsRow.holds Try.pinned (OpenSpec.ofChange fnPartsWrong)

/-- 'laws.FnExactReadPacket': WHATEVER THE INPUT: true; the input reads as it did. -/
def fnExactReadPacketSpec : ChangeSpec := { name := "fnExactReadPacket", fn := fun _ => fun
  | [d1, d2, d3] => { results := [.lit (.bool true)], args := [d1, d2, d3] }
  | _ => none }
def fnExactReadPacketRow : OpenClaim := { program := "ytlgdbdkjkjocjaa", sum := "1d5fc27005a9c3c873b7f644a4f5d7d5a858bb2211445d9570a4cda62e337cb5", func := "loop.example/kilnwind/laws.FnExactReadPacket", spec := "fnExactReadPacket", apart := false }
def FnExactReadPacketSaid : Prop := fnExactReadPacketRow.holds Try.pinned (OpenSpec.ofChange fnExactReadPacketSpec)

/-- ITS FALSE NEIGHBOUR: 'it returns false'. Refute it at one input. -/
def fnExactReadPacketWrong : ChangeSpec := { name := "fnExactReadPacket", fn := fun _ => fun
  | [d1, d2, d3] => { results := [.lit (.bool false)], args := [d1, d2, d3] }
  | _ => none }
def FnExactReadPacketWrongFalsely : Prop := fnExactReadPacketRow.holds Try.pinned (OpenSpec.ofChange fnExactReadPacketWrong)

/-- 'laws.FnExactValidTake': WHATEVER THE INPUT: true; the input reads as it did. -/
def fnExactValidTakeSpec : ChangeSpec := { name := "fnExactValidTake", fn := fun _ => fun
  | [d] => { results := [.lit (.bool true)], args := [d] }
  | _ => none }
def fnExactValidTakeRow : OpenClaim := { program := "ytlgdbdkjkjocjaa", sum := "1d5fc27005a9c3c873b7f644a4f5d7d5a858bb2211445d9570a4cda62e337cb5", func := "loop.example/kilnwind/laws.FnExactValidTake", spec := "fnExactValidTake", apart := false }
def FnExactValidTakeSaid : Prop := fnExactValidTakeRow.holds Try.pinned (OpenSpec.ofChange fnExactValidTakeSpec)

/-- ITS FALSE NEIGHBOUR: 'it returns false'. Refute it at one input. -/
def fnExactValidTakeWrong : ChangeSpec := { name := "fnExactValidTake", fn := fun _ => fun
  | [d] => { results := [.lit (.bool false)], args := [d] }
  | _ => none }
def FnExactValidTakeWrongFalsely : Prop := fnExactValidTakeRow.holds Try.pinned (OpenSpec.ofChange fnExactValidTakeWrong)

/-- 'laws.FnTakes': WHATEVER THE INPUT: true; the input reads as it did. -/
def fnTakesSpec : ChangeSpec := { name := "fnTakes", fn := fun _ => fun
  | [d1, d2] => { results := [.lit (.bool true)], args := [d1, d2] }
  | _ => none }
def fnTakesRow : OpenClaim := { program := "ytlgdbdkjkjocjaa", sum := "1d5fc27005a9c3c873b7f644a4f5d7d5a858bb2211445d9570a4cda62e337cb5", func := "loop.example/kilnwind/laws.FnTakes", spec := "fnTakes", apart := false }
def FnTakesSaid : Prop := fnTakesRow.holds Try.pinned (OpenSpec.ofChange fnTakesSpec)

/-- ITS FALSE NEIGHBOUR: 'it returns false'. Refute it at one input. -/
def fnTakesWrong : ChangeSpec := { name := "fnTakes", fn := fun _ => fun
  | [d1, d2] => { results := [.lit (.bool false)], args := [d1, d2] }
  | _ => none }
def FnTakesWrongFalsely : Prop := fnTakesRow.holds Try.pinned (OpenSpec.ofChange fnTakesWrong)

/-- 'laws.FnExactTakeWord': WHATEVER THE INPUT: true; the input reads as it did. -/
def fnExactTakeWordSpec : ChangeSpec := { name := "fnExactTakeWord", fn := fun _ => fun
  | [d] => { results := [.lit (.bool true)], args := [d] }
  | _ => none }
def fnExactTakeWordRow : OpenClaim := { program := "ytlgdbdkjkjocjaa", sum := "1d5fc27005a9c3c873b7f644a4f5d7d5a858bb2211445d9570a4cda62e337cb5", func := "loop.example/kilnwind/laws.FnExactTakeWord", spec := "fnExactTakeWord", apart := false }
def FnExactTakeWordSaid : Prop := fnExactTakeWordRow.holds Try.pinned (OpenSpec.ofChange fnExactTakeWordSpec)

/-- ITS FALSE NEIGHBOUR: 'it returns false'. Refute it at one input. -/
def fnExactTakeWordWrong : ChangeSpec := { name := "fnExactTakeWord", fn := fun _ => fun
  | [d] => { results := [.lit (.bool false)], args := [d] }
  | _ => none }
def FnExactTakeWordWrongFalsely : Prop := fnExactTakeWordRow.holds Try.pinned (OpenSpec.ofChange fnExactTakeWordWrong)

/-- 'laws.FnExactSendWord': WHATEVER THE INPUT: true; the input reads as it did. -/
def fnExactSendWordSpec : ChangeSpec := { name := "fnExactSendWord", fn := fun _ => fun
  | [d1, d2, d3] => { results := [.lit (.bool true)], args := [d1, d2, d3] }
  | _ => none }
def fnExactSendWordRow : OpenClaim := { program := "ytlgdbdkjkjocjaa", sum := "1d5fc27005a9c3c873b7f644a4f5d7d5a858bb2211445d9570a4cda62e337cb5", func := "loop.example/kilnwind/laws.FnExactSendWord", spec := "fnExactSendWord", apart := false }
def FnExactSendWordSaid : Prop := fnExactSendWordRow.holds Try.pinned (OpenSpec.ofChange fnExactSendWordSpec)

/-- ITS FALSE NEIGHBOUR: 'it returns false'. Refute it at one input. -/
def fnExactSendWordWrong : ChangeSpec := { name := "fnExactSendWord", fn := fun _ => fun
  | [d1, d2, d3] => { results := [.lit (.bool false)], args := [d1, d2, d3] }
  | _ => none }
def FnExactSendWordWrongFalsely : Prop := fnExactSendWordRow.holds Try.pinned (OpenSpec.ofChange fnExactSendWordWrong)

/-- 'laws.FnExactSendPush': WHATEVER THE INPUT: true; the input reads as it did. -/
def fnExactSendPushSpec : ChangeSpec := { name := "fnExactSendPush", fn := fun _ => fun
  | [d1, d2] => { results := [.lit (.bool true)], args := [d1, d2] }
  | _ => none }
def fnExactSendPushRow : OpenClaim := { program := "ytlgdbdkjkjocjaa", sum := "1d5fc27005a9c3c873b7f644a4f5d7d5a858bb2211445d9570a4cda62e337cb5", func := "loop.example/kilnwind/laws.FnExactSendPush", spec := "fnExactSendPush", apart := false }
def FnExactSendPushSaid : Prop := fnExactSendPushRow.holds Try.pinned (OpenSpec.ofChange fnExactSendPushSpec)

/-- ITS FALSE NEIGHBOUR: 'it returns false'. Refute it at one input. -/
def fnExactSendPushWrong : ChangeSpec := { name := "fnExactSendPush", fn := fun _ => fun
  | [d1, d2] => { results := [.lit (.bool false)], args := [d1, d2] }
  | _ => none }
def FnExactSendPushWrongFalsely : Prop := fnExactSendPushRow.holds Try.pinned (OpenSpec.ofChange fnExactSendPushWrong)

/-- 'laws.FnExactSendTick': WHATEVER THE INPUT: true; the input reads as it did. -/
def fnExactSendTickSpec : ChangeSpec := { name := "fnExactSendTick", fn := fun _ => fun
  | [d] => { results := [.lit (.bool true)], args := [d] }
  | _ => none }
def fnExactSendTickRow : OpenClaim := { program := "ytlgdbdkjkjocjaa", sum := "1d5fc27005a9c3c873b7f644a4f5d7d5a858bb2211445d9570a4cda62e337cb5", func := "loop.example/kilnwind/laws.FnExactSendTick", spec := "fnExactSendTick", apart := false }
def FnExactSendTickSaid : Prop := fnExactSendTickRow.holds Try.pinned (OpenSpec.ofChange fnExactSendTickSpec)

/-- ITS FALSE NEIGHBOUR: 'it returns false'. Refute it at one input. -/
def fnExactSendTickWrong : ChangeSpec := { name := "fnExactSendTick", fn := fun _ => fun
  | [d] => { results := [.lit (.bool false)], args := [d] }
  | _ => none }
def FnExactSendTickWrongFalsely : Prop := fnExactSendTickRow.holds Try.pinned (OpenSpec.ofChange fnExactSendTickWrong)

/-- 'laws.FnExactNewEnd': WHATEVER THE INPUT: true; the input reads as it did. -/
def fnExactNewEndSpec : ChangeSpec := { name := "fnExactNewEnd", fn := fun _ => fun
  | [d] => { results := [.lit (.bool true)], args := [d] }
  | _ => none }
def fnExactNewEndRow : OpenClaim := { program := "ytlgdbdkjkjocjaa", sum := "1d5fc27005a9c3c873b7f644a4f5d7d5a858bb2211445d9570a4cda62e337cb5", func := "loop.example/kilnwind/laws.FnExactNewEnd", spec := "fnExactNewEnd", apart := false }
def FnExactNewEndSaid : Prop := fnExactNewEndRow.holds Try.pinned (OpenSpec.ofChange fnExactNewEndSpec)

/-- ITS FALSE NEIGHBOUR: 'it returns false'. Refute it at one input. -/
def fnExactNewEndWrong : ChangeSpec := { name := "fnExactNewEnd", fn := fun _ => fun
  | [d] => { results := [.lit (.bool false)], args := [d] }
  | _ => none }
def FnExactNewEndWrongFalsely : Prop := fnExactNewEndRow.holds Try.pinned (OpenSpec.ofChange fnExactNewEndWrong)

/-- 'laws.FnSends': WHATEVER THE INPUT: true; the input reads as it did. -/
def fnSendsSpec : ChangeSpec := { name := "fnSends", fn := fun _ => fun
  | [d] => { results := [.lit (.bool true)], args := [d] }
  | _ => none }
def fnSendsRow : OpenClaim := { program := "ytlgdbdkjkjocjaa", sum := "1d5fc27005a9c3c873b7f644a4f5d7d5a858bb2211445d9570a4cda62e337cb5", func := "loop.example/kilnwind/laws.FnSends", spec := "fnSends", apart := false }
def FnSendsSaid : Prop := fnSendsRow.holds Try.pinned (OpenSpec.ofChange fnSendsSpec)

/-- ITS FALSE NEIGHBOUR: 'it returns false'. Refute it at one input. -/
def fnSendsWrong : ChangeSpec := { name := "fnSends", fn := fun _ => fun
  | [d] => { results := [.lit (.bool false)], args := [d] }
  | _ => none }
def FnSendsWrongFalsely : Prop := fnSendsRow.holds Try.pinned (OpenSpec.ofChange fnSendsWrong)

/-- 'laws.FnPackets': WHATEVER THE INPUT: true; the input reads as it did. -/
def fnPacketsSpec : ChangeSpec := { name := "fnPackets", fn := fun _ => fun
  | [d] => { results := [.lit (.bool true)], args := [d] }
  | _ => none }
def fnPacketsRow : OpenClaim := { program := "ytlgdbdkjkjocjaa", sum := "1d5fc27005a9c3c873b7f644a4f5d7d5a858bb2211445d9570a4cda62e337cb5", func := "loop.example/kilnwind/laws.FnPackets", spec := "fnPackets", apart := false }
def FnPacketsSaid : Prop := fnPacketsRow.holds Try.pinned (OpenSpec.ofChange fnPacketsSpec)

/-- ITS FALSE NEIGHBOUR: 'it returns false'. Refute it at one input. -/
def fnPacketsWrong : ChangeSpec := { name := "fnPackets", fn := fun _ => fun
  | [d] => { results := [.lit (.bool false)], args := [d] }
  | _ => none }
def FnPacketsWrongFalsely : Prop := fnPacketsRow.holds Try.pinned (OpenSpec.ofChange fnPacketsWrong)

/- THE SECOND FORM. 'bulk': how many values and letters a reading holds, each counted each time it is reached (what is shared counts as often as it is met; a slice's spare places count too). A statement '..UptoSaid' is the law's where the arguments, and the package variables that the reading takes, are together of bulk at most 1048576: NARROWER than '..Said'. Prove '..Said' where nothing that the law and all that it calls make is longer than what came in: it says more and counts as full. Else prove '..UptoSaid'. A law counts once. -/
mutual
def uptoBulk {H : Type} : DataW H → Nat
  | .lit (.string bytes) => bytes.length + 1
  | .lit _ => 1
  | .nil => 1
  | .ptr d => uptoBulk d + 1
  | .slice elems spare => uptoBulkAll elems + uptoBulkAll spare + 1
  | .agg parts => uptoBulkAll parts + 1
  | .iface _ d => uptoBulk d + 1
  | .map entries => uptoBulkEntries entries + 1
  | .held _ => 1
def uptoBulkAll {H : Type} : List (DataW H) → Nat
  | [] => 0
  | d :: r => uptoBulk d + uptoBulkAll r
def uptoBulkEntries {H : Type} : List (Lit × DataW H) → Nat
  | [] => 0
  | x :: r => uptoBulkEntry x + uptoBulkEntries r
def uptoBulkEntry {H : Type} : Lit × DataW H → Nat
  | (.string bytes, d) => bytes.length + uptoBulk d + 1
  | (_, d) => uptoBulk d + 1
 end
def uptoSmall : (H : Type) → List (DataW H) → Bool := fun _ ds => decide (uptoBulkAll ds ≤ 1048576)
def OpenSpec.upto (s : _root_.Go.ChangeSpec) : _root_.Go.OpenSpec := { _root_.Go.OpenSpec.ofChange s with cond := some uptoSmall }

/-- 'laws.FnExactJoin', WHERE WHAT IT READS IS OF BULK AT MOST 1048576: true; the input reads as it did. -/
def fnExactJoinUptoRow : OpenClaim := { program := "ytlgdbdkjkjocjaa", sum := "1d5fc27005a9c3c873b7f644a4f5d7d5a858bb2211445d9570a4cda62e337cb5", func := "loop.example/kilnwind/laws.FnExactJoin", spec := "fnExactJoin", apart := false, narrowed := true }
def FnExactJoinUptoSaid : Prop := fnExactJoinUptoRow.holds Try.pinned (OpenSpec.upto fnExactJoinSpec)

/-- 'laws.FnParts', WHERE WHAT IT READS IS OF BULK AT MOST 1048576: true; the input reads as it did. -/
def fnPartsUptoRow : OpenClaim := { program := "ytlgdbdkjkjocjaa", sum := "1d5fc27005a9c3c873b7f644a4f5d7d5a858bb2211445d9570a4cda62e337cb5", func := "loop.example/kilnwind/laws.FnParts", spec := "fnParts", apart := false, narrowed := true }
def FnPartsUptoSaid : Prop := fnPartsUptoRow.holds Try.pinned (OpenSpec.upto fnPartsSpec)

/-- 'laws.FnExactReadPacket', WHERE WHAT IT READS IS OF BULK AT MOST 1048576: true; the input reads as it did. -/
def fnExactReadPacketUptoRow : OpenClaim := { program := "ytlgdbdkjkjocjaa", sum := "1d5fc27005a9c3c873b7f644a4f5d7d5a858bb2211445d9570a4cda62e337cb5", func := "loop.example/kilnwind/laws.FnExactReadPacket", spec := "fnExactReadPacket", apart := false, narrowed := true }
def FnExactReadPacketUptoSaid : Prop := fnExactReadPacketUptoRow.holds Try.pinned (OpenSpec.upto fnExactReadPacketSpec)

/-- 'laws.FnExactValidTake', WHERE WHAT IT READS IS OF BULK AT MOST 1048576: true; the input reads as it did. -/
def fnExactValidTakeUptoRow : OpenClaim := { program := "ytlgdbdkjkjocjaa", sum := "1d5fc27005a9c3c873b7f644a4f5d7d5a858bb2211445d9570a4cda62e337cb5", func := "loop.example/kilnwind/laws.FnExactValidTake", spec := "fnExactValidTake", apart := false, narrowed := true }
def FnExactValidTakeUptoSaid : Prop := fnExactValidTakeUptoRow.holds Try.pinned (OpenSpec.upto fnExactValidTakeSpec)

/-- 'laws.FnTakes', WHERE WHAT IT READS IS OF BULK AT MOST 1048576: true; the input reads as it did. -/
def fnTakesUptoRow : OpenClaim := { program := "ytlgdbdkjkjocjaa", sum := "1d5fc27005a9c3c873b7f644a4f5d7d5a858bb2211445d9570a4cda62e337cb5", func := "loop.example/kilnwind/laws.FnTakes", spec := "fnTakes", apart := false, narrowed := true }
def FnTakesUptoSaid : Prop := fnTakesUptoRow.holds Try.pinned (OpenSpec.upto fnTakesSpec)

/-- 'laws.FnExactTakeWord', WHERE WHAT IT READS IS OF BULK AT MOST 1048576: true; the input reads as it did. -/
def fnExactTakeWordUptoRow : OpenClaim := { program := "ytlgdbdkjkjocjaa", sum := "1d5fc27005a9c3c873b7f644a4f5d7d5a858bb2211445d9570a4cda62e337cb5", func := "loop.example/kilnwind/laws.FnExactTakeWord", spec := "fnExactTakeWord", apart := false, narrowed := true }
def FnExactTakeWordUptoSaid : Prop := fnExactTakeWordUptoRow.holds Try.pinned (OpenSpec.upto fnExactTakeWordSpec)

/-- 'laws.FnExactSendWord', WHERE WHAT IT READS IS OF BULK AT MOST 1048576: true; the input reads as it did. -/
def fnExactSendWordUptoRow : OpenClaim := { program := "ytlgdbdkjkjocjaa", sum := "1d5fc27005a9c3c873b7f644a4f5d7d5a858bb2211445d9570a4cda62e337cb5", func := "loop.example/kilnwind/laws.FnExactSendWord", spec := "fnExactSendWord", apart := false, narrowed := true }
def FnExactSendWordUptoSaid : Prop := fnExactSendWordUptoRow.holds Try.pinned (OpenSpec.upto fnExactSendWordSpec)

/-- 'laws.FnExactSendPush', WHERE WHAT IT READS IS OF BULK AT MOST 1048576: true; the input reads as it did. -/
def fnExactSendPushUptoRow : OpenClaim := { program := "ytlgdbdkjkjocjaa", sum := "1d5fc27005a9c3c873b7f644a4f5d7d5a858bb2211445d9570a4cda62e337cb5", func := "loop.example/kilnwind/laws.FnExactSendPush", spec := "fnExactSendPush", apart := false, narrowed := true }
def FnExactSendPushUptoSaid : Prop := fnExactSendPushUptoRow.holds Try.pinned (OpenSpec.upto fnExactSendPushSpec)

/-- 'laws.FnExactSendTick', WHERE WHAT IT READS IS OF BULK AT MOST 1048576: true; the input reads as it did. -/
def fnExactSendTickUptoRow : OpenClaim := { program := "ytlgdbdkjkjocjaa", sum := "1d5fc27005a9c3c873b7f644a4f5d7d5a858bb2211445d9570a4cda62e337cb5", func := "loop.example/kilnwind/laws.FnExactSendTick", spec := "fnExactSendTick", apart := false, narrowed := true }
def FnExactSendTickUptoSaid : Prop := fnExactSendTickUptoRow.holds Try.pinned (OpenSpec.upto fnExactSendTickSpec)

/-- 'laws.FnExactNewEnd', WHERE WHAT IT READS IS OF BULK AT MOST 1048576: true; the input reads as it did. -/
def fnExactNewEndUptoRow : OpenClaim := { program := "ytlgdbdkjkjocjaa", sum := "1d5fc27005a9c3c873b7f644a4f5d7d5a858bb2211445d9570a4cda62e337cb5", func := "loop.example/kilnwind/laws.FnExactNewEnd", spec := "fnExactNewEnd", apart := false, narrowed := true }
def FnExactNewEndUptoSaid : Prop := fnExactNewEndUptoRow.holds Try.pinned (OpenSpec.upto fnExactNewEndSpec)

/-- 'laws.FnSends', WHERE WHAT IT READS IS OF BULK AT MOST 1048576: true; the input reads as it did. -/
def fnSendsUptoRow : OpenClaim := { program := "ytlgdbdkjkjocjaa", sum := "1d5fc27005a9c3c873b7f644a4f5d7d5a858bb2211445d9570a4cda62e337cb5", func := "loop.example/kilnwind/laws.FnSends", spec := "fnSends", apart := false, narrowed := true }
def FnSendsUptoSaid : Prop := fnSendsUptoRow.holds Try.pinned (OpenSpec.upto fnSendsSpec)

/-- 'laws.FnPackets', WHERE WHAT IT READS IS OF BULK AT MOST 1048576: true; the input reads as it did. -/
def fnPacketsUptoRow : OpenClaim := { program := "ytlgdbdkjkjocjaa", sum := "1d5fc27005a9c3c873b7f644a4f5d7d5a858bb2211445d9570a4cda62e337cb5", func := "loop.example/kilnwind/laws.FnPackets", spec := "fnPackets", apart := false, narrowed := true }
def FnPacketsUptoSaid : Prop := fnPacketsUptoRow.holds Try.pinned (OpenSpec.upto fnPacketsSpec)

end Rows
end Go.Proofs.Ytlgdbdkjkjocjaa
