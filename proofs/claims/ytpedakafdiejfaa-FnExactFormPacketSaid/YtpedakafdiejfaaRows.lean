/-
  No cell of these rows narrows 'for every input' (looked for: loops, veiled, ifaces, maps, wideKeys, modest, calm, conditions, laid).
  DERIVED. THE GIVEN ROWS OF THIS SEAT. 5 by the template 'for every input the law returns true; each argument reads behind the call as it read before'; 0 by the template 'total and deterministic' (their statements: YtpedakafdiejfaaTotals.lean).
  GIVEN WITH THE SEED: the statements are not yours to turn. If you find one false, say at which input.
  Laid BY PROGRAM, IN A SANDBOX (cutbox-rows.mjs): the forced cells as the released guide's own fill.sh prints them over the translation 54e0f6ce93a6a1f4… (all of the seat's roots in one cut). By AI agents, Wed Nov 11 2026. No macro, syntax, notation, axiom, sorry.
-/
import Derived.Test.YtpedakafdiejfaaChecked
import GoSem.Claim
import GoSem.ClaimJoined
import GoSem.ClaimMapViews
import Derived.JoinedTies
import Derived.KernelRfl
namespace Go.Proofs.Ytpedakafdiejfaa
/- THE CELL 'sum', in the pinned program and in every row, IS THE sha256 OF THE DUMP (.gsa) THAT YtpedakafdiejfaaProg.lean LOADS. Nothing in Lean hashes anything: it is a label: what it is worth is what the hold of that sum in a sandbox is worth. -/
noncomputable def Try.pinned : Pinned := { name := "ytpedakafdiejfaa", sum := "54e0f6ce93a6a1f4ed27fc66b210a0aee50c8056586f60b8b33b25050371c4fa", checked := Try.checked }
namespace Rows
def none {H : Type} : Left H := { results := [], args := [] }

/-- 'laws.FnExactConstants': WHATEVER THE INPUT: true; the input reads as it did. -/
def fnExactConstantsSpec : ChangeSpec := { name := "fnExactConstants", fn := fun _ => fun
  | [] => { results := [.lit (.bool true)], args := [] }
  | _ => none }
def fnExactConstantsRow : OpenClaim := { program := "ytpedakafdiejfaa", sum := "54e0f6ce93a6a1f4ed27fc66b210a0aee50c8056586f60b8b33b25050371c4fa", func := "loop.example/kilnwind/laws.FnExactConstants", spec := "fnExactConstants", apart := false }
def FnExactConstantsSaid : Prop := fnExactConstantsRow.holds Try.pinned (OpenSpec.ofChange fnExactConstantsSpec)

/-- ITS FALSE NEIGHBOUR: 'it returns false'. Refute it at one input. -/
def fnExactConstantsWrong : ChangeSpec := { name := "fnExactConstants", fn := fun _ => fun
  | [] => { results := [.lit (.bool false)], args := [] }
  | _ => none }
def FnExactConstantsWrongFalsely : Prop := fnExactConstantsRow.holds Try.pinned (OpenSpec.ofChange fnExactConstantsWrong)

/-- 'laws.FnExactTag': WHATEVER THE INPUT: true; the input reads as it did. -/
def fnExactTagSpec : ChangeSpec := { name := "fnExactTag", fn := fun _ => fun
  | [d1, d2, d3] => { results := [.lit (.bool true)], args := [d1, d2, d3] }
  | _ => none }
def fnExactTagRow : OpenClaim := { program := "ytpedakafdiejfaa", sum := "54e0f6ce93a6a1f4ed27fc66b210a0aee50c8056586f60b8b33b25050371c4fa", func := "loop.example/kilnwind/laws.FnExactTag", spec := "fnExactTag", apart := false }
def FnExactTagSaid : Prop := fnExactTagRow.holds Try.pinned (OpenSpec.ofChange fnExactTagSpec)

/-- ITS FALSE NEIGHBOUR: 'it returns false'. Refute it at one input. -/
def fnExactTagWrong : ChangeSpec := { name := "fnExactTag", fn := fun _ => fun
  | [d1, d2, d3] => { results := [.lit (.bool false)], args := [d1, d2, d3] }
  | _ => none }
def FnExactTagWrongFalsely : Prop := fnExactTagRow.holds Try.pinned (OpenSpec.ofChange fnExactTagWrong)

/-- 'laws.FnExactCut': WHATEVER THE INPUT: true; the input reads as it did. -/
def fnExactCutSpec : ChangeSpec := { name := "fnExactCut", fn := fun _ => fun
  | [d] => { results := [.lit (.bool true)], args := [d] }
  | _ => none }
def fnExactCutRow : OpenClaim := { program := "ytpedakafdiejfaa", sum := "54e0f6ce93a6a1f4ed27fc66b210a0aee50c8056586f60b8b33b25050371c4fa", func := "loop.example/kilnwind/laws.FnExactCut", spec := "fnExactCut", apart := false }
def FnExactCutSaid : Prop := fnExactCutRow.holds Try.pinned (OpenSpec.ofChange fnExactCutSpec)

/-- ITS FALSE NEIGHBOUR: 'it returns false'. Refute it at one input. -/
def fnExactCutWrong : ChangeSpec := { name := "fnExactCut", fn := fun _ => fun
  | [d] => { results := [.lit (.bool false)], args := [d] }
  | _ => none }
def FnExactCutWrongFalsely : Prop := fnExactCutRow.holds Try.pinned (OpenSpec.ofChange fnExactCutWrong)

/-- 'laws.FnExactValidSend': WHATEVER THE INPUT: true; the input reads as it did. -/
def fnExactValidSendSpec : ChangeSpec := { name := "fnExactValidSend", fn := fun _ => fun
  | [d] => { results := [.lit (.bool true)], args := [d] }
  | _ => none }
def fnExactValidSendRow : OpenClaim := { program := "ytpedakafdiejfaa", sum := "54e0f6ce93a6a1f4ed27fc66b210a0aee50c8056586f60b8b33b25050371c4fa", func := "loop.example/kilnwind/laws.FnExactValidSend", spec := "fnExactValidSend", apart := false }
def FnExactValidSendSaid : Prop := fnExactValidSendRow.holds Try.pinned (OpenSpec.ofChange fnExactValidSendSpec)

/-- ITS FALSE NEIGHBOUR: 'it returns false'. Refute it at one input. -/
def fnExactValidSendWrong : ChangeSpec := { name := "fnExactValidSend", fn := fun _ => fun
  | [d] => { results := [.lit (.bool false)], args := [d] }
  | _ => none }
def FnExactValidSendWrongFalsely : Prop := fnExactValidSendRow.holds Try.pinned (OpenSpec.ofChange fnExactValidSendWrong)

/-- 'laws.FnExactFormPacket': WHATEVER THE INPUT: true; the input reads as it did. -/
def fnExactFormPacketSpec : ChangeSpec := { name := "fnExactFormPacket", fn := fun _ => fun
  | [d1, d2, d3] => { results := [.lit (.bool true)], args := [d1, d2, d3] }
  | _ => none }
def fnExactFormPacketRow : OpenClaim := { program := "ytpedakafdiejfaa", sum := "54e0f6ce93a6a1f4ed27fc66b210a0aee50c8056586f60b8b33b25050371c4fa", func := "loop.example/kilnwind/laws.FnExactFormPacket", spec := "fnExactFormPacket", apart := false }
def FnExactFormPacketSaid : Prop := fnExactFormPacketRow.holds Try.pinned (OpenSpec.ofChange fnExactFormPacketSpec)

/-- ITS FALSE NEIGHBOUR: 'it returns false'. Refute it at one input. -/
def fnExactFormPacketWrong : ChangeSpec := { name := "fnExactFormPacket", fn := fun _ => fun
  | [d1, d2, d3] => { results := [.lit (.bool false)], args := [d1, d2, d3] }
  | _ => none }
def FnExactFormPacketWrongFalsely : Prop := fnExactFormPacketRow.holds Try.pinned (OpenSpec.ofChange fnExactFormPacketWrong)

/- THE SECOND FORM. 'bulk': how many values and letters a reading holds, each counted each time it is reached (what is shared counts as often as it is met; a slice's spare places count too). A statement '..UptoSaid' is the law's where the arguments, and the package variables that the reading takes, are together of bulk at most 1048576: NARROWER than '..Said'. Prove '..Said' where nothing that the law and all that it calls make is longer than what came in: it says more and counts as full. Else prove '..UptoSaid'. A law counts once. -/
mutual
def uptoBulk {H : Type} : DataW H → Nat
  | .lit (.string bytes) => bytes.length + 1
  | .lit _ => 1
  | .nil => 1
  | .ptr d => uptoBulk d + 1
  | .slice elems spare => uptoBulkAll elems + uptoBulkAll spare + 1
  | .agg parts => uptoBulkAll parts + 1
  | .iface _ d => uptoBulk d + 1
  | .map entries => uptoBulkEntries entries + 1
  | .held _ => 1
def uptoBulkAll {H : Type} : List (DataW H) → Nat
  | [] => 0
  | d :: r => uptoBulk d + uptoBulkAll r
def uptoBulkEntries {H : Type} : List (Lit × DataW H) → Nat
  | [] => 0
  | x :: r => uptoBulkEntry x + uptoBulkEntries r
def uptoBulkEntry {H : Type} : Lit × DataW H → Nat
  | (.string bytes, d) => bytes.length + uptoBulk d + 1
  | (_, d) => uptoBulk d + 1
 end
def uptoSmall : (H : Type) → List (DataW H) → Bool := fun _ ds => decide (uptoBulkAll ds ≤ 1048576)
def OpenSpec.upto (s : _root_.Go.ChangeSpec) : _root_.Go.OpenSpec := { _root_.Go.OpenSpec.ofChange s with cond := some uptoSmall }

/-- 'laws.FnExactConstants', WHERE WHAT IT READS IS OF BULK AT MOST 1048576: true; the input reads as it did. -/
def fnExactConstantsUptoRow : OpenClaim := { program := "ytpedakafdiejfaa", sum := "54e0f6ce93a6a1f4ed27fc66b210a0aee50c8056586f60b8b33b25050371c4fa", func := "loop.example/kilnwind/laws.FnExactConstants", spec := "fnExactConstants", apart := false, narrowed := true }
def FnExactConstantsUptoSaid : Prop := fnExactConstantsUptoRow.holds Try.pinned (OpenSpec.upto fnExactConstantsSpec)

/-- 'laws.FnExactTag', WHERE WHAT IT READS IS OF BULK AT MOST 1048576: true; the input reads as it did. -/
def fnExactTagUptoRow : OpenClaim := { program := "ytpedakafdiejfaa", sum := "54e0f6ce93a6a1f4ed27fc66b210a0aee50c8056586f60b8b33b25050371c4fa", func := "loop.example/kilnwind/laws.FnExactTag", spec := "fnExactTag", apart := false, narrowed := true }
def FnExactTagUptoSaid : Prop := fnExactTagUptoRow.holds Try.pinned (OpenSpec.upto fnExactTagSpec)

/-- 'laws.FnExactCut', WHERE WHAT IT READS IS OF BULK AT MOST 1048576: true; the input reads as it did. -/
def fnExactCutUptoRow : OpenClaim := { program := "ytpedakafdiejfaa", sum := "54e0f6ce93a6a1f4ed27fc66b210a0aee50c8056586f60b8b33b25050371c4fa", func := "loop.example/kilnwind/laws.FnExactCut", spec := "fnExactCut", apart := false, narrowed := true }
def FnExactCutUptoSaid : Prop := fnExactCutUptoRow.holds Try.pinned (OpenSpec.upto fnExactCutSpec)

/-- 'laws.FnExactValidSend', WHERE WHAT IT READS IS OF BULK AT MOST 1048576: true; the input reads as it did. -/
def fnExactValidSendUptoRow : OpenClaim := { program := "ytpedakafdiejfaa", sum := "54e0f6ce93a6a1f4ed27fc66b210a0aee50c8056586f60b8b33b25050371c4fa", func := "loop.example/kilnwind/laws.FnExactValidSend", spec := "fnExactValidSend", apart := false, narrowed := true }
def FnExactValidSendUptoSaid : Prop := fnExactValidSendUptoRow.holds Try.pinned (OpenSpec.upto fnExactValidSendSpec)

/-- 'laws.FnExactFormPacket', WHERE WHAT IT READS IS OF BULK AT MOST 1048576: true; the input reads as it did. -/
def fnExactFormPacketUptoRow : OpenClaim := { program := "ytpedakafdiejfaa", sum := "54e0f6ce93a6a1f4ed27fc66b210a0aee50c8056586f60b8b33b25050371c4fa", func := "loop.example/kilnwind/laws.FnExactFormPacket", spec := "fnExactFormPacket", apart := false, narrowed := true }
def FnExactFormPacketUptoSaid : Prop := fnExactFormPacketUptoRow.holds Try.pinned (OpenSpec.upto fnExactFormPacketSpec)

end Rows
end Go.Proofs.Ytpedakafdiejfaa
