/-
  No cell of these rows narrows 'for every input' (looked for: loops, veiled, ifaces, maps, wideKeys, modest, calm, conditions, laid).
  DERIVED. THE GIVEN ROWS OF THIS SEAT. 7 by the template 'for every input the law returns true; each argument reads behind the call as it read before'; 0 by the template 'total and deterministic' (their statements: YtnhnpggoknepfaaTotals.lean).
  GIVEN WITH THE SEED: the statements are not yours to turn. If you find one false, say at which input.
  Laid BY PROGRAM, IN A SANDBOX (cutbox-rows.mjs): the forced cells as the released guide's own fill.sh prints them over the translation 46822511afbefd14… (all of the seat's roots in one cut). By AI agents, Wed Nov 11 2026. No macro, syntax, notation, axiom, sorry.
-/
import Derived.Test.YtnhnpggoknepfaaChecked
import GoSem.Claim
import GoSem.ClaimJoined
import GoSem.ClaimMapViews
import Derived.JoinedTies
import Derived.KernelRfl
namespace Go.Proofs.Ytnhnpggoknepfaa
/- THE CELL 'sum', in the pinned program and in every row, IS THE sha256 OF THE DUMP (.gsa) THAT YtnhnpggoknepfaaProg.lean LOADS. Nothing in Lean hashes anything: it is a label: what it is worth is what the hold of that sum in a sandbox is worth. -/
noncomputable def Try.pinned : Pinned := { name := "ytnhnpggoknepfaa", sum := "46822511afbefd148d5b4819f1dfc086df9200a5000c1da15ea2c1b6c52ffe0b", checked := Try.checked }
namespace Rows
def none {H : Type} : Left H := { results := [], args := [] }

/-- 'laws.FnExactEndTake': WHATEVER THE INPUT: true; the input reads as it did. -/
def fnExactEndTakeSpec : ChangeSpec := { name := "fnExactEndTake", fn := fun _ => fun
  | [d1, d2] => { results := [.lit (.bool true)], args := [d1, d2] }
  | _ => none }
def fnExactEndTakeRow : OpenClaim := { program := "ytnhnpggoknepfaa", sum := "46822511afbefd148d5b4819f1dfc086df9200a5000c1da15ea2c1b6c52ffe0b", func := "loop.example/kilnwind/laws.FnExactEndTake", spec := "fnExactEndTake", plainKeys := false, apart := false }
def FnExactEndTakeSaid : Prop := fnExactEndTakeRow.holds Try.pinned (OpenSpec.ofChange fnExactEndTakeSpec)

/-- ITS FALSE NEIGHBOUR: 'it returns false'. Refute it at one input. -/
def fnExactEndTakeWrong : ChangeSpec := { name := "fnExactEndTake", fn := fun _ => fun
  | [d1, d2] => { results := [.lit (.bool false)], args := [d1, d2] }
  | _ => none }
def FnExactEndTakeWrongFalsely : Prop := fnExactEndTakeRow.holds Try.pinned (OpenSpec.ofChange fnExactEndTakeWrong)

/-- 'laws.FnRight': WHATEVER THE INPUT: true; the input reads as it did. -/
def fnRightSpec : ChangeSpec := { name := "fnRight", fn := fun _ => fun
  | [d] => { results := [.lit (.bool true)], args := [d] }
  | _ => none }
def fnRightRow : OpenClaim := { program := "ytnhnpggoknepfaa", sum := "46822511afbefd148d5b4819f1dfc086df9200a5000c1da15ea2c1b6c52ffe0b", func := "loop.example/kilnwind/laws.FnRight", spec := "fnRight", plainKeys := false, apart := false }
def FnRightSaid : Prop := fnRightRow.holds Try.pinned (OpenSpec.ofChange fnRightSpec)

/-- ITS FALSE NEIGHBOUR: 'it returns false'. Refute it at one input. -/
def fnRightWrong : ChangeSpec := { name := "fnRight", fn := fun _ => fun
  | [d] => { results := [.lit (.bool false)], args := [d] }
  | _ => none }
def FnRightWrongFalsely : Prop := fnRightRow.holds Try.pinned (OpenSpec.ofChange fnRightWrong)

/-- 'laws.FnForged': WHATEVER THE INPUT: true; the input reads as it did. -/
def fnForgedSpec : ChangeSpec := { name := "fnForged", fn := fun _ => fun
  | [d] => { results := [.lit (.bool true)], args := [d] }
  | _ => none }
def fnForgedRow : OpenClaim := { program := "ytnhnpggoknepfaa", sum := "46822511afbefd148d5b4819f1dfc086df9200a5000c1da15ea2c1b6c52ffe0b", func := "loop.example/kilnwind/laws.FnForged", spec := "fnForged", plainKeys := false, apart := false }
def FnForgedSaid : Prop := fnForgedRow.holds Try.pinned (OpenSpec.ofChange fnForgedSpec)

/-- ITS FALSE NEIGHBOUR: 'it returns false'. Refute it at one input. -/
def fnForgedWrong : ChangeSpec := { name := "fnForged", fn := fun _ => fun
  | [d] => { results := [.lit (.bool false)], args := [d] }
  | _ => none }
def FnForgedWrongFalsely : Prop := fnForgedRow.holds Try.pinned (OpenSpec.ofChange fnForgedWrong)

/-- 'laws.FnSafe': WHATEVER THE INPUT: true; the input reads as it did. -/
def fnSafeSpec : ChangeSpec := { name := "fnSafe", fn := fun _ => fun
  | [d1, d2] => { results := [.lit (.bool true)], args := [d1, d2] }
  | _ => none }
def fnSafeRow : OpenClaim := { program := "ytnhnpggoknepfaa", sum := "46822511afbefd148d5b4819f1dfc086df9200a5000c1da15ea2c1b6c52ffe0b", func := "loop.example/kilnwind/laws.FnSafe", spec := "fnSafe", plainKeys := false, apart := false }
def FnSafeSaid : Prop := fnSafeRow.holds Try.pinned (OpenSpec.ofChange fnSafeSpec)

/-- ITS FALSE NEIGHBOUR: 'it returns false'. Refute it at one input. -/
def fnSafeWrong : ChangeSpec := { name := "fnSafe", fn := fun _ => fun
  | [d1, d2] => { results := [.lit (.bool false)], args := [d1, d2] }
  | _ => none }
def FnSafeWrongFalsely : Prop := fnSafeRow.holds Try.pinned (OpenSpec.ofChange fnSafeWrong)

/-- 'laws.FnApart': WHATEVER THE INPUT: true; the input reads as it did. -/
def fnApartSpec : ChangeSpec := { name := "fnApart", fn := fun _ => fun
  | [d] => { results := [.lit (.bool true)], args := [d] }
  | _ => none }
def fnApartRow : OpenClaim := { program := "ytnhnpggoknepfaa", sum := "46822511afbefd148d5b4819f1dfc086df9200a5000c1da15ea2c1b6c52ffe0b", func := "loop.example/kilnwind/laws.FnApart", spec := "fnApart", plainKeys := false, apart := false }
def FnApartSaid : Prop := fnApartRow.holds Try.pinned (OpenSpec.ofChange fnApartSpec)

/-- ITS FALSE NEIGHBOUR: 'it returns false'. Refute it at one input. -/
def fnApartWrong : ChangeSpec := { name := "fnApart", fn := fun _ => fun
  | [d] => { results := [.lit (.bool false)], args := [d] }
  | _ => none }
def FnApartWrongFalsely : Prop := fnApartRow.holds Try.pinned (OpenSpec.ofChange fnApartWrong)

/-- 'laws.FnEnds': WHATEVER THE INPUT: true; the input reads as it did. -/
def fnEndsSpec : ChangeSpec := { name := "fnEnds", fn := fun _ => fun
  | [d] => { results := [.lit (.bool true)], args := [d] }
  | _ => none }
def fnEndsRow : OpenClaim := { program := "ytnhnpggoknepfaa", sum := "46822511afbefd148d5b4819f1dfc086df9200a5000c1da15ea2c1b6c52ffe0b", func := "loop.example/kilnwind/laws.FnEnds", spec := "fnEnds", plainKeys := false, apart := false }
def FnEndsSaid : Prop := fnEndsRow.holds Try.pinned (OpenSpec.ofChange fnEndsSpec)

/-- ITS FALSE NEIGHBOUR: 'it returns false'. Refute it at one input. -/
def fnEndsWrong : ChangeSpec := { name := "fnEnds", fn := fun _ => fun
  | [d] => { results := [.lit (.bool false)], args := [d] }
  | _ => none }
def FnEndsWrongFalsely : Prop := fnEndsRow.holds Try.pinned (OpenSpec.ofChange fnEndsWrong)

/-- 'laws.FnLive': WHATEVER THE INPUT: true; the input reads as it did. -/
def fnLiveSpec : ChangeSpec := { name := "fnLive", fn := fun _ => fun
  | [d] => { results := [.lit (.bool true)], args := [d] }
  | _ => none }
def fnLiveRow : OpenClaim := { program := "ytnhnpggoknepfaa", sum := "46822511afbefd148d5b4819f1dfc086df9200a5000c1da15ea2c1b6c52ffe0b", func := "loop.example/kilnwind/laws.FnLive", spec := "fnLive", plainKeys := false, apart := false }
def FnLiveSaid : Prop := fnLiveRow.holds Try.pinned (OpenSpec.ofChange fnLiveSpec)

/-- ITS FALSE NEIGHBOUR: 'it returns false'. Refute it at one input. -/
def fnLiveWrong : ChangeSpec := { name := "fnLive", fn := fun _ => fun
  | [d] => { results := [.lit (.bool false)], args := [d] }
  | _ => none }
def FnLiveWrongFalsely : Prop := fnLiveRow.holds Try.pinned (OpenSpec.ofChange fnLiveWrong)

/- THE SECOND FORM. 'bulk': how many values and letters a reading holds, each counted each time it is reached (what is shared counts as often as it is met; a slice's spare places count too). A statement '..UptoSaid' is the law's where the arguments, and the package variables that the reading takes, are together of bulk at most 1048576: NARROWER than '..Said'. Prove '..Said' where nothing that the law and all that it calls make is longer than what came in: it says more and counts as full. Else prove '..UptoSaid'. A law counts once. -/
mutual
def uptoBulk {H : Type} : DataW H → Nat
  | .lit (.string bytes) => bytes.length + 1
  | .lit _ => 1
  | .nil => 1
  | .ptr d => uptoBulk d + 1
  | .slice elems spare => uptoBulkAll elems + uptoBulkAll spare + 1
  | .agg parts => uptoBulkAll parts + 1
  | .iface _ d => uptoBulk d + 1
  | .map entries => uptoBulkEntries entries + 1
  | .held _ => 1
def uptoBulkAll {H : Type} : List (DataW H) → Nat
  | [] => 0
  | d :: r => uptoBulk d + uptoBulkAll r
def uptoBulkEntries {H : Type} : List (Lit × DataW H) → Nat
  | [] => 0
  | x :: r => uptoBulkEntry x + uptoBulkEntries r
def uptoBulkEntry {H : Type} : Lit × DataW H → Nat
  | (.string bytes, d) => bytes.length + uptoBulk d + 1
  | (_, d) => uptoBulk d + 1
 end
def uptoSmall : (H : Type) → List (DataW H) → Bool := fun _ ds => decide (uptoBulkAll ds ≤ 1048576)
def OpenSpec.upto (s : _root_.Go.ChangeSpec) : _root_.Go.OpenSpec := { _root_.Go.OpenSpec.ofChange s with cond := some uptoSmall }

/-- 'laws.FnExactEndTake', WHERE WHAT IT READS IS OF BULK AT MOST 1048576: true; the input reads as it did. -/
def fnExactEndTakeUptoRow : OpenClaim := { program := "ytnhnpggoknepfaa", sum := "46822511afbefd148d5b4819f1dfc086df9200a5000c1da15ea2c1b6c52ffe0b", func := "loop.example/kilnwind/laws.FnExactEndTake", spec := "fnExactEndTake", plainKeys := false, apart := false, narrowed := true }
def FnExactEndTakeUptoSaid : Prop := fnExactEndTakeUptoRow.holds Try.pinned (OpenSpec.upto fnExactEndTakeSpec)

/-- 'laws.FnRight', WHERE WHAT IT READS IS OF BULK AT MOST 1048576: true; the input reads as it did. -/
def fnRightUptoRow : OpenClaim := { program := "ytnhnpggoknepfaa", sum := "46822511afbefd148d5b4819f1dfc086df9200a5000c1da15ea2c1b6c52ffe0b", func := "loop.example/kilnwind/laws.FnRight", spec := "fnRight", plainKeys := false, apart := false, narrowed := true }
def FnRightUptoSaid : Prop := fnRightUptoRow.holds Try.pinned (OpenSpec.upto fnRightSpec)

/-- 'laws.FnForged', WHERE WHAT IT READS IS OF BULK AT MOST 1048576: true; the input reads as it did. -/
def fnForgedUptoRow : OpenClaim := { program := "ytnhnpggoknepfaa", sum := "46822511afbefd148d5b4819f1dfc086df9200a5000c1da15ea2c1b6c52ffe0b", func := "loop.example/kilnwind/laws.FnForged", spec := "fnForged", plainKeys := false, apart := false, narrowed := true }
def FnForgedUptoSaid : Prop := fnForgedUptoRow.holds Try.pinned (OpenSpec.upto fnForgedSpec)

/-- 'laws.FnSafe', WHERE WHAT IT READS IS OF BULK AT MOST 1048576: true; the input reads as it did. -/
def fnSafeUptoRow : OpenClaim := { program := "ytnhnpggoknepfaa", sum := "46822511afbefd148d5b4819f1dfc086df9200a5000c1da15ea2c1b6c52ffe0b", func := "loop.example/kilnwind/laws.FnSafe", spec := "fnSafe", plainKeys := false, apart := false, narrowed := true }
def FnSafeUptoSaid : Prop := fnSafeUptoRow.holds Try.pinned (OpenSpec.upto fnSafeSpec)

/-- 'laws.FnApart', WHERE WHAT IT READS IS OF BULK AT MOST 1048576: true; the input reads as it did. -/
def fnApartUptoRow : OpenClaim := { program := "ytnhnpggoknepfaa", sum := "46822511afbefd148d5b4819f1dfc086df9200a5000c1da15ea2c1b6c52ffe0b", func := "loop.example/kilnwind/laws.FnApart", spec := "fnApart", plainKeys := false, apart := false, narrowed := true }
def FnApartUptoSaid : Prop := fnApartUptoRow.holds Try.pinned (OpenSpec.upto fnApartSpec)

/-- 'laws.FnEnds', WHERE WHAT IT READS IS OF BULK AT MOST 1048576: true; the input reads as it did. -/
def fnEndsUptoRow : OpenClaim := { program := "ytnhnpggoknepfaa", sum := "46822511afbefd148d5b4819f1dfc086df9200a5000c1da15ea2c1b6c52ffe0b", func := "loop.example/kilnwind/laws.FnEnds", spec := "fnEnds", plainKeys := false, apart := false, narrowed := true }
def FnEndsUptoSaid : Prop := fnEndsUptoRow.holds Try.pinned (OpenSpec.upto fnEndsSpec)

/-- 'laws.FnLive', WHERE WHAT IT READS IS OF BULK AT MOST 1048576: true; the input reads as it did. -/
def fnLiveUptoRow : OpenClaim := { program := "ytnhnpggoknepfaa", sum := "46822511afbefd148d5b4819f1dfc086df9200a5000c1da15ea2c1b6c52ffe0b", func := "loop.example/kilnwind/laws.FnLive", spec := "fnLive", plainKeys := false, apart := false, narrowed := true }
def FnLiveUptoSaid : Prop := fnLiveUptoRow.holds Try.pinned (OpenSpec.upto fnLiveSpec)

end Rows
end Go.Proofs.Ytnhnpggoknepfaa
