/- A part of the proof: an abstract machine over the program (sound by its theorems), or definitions printed by it. There is no condition. -/
import Derived.Test.YtpedakafdiejfaaKmTab
namespace Km.X
open Go Km
set_option linter.unusedVariables false
structure DPart where
  Text : ByteArray
  Last : Bool
structure DItem where
  Part : DPart
  Has : Bool
  Since : Int
structure DPacket where
  Kind : Int
  From : Int
  Mine : Int
  Yours : Int
  Next : Int
  Mask : Int
  Seq : Int
  Last : Bool
  Part : ByteArray
structure DSend where
  Base : Int
  Items : List DItem
inductive K | byte | int | str | part | item
abbrev TyK : K → Type
  | .byte => Int
  | .int => Int
  | .str => ByteArray
  | .part => DPart
  | .item => DItem
abbrev V := AV K TyK
def kno : K → Nat
  | .byte => 0
  | .int => 1
  | .str => 2
  | .part => 3
  | .item => 4
def kcast : (s t : K) → List (TyK s) → Option (List (TyK t))
  | .byte, .byte, xs => some xs
  | .int, .int, xs => some xs
  | .str, .str, xs => some xs
  | .part, .part, xs => some xs
  | .item, .item, xs => some xs
  | _, _, _ => none
def ksz : K → Nat
  | .byte => 1
  | .int => 1
  | .str => 1
  | .part => 2
  | .item => 4
def kby : K → Nat
  | .byte => 1
  | .int => 8
  | .str => 8
  | .part => 24
  | .item => 40
def kenc : (t : K) → TyK t → List V
  | .byte, x => [.lit (.int .u8 x)]
  | .int, x => [.lit (.int .i64 x)]
  | .str, x => [.lit (.string x)]
  | .part, x => [.lit (.string x.Text), .lit (.bool x.Last)]
  | .item, x => [.lit (.string x.Part.Text), .lit (.bool x.Part.Last), .lit (.bool x.Has), .lit (.int .i64 x.Since)]
def kdec : (t : K) → List V → Option (TyK t)
  | .byte, [.lit (.int .u8 v1)] => some v1
  | .int, [.lit (.int .i64 v1)] => some v1
  | .str, [.lit (.string v1)] => some v1
  | .part, [.lit (.string v1), .lit (.bool v2)] => some ⟨v1, v2⟩
  | .item, [.lit (.string v1), .lit (.bool v2), .lit (.bool v3), .lit (.int .i64 v4)] => some ⟨⟨v1, v2⟩, v3, v4⟩
  | _, _ => none
def kbytes : (t : K) → List (TyK t) → Option (List Int)
  | .byte, xs => some xs
  | _, _ => none
def cod : Cod K TyK where
  same s t := Nat.beq (kno s) (kno t)
  cast := kcast
  sz := ksz
  by' := kby
  bor _ := false
  enc := kenc
  dec := kdec
  bytes := kbytes
theorem codOk : CodOk cod where
  same s t h := by have := Nat.eq_of_beq_eq_true h; cases s <;> cases t <;> first | rfl | (simp [kno] at this)
  len t x := by cases t <;> rfl
  dec t cs x h := by
    change kdec t cs = some x at h
    unfold kdec at h
    split at h <;> first | (cases h; rfl) | cases h
  deep t x c h := by
    change c ∈ kenc t x at h
    cases t <;> simp only [kenc, List.mem_cons, List.not_mem_nil, or_false] at h <;> (repeat' (rcases h with h | h)) <;> first | exact .inl ⟨_, rfl⟩ | exact .inr ⟨_, _, rfl, fun e => by cases e⟩
  cast s t xs ys h := by
    change kcast s t xs = some ys at h
    unfold kcast at h
    split at h
    all_goals first | (cases h; exact ⟨rfl, rfl⟩) | cases h
  bytes t xs bs h := by
    change kbytes t xs = some bs at h
    unfold kbytes at h
    split at h
    · cases h; exact ⟨rfl, fun i x b h1 h2 => by rw [h1] at h2; cases h2; rfl⟩
    · cases h
end Km.X