/- A part of the proof of FnPackets: the program's types as data. There is no condition. -/
import Derived.Test.YtlgdbdkjkjocjaaKxDef1
import Derived.Test.YtlgdbdkjkjocjaaKmAm3
import Derived.Test.YtlgdbdkjkjocjaaProg
namespace Km.X
open Go Km
set_option linter.unusedVariables false
inductive K | byte | int | str | part | held | item
abbrev TyK : K → Type
  | .byte => Int
  | .int => Int
  | .str => ByteArray
  | .part => DPart
  | .held => DHeld
  | .item => DItem
abbrev V := AV K TyK
def kno : K → Nat
  | .byte => 0
  | .int => 1
  | .str => 2
  | .part => 3
  | .held => 4
  | .item => 5
def kcast : (s t : K) → List (TyK s) → Option (List (TyK t))
  | .byte, .byte, xs => some xs
  | .int, .int, xs => some xs
  | .str, .str, xs => some xs
  | .part, .part, xs => some xs
  | .held, .held, xs => some xs
  | .item, .item, xs => some xs
  | _, _, _ => none
def ksz : K → Nat
  | .byte => 1
  | .int => 1
  | .str => 1
  | .part => 2
  | .held => 3
  | .item => 4
def kby : K → Nat
  | .byte => 1
  | .int => 8
  | .str => 16
  | .part => 24
  | .held => 32
  | .item => 40
def kenc : (t : K) → TyK t → List V
  | .byte, x => [.lit (.int .u8 x)]
  | .int, x => [.lit (.int .i64 x)]
  | .str, x => [.lit (.string x)]
  | .part, x => [.lit (.string x.Text), .lit (.bool x.Last)]
  | .held, x => [.lit (.int .i64 x.Seq), .lit (.string x.Part.Text), .lit (.bool x.Part.Last)]
  | .item, x => [.lit (.string x.Part.Text), .lit (.bool x.Part.Last), .lit (.bool x.Has), .lit (.int .i64 x.Since)]
def kdec : (t : K) → List V → Option (TyK t)
  | .byte, [.lit (.int .u8 v1)] => some v1
  | .int, [.lit (.int .i64 v1)] => some v1
  | .str, [.lit (.string v1)] => some v1
  | .part, [.lit (.string v1), .lit (.bool v2)] => some ⟨v1, v2⟩
  | .held, [.lit (.int .i64 v1), .lit (.string v2), .lit (.bool v3)] => some ⟨v1, ⟨v2, v3⟩⟩
  | .item, [.lit (.string v1), .lit (.bool v2), .lit (.bool v3), .lit (.int .i64 v4)] => some ⟨⟨v1, v2⟩, v3, v4⟩
  | _, _ => none
def kbytes : (t : K) → List (TyK t) → Option (List Int)
  | .byte, xs => some xs
  | _, _ => none
def kofb : (t : K) → ByteArray → Option (List (TyK t))
  | .byte, b => some (bytesOf b)
  | _, _ => none
def kkeq : (k : K) → TyK k → TyK k → Bool
  | _, _, _ => false
def kmcast : (k v k' v' : K) → List (TyK k × TyK v) → Option (List (TyK k' × TyK v'))
  | _, _, _, _, _ => none
def kbor : K → Bool
  | _ => false
def cod : Cod K TyK where
  same s t := Nat.beq (kno s) (kno t)
  cast := kcast
  sz := ksz
  by' := kby
  bor := kbor
  enc := kenc
  dec := kdec
  bytes := kbytes
  ofb := kofb
  keq := kkeq
  mcast := kmcast
theorem codOk : CodOk cod where
  same s t h := by have := Nat.eq_of_beq_eq_true h; cases s <;> cases t <;> first | rfl | (simp [kno] at this)
  len t x := by cases t <;> rfl
  dec t cs x h := by
    change kdec t cs = some x at h
    unfold kdec at h
    split at h <;> first | (cases h; rfl) | cases h
  deep t x c h := by
    change c ∈ kenc t x at h
    cases t <;> simp only [kenc, List.mem_cons, List.not_mem_nil, or_false] at h <;> (repeat' (rcases h with h | h)) <;> first | exact .inl ⟨_, rfl⟩ | exact .inr ⟨_, _, rfl, fun e => by cases e⟩
  cast s t xs ys h := by
    change kcast s t xs = some ys at h
    unfold kcast at h
    split at h
    all_goals first | (cases h; exact ⟨rfl, rfl⟩) | cases h
  ofb t b xs h := by
    change kofb t b = some xs at h
    unfold kofb at h
    split at h
    · cases h
      refine ⟨by unfold bytesOf; rw [List.length_map, Array.length_toList]; rfl, fun i x hx => ?_, rfl⟩
      simp only [bytesOf, List.getElem?_map, Option.map_eq_some_iff] at hx
      obtain ⟨c, hc, rfl⟩ := hx
      exact ⟨c, by simpa using hc, rfl⟩
    · cases h
  keq k x y h := by
    change kkeq k x y = true at h
    unfold kkeq at h
    split at h
    all_goals first | cases h | cases h
  mcast k v k' v' xs ys h := by
    change kmcast k v k' v' xs = some ys at h
    unfold kmcast at h
    split at h
    all_goals first | (cases h; exact ⟨rfl, rfl, rfl⟩) | cases h
  bytes t xs bs h := by
    change kbytes t xs = some bs at h
    unfold kbytes at h
    split at h
    · cases h; exact ⟨rfl, fun i x b h1 h2 => by rw [h1] at h2; cases h2; rfl⟩
    · cases h
end Km.X
namespace Km.X
open Go Km Go.Proofs
set_option linter.unusedVariables false
set_option maxRecDepth 100000
def tbl : List (Nat × TI K TyK) := [
  (2, ⟨1, 8, .int .i64, [.lit (.int .i64 0)]⟩),
  (3, ⟨1, 8, .int .i64, [.lit (.int .i64 0)]⟩),
  (4, ⟨1, 1, .bool, [.lit (.bool false)]⟩),
  (5, ⟨1, 1, .int .u8, [.lit (.int .u8 0)]⟩),
  (9, ⟨1, 16, .str, [.lit (.string ⟨#[]⟩)]⟩),
  (12, ⟨1, 8, .int .u64, [.lit (.int .u64 0)]⟩),
  (21, ⟨1, 4, .int .i32, [.lit (.int .i32 0)]⟩),
  (22, ⟨1, 24, .slice 103 .part, [.nil .part]⟩),
  (24, ⟨1, 24, .slice 9 .str, [.nil .str]⟩),
  (27, ⟨1, 24, .slice 60 .part, [.nil .part]⟩),
  (34, ⟨1, 24, .slice 5 .byte, [.nil .byte]⟩),
  (40, ⟨9, 80, .struct [(0, 3), (1, 3), (2, 3), (3, 3), (4, 3), (5, 3), (6, 3), (7, 4), (8, 9)], [.lit (.int .i64 0), .lit (.int .i64 0), .lit (.int .i64 0), .lit (.int .i64 0), .lit (.int .i64 0), .lit (.int .i64 0), .lit (.int .i64 0), .lit (.bool false), .lit (.string ⟨#[]⟩)]⟩),
  (45, ⟨1, 24, .slice 145 .held, [.nil .held]⟩),
  (47, ⟨4, 72, .struct [(0, 3), (1, 45), (2, 9), (3, 24)], [.lit (.int .i64 0), .nil .held, .lit (.string ⟨#[]⟩), .nil .str]⟩),
  (50, ⟨1, 24, .slice 117 .held, [.nil .held]⟩),
  (52, ⟨4, 72, .struct [(0, 3), (1, 50), (2, 9), (3, 24)], [.lit (.int .i64 0), .nil .held, .lit (.string ⟨#[]⟩), .nil .str]⟩),
  (60, ⟨2, 24, .struct [(0, 9), (1, 4)], [.lit (.string ⟨#[]⟩), .lit (.bool false)]⟩),
  (63, ⟨1, 24, .slice 150 .item, [.nil .item]⟩),
  (65, ⟨2, 32, .struct [(0, 3), (1, 63)], [.lit (.int .i64 0), .nil .item]⟩),
  (67, ⟨1, 24, .slice 94 .item, [.nil .item]⟩),
  (69, ⟨2, 32, .struct [(0, 3), (1, 67)], [.lit (.int .i64 0), .nil .item]⟩),
  (78, ⟨1, 24, .slice 3 .int, [.nil .int]⟩),
  (85, ⟨12, 152, .struct [(0, 3), (1, 4), (2, 3), (3, 3), (4, 3), (5, 4), (6, 69), (8, 52)], [.lit (.int .i64 0), .lit (.bool false), .lit (.int .i64 0), .lit (.int .i64 0), .lit (.int .i64 0), .lit (.bool false), .lit (.int .i64 0), .nil .item, .lit (.int .i64 0), .nil .held, .lit (.string ⟨#[]⟩), .nil .str]⟩),
  (94, ⟨4, 40, .struct [(0, 60), (2, 4), (3, 3)], [.lit (.string ⟨#[]⟩), .lit (.bool false), .lit (.bool false), .lit (.int .i64 0)]⟩),
  (103, ⟨2, 24, .struct [(0, 9), (1, 4)], [.lit (.string ⟨#[]⟩), .lit (.bool false)]⟩),
  (107, ⟨1, 8, .other, [.lit (.pointer none)]⟩),
  (117, ⟨3, 32, .struct [(0, 3), (1, 60)], [.lit (.int .i64 0), .lit (.string ⟨#[]⟩), .lit (.bool false)]⟩),
  (130, ⟨1, 8, .other, [.lit (.pointer none)]⟩),
  (137, ⟨1, 8, .int .u64, [.lit (.int .u64 0)]⟩),
  (138, ⟨8, 8, .arr 8 5 .byte, [.lit (.int .u8 0), .lit (.int .u8 0), .lit (.int .u8 0), .lit (.int .u8 0), .lit (.int .u8 0), .lit (.int .u8 0), .lit (.int .u8 0), .lit (.int .u8 0)]⟩),
  (139, ⟨1, 8, .int .u64, [.lit (.int .u64 0)]⟩),
  (142, ⟨2, 32, .struct [(0, 34), (1, 3)], [.nil .byte, .lit (.int .i64 0)]⟩),
  (145, ⟨3, 32, .struct [(0, 3), (1, 103)], [.lit (.int .i64 0), .lit (.string ⟨#[]⟩), .lit (.bool false)]⟩),
  (150, ⟨4, 40, .struct [(0, 103), (2, 4), (3, 3)], [.lit (.string ⟨#[]⟩), .lit (.bool false), .lit (.bool false), .lit (.int .i64 0)]⟩),
  (163, ⟨1, 4, .int .u32, [.lit (.int .u32 0)]⟩),
  (167, ⟨1, 8, .other, [.lit (.pointer none)]⟩)]
abbrev T := lookT tbl
theorem row2 : RowOk Try.prog cod T 2 ⟨1, 8, .int .i64, [.lit (.int .i64 0)]⟩ := ⟨_, _, _, Try.type2, rfl, rfl, rfl, by kernel_rfl, by kernel_rfl, Try.underlying2, by kernel_rfl, rfl⟩
theorem row3 : RowOk Try.prog cod T 3 ⟨1, 8, .int .i64, [.lit (.int .i64 0)]⟩ := ⟨_, _, _, Try.type3, rfl, rfl, rfl, by kernel_rfl, by kernel_rfl, Try.underlying3, by kernel_rfl, rfl⟩
theorem row4 : RowOk Try.prog cod T 4 ⟨1, 1, .bool, [.lit (.bool false)]⟩ := ⟨_, _, _, Try.type4, rfl, rfl, rfl, by kernel_rfl, by kernel_rfl, Try.underlying4, by kernel_rfl, rfl⟩
theorem row5 : RowOk Try.prog cod T 5 ⟨1, 1, .int .u8, [.lit (.int .u8 0)]⟩ := ⟨_, _, _, Try.type5, rfl, rfl, rfl, by kernel_rfl, by kernel_rfl, Try.underlying5, by kernel_rfl, rfl⟩
theorem row9 : RowOk Try.prog cod T 9 ⟨1, 16, .str, [.lit (.string ⟨#[]⟩)]⟩ := ⟨_, _, _, Try.type9, rfl, rfl, rfl, by kernel_rfl, by kernel_rfl, Try.underlying9, by kernel_rfl, rfl⟩
theorem row12 : RowOk Try.prog cod T 12 ⟨1, 8, .int .u64, [.lit (.int .u64 0)]⟩ := ⟨_, _, _, Try.type12, rfl, rfl, rfl, by kernel_rfl, by kernel_rfl, Try.underlying12, by kernel_rfl, rfl⟩
theorem row21 : RowOk Try.prog cod T 21 ⟨1, 4, .int .i32, [.lit (.int .i32 0)]⟩ := ⟨_, _, _, Try.type21, rfl, rfl, rfl, by kernel_rfl, by kernel_rfl, Try.underlying21, by kernel_rfl, rfl⟩
theorem row22 : RowOk Try.prog cod T 22 ⟨1, 24, .slice 103 .part, [.nil .part]⟩ := ⟨_, _, _, Try.type22, rfl, rfl, rfl, by kernel_rfl, by kernel_rfl, Try.underlying22, by kernel_rfl, ⟨⟨rfl, _, Try.type103, by kernel_rfl, by kernel_rfl⟩, _, _, Try.type103, rfl, by kernel_rfl, by kernel_rfl, by decide⟩⟩
theorem row24 : RowOk Try.prog cod T 24 ⟨1, 24, .slice 9 .str, [.nil .str]⟩ := ⟨_, _, _, Try.type24, rfl, rfl, rfl, by kernel_rfl, by kernel_rfl, Try.underlying24, by kernel_rfl, ⟨⟨rfl, _, Try.type9, by kernel_rfl, by kernel_rfl⟩, _, _, Try.type9, rfl, by kernel_rfl, by kernel_rfl, by decide⟩⟩
theorem row27 : RowOk Try.prog cod T 27 ⟨1, 24, .slice 60 .part, [.nil .part]⟩ := ⟨_, _, _, Try.type27, rfl, rfl, rfl, by kernel_rfl, by kernel_rfl, Try.underlying27, by kernel_rfl, ⟨⟨rfl, _, Try.type60, by kernel_rfl, by kernel_rfl⟩, _, _, Try.type60, rfl, by kernel_rfl, by kernel_rfl, by decide⟩⟩
theorem row34 : RowOk Try.prog cod T 34 ⟨1, 24, .slice 5 .byte, [.nil .byte]⟩ := ⟨_, _, _, Try.type34, rfl, rfl, rfl, by kernel_rfl, by kernel_rfl, Try.underlying34, by kernel_rfl, ⟨⟨rfl, _, Try.type5, by kernel_rfl, by kernel_rfl⟩, _, _, Try.type5, rfl, by kernel_rfl, by kernel_rfl, by decide⟩⟩
theorem row40 : RowOk Try.prog cod T 40 ⟨9, 80, .struct [(0, 3), (1, 3), (2, 3), (3, 3), (4, 3), (5, 3), (6, 3), (7, 4), (8, 9)], [.lit (.int .i64 0), .lit (.int .i64 0), .lit (.int .i64 0), .lit (.int .i64 0), .lit (.int .i64 0), .lit (.int .i64 0), .lit (.int .i64 0), .lit (.bool false), .lit (.string ⟨#[]⟩)]⟩ := ⟨_, _, _, Try.type40, rfl, rfl, rfl, by kernel_rfl, by kernel_rfl, Try.underlying40, by kernel_rfl, ⟨_, rfl, by kernel_rfl, by kernel_rfl, by kernel_rfl, by kernel_rfl, by kernel_rfl⟩⟩
theorem row45 : RowOk Try.prog cod T 45 ⟨1, 24, .slice 145 .held, [.nil .held]⟩ := ⟨_, _, _, Try.type45, rfl, rfl, rfl, by kernel_rfl, by kernel_rfl, Try.underlying45, by kernel_rfl, ⟨⟨rfl, _, Try.type145, by kernel_rfl, by kernel_rfl⟩, _, _, Try.type145, rfl, by kernel_rfl, by kernel_rfl, by decide⟩⟩
theorem row47 : RowOk Try.prog cod T 47 ⟨4, 72, .struct [(0, 3), (1, 45), (2, 9), (3, 24)], [.lit (.int .i64 0), .nil .held, .lit (.string ⟨#[]⟩), .nil .str]⟩ := ⟨_, _, _, Try.type47, rfl, rfl, rfl, by kernel_rfl, by kernel_rfl, Try.underlying47, by kernel_rfl, ⟨_, rfl, by kernel_rfl, by kernel_rfl, by kernel_rfl, by kernel_rfl, by kernel_rfl⟩⟩
theorem row50 : RowOk Try.prog cod T 50 ⟨1, 24, .slice 117 .held, [.nil .held]⟩ := ⟨_, _, _, Try.type50, rfl, rfl, rfl, by kernel_rfl, by kernel_rfl, Try.underlying50, by kernel_rfl, ⟨⟨rfl, _, Try.type117, by kernel_rfl, by kernel_rfl⟩, _, _, Try.type117, rfl, by kernel_rfl, by kernel_rfl, by decide⟩⟩
theorem row52 : RowOk Try.prog cod T 52 ⟨4, 72, .struct [(0, 3), (1, 50), (2, 9), (3, 24)], [.lit (.int .i64 0), .nil .held, .lit (.string ⟨#[]⟩), .nil .str]⟩ := ⟨_, _, _, Try.type52, rfl, rfl, rfl, by kernel_rfl, by kernel_rfl, Try.underlying52, by kernel_rfl, ⟨_, rfl, by kernel_rfl, by kernel_rfl, by kernel_rfl, by kernel_rfl, by kernel_rfl⟩⟩
theorem row60 : RowOk Try.prog cod T 60 ⟨2, 24, .struct [(0, 9), (1, 4)], [.lit (.string ⟨#[]⟩), .lit (.bool false)]⟩ := ⟨_, _, _, Try.type60, rfl, rfl, rfl, by kernel_rfl, by kernel_rfl, Try.underlying60, by kernel_rfl, ⟨_, rfl, by kernel_rfl, by kernel_rfl, by kernel_rfl, by kernel_rfl, by kernel_rfl⟩⟩
theorem row63 : RowOk Try.prog cod T 63 ⟨1, 24, .slice 150 .item, [.nil .item]⟩ := ⟨_, _, _, Try.type63, rfl, rfl, rfl, by kernel_rfl, by kernel_rfl, Try.underlying63, by kernel_rfl, ⟨⟨rfl, _, Try.type150, by kernel_rfl, by kernel_rfl⟩, _, _, Try.type150, rfl, by kernel_rfl, by kernel_rfl, by decide⟩⟩
theorem row65 : RowOk Try.prog cod T 65 ⟨2, 32, .struct [(0, 3), (1, 63)], [.lit (.int .i64 0), .nil .item]⟩ := ⟨_, _, _, Try.type65, rfl, rfl, rfl, by kernel_rfl, by kernel_rfl, Try.underlying65, by kernel_rfl, ⟨_, rfl, by kernel_rfl, by kernel_rfl, by kernel_rfl, by kernel_rfl, by kernel_rfl⟩⟩
theorem row67 : RowOk Try.prog cod T 67 ⟨1, 24, .slice 94 .item, [.nil .item]⟩ := ⟨_, _, _, Try.type67, rfl, rfl, rfl, by kernel_rfl, by kernel_rfl, Try.underlying67, by kernel_rfl, ⟨⟨rfl, _, Try.type94, by kernel_rfl, by kernel_rfl⟩, _, _, Try.type94, rfl, by kernel_rfl, by kernel_rfl, by decide⟩⟩
theorem row69 : RowOk Try.prog cod T 69 ⟨2, 32, .struct [(0, 3), (1, 67)], [.lit (.int .i64 0), .nil .item]⟩ := ⟨_, _, _, Try.type69, rfl, rfl, rfl, by kernel_rfl, by kernel_rfl, Try.underlying69, by kernel_rfl, ⟨_, rfl, by kernel_rfl, by kernel_rfl, by kernel_rfl, by kernel_rfl, by kernel_rfl⟩⟩
theorem row78 : RowOk Try.prog cod T 78 ⟨1, 24, .slice 3 .int, [.nil .int]⟩ := ⟨_, _, _, Try.type78, rfl, rfl, rfl, by kernel_rfl, by kernel_rfl, Try.underlying78, by kernel_rfl, ⟨⟨rfl, _, Try.type3, by kernel_rfl, by kernel_rfl⟩, _, _, Try.type3, rfl, by kernel_rfl, by kernel_rfl, by decide⟩⟩
theorem row85 : RowOk Try.prog cod T 85 ⟨12, 152, .struct [(0, 3), (1, 4), (2, 3), (3, 3), (4, 3), (5, 4), (6, 69), (8, 52)], [.lit (.int .i64 0), .lit (.bool false), .lit (.int .i64 0), .lit (.int .i64 0), .lit (.int .i64 0), .lit (.bool false), .lit (.int .i64 0), .nil .item, .lit (.int .i64 0), .nil .held, .lit (.string ⟨#[]⟩), .nil .str]⟩ := ⟨_, _, _, Try.type85, rfl, rfl, rfl, by kernel_rfl, by kernel_rfl, Try.underlying85, by kernel_rfl, ⟨_, rfl, by kernel_rfl, by kernel_rfl, by kernel_rfl, by kernel_rfl, by kernel_rfl⟩⟩
theorem row94 : RowOk Try.prog cod T 94 ⟨4, 40, .struct [(0, 60), (2, 4), (3, 3)], [.lit (.string ⟨#[]⟩), .lit (.bool false), .lit (.bool false), .lit (.int .i64 0)]⟩ := ⟨_, _, _, Try.type94, rfl, rfl, rfl, by kernel_rfl, by kernel_rfl, Try.underlying94, by kernel_rfl, ⟨_, rfl, by kernel_rfl, by kernel_rfl, by kernel_rfl, by kernel_rfl, by kernel_rfl⟩⟩
theorem row103 : RowOk Try.prog cod T 103 ⟨2, 24, .struct [(0, 9), (1, 4)], [.lit (.string ⟨#[]⟩), .lit (.bool false)]⟩ := ⟨_, _, _, Try.type103, rfl, rfl, rfl, by kernel_rfl, by kernel_rfl, Try.underlying103, by kernel_rfl, ⟨_, rfl, by kernel_rfl, by kernel_rfl, by kernel_rfl, by kernel_rfl, by kernel_rfl⟩⟩
theorem row107 : RowOk Try.prog cod T 107 ⟨1, 8, .other, [.lit (.pointer none)]⟩ := ⟨_, _, _, Try.type107, rfl, rfl, rfl, by kernel_rfl, by kernel_rfl, Try.underlying107, by kernel_rfl, trivial⟩
theorem row117 : RowOk Try.prog cod T 117 ⟨3, 32, .struct [(0, 3), (1, 60)], [.lit (.int .i64 0), .lit (.string ⟨#[]⟩), .lit (.bool false)]⟩ := ⟨_, _, _, Try.type117, rfl, rfl, rfl, by kernel_rfl, by kernel_rfl, Try.underlying117, by kernel_rfl, ⟨_, rfl, by kernel_rfl, by kernel_rfl, by kernel_rfl, by kernel_rfl, by kernel_rfl⟩⟩
theorem row130 : RowOk Try.prog cod T 130 ⟨1, 8, .other, [.lit (.pointer none)]⟩ := ⟨_, _, _, Try.type130, rfl, rfl, rfl, by kernel_rfl, by kernel_rfl, Try.underlying130, by kernel_rfl, trivial⟩
theorem row137 : RowOk Try.prog cod T 137 ⟨1, 8, .int .u64, [.lit (.int .u64 0)]⟩ := ⟨_, _, _, Try.type137, rfl, rfl, rfl, by kernel_rfl, by kernel_rfl, Try.underlying137, by kernel_rfl, rfl⟩
theorem row138 : RowOk Try.prog cod T 138 ⟨8, 8, .arr 8 5 .byte, [.lit (.int .u8 0), .lit (.int .u8 0), .lit (.int .u8 0), .lit (.int .u8 0), .lit (.int .u8 0), .lit (.int .u8 0), .lit (.int .u8 0), .lit (.int .u8 0)]⟩ := ⟨_, _, _, Try.type138, rfl, rfl, rfl, by kernel_rfl, by kernel_rfl, Try.underlying138, by kernel_rfl, ⟨rfl, ⟨_, Try.type5, by kernel_rfl, by kernel_rfl⟩, _, rfl, by kernel_rfl, by kernel_rfl⟩⟩
theorem row139 : RowOk Try.prog cod T 139 ⟨1, 8, .int .u64, [.lit (.int .u64 0)]⟩ := ⟨_, _, _, Try.type139, rfl, rfl, rfl, by kernel_rfl, by kernel_rfl, Try.underlying139, by kernel_rfl, rfl⟩
theorem row142 : RowOk Try.prog cod T 142 ⟨2, 32, .struct [(0, 34), (1, 3)], [.nil .byte, .lit (.int .i64 0)]⟩ := ⟨_, _, _, Try.type142, rfl, rfl, rfl, by kernel_rfl, by kernel_rfl, Try.underlying142, by kernel_rfl, ⟨_, rfl, by kernel_rfl, by kernel_rfl, by kernel_rfl, by kernel_rfl, by kernel_rfl⟩⟩
theorem row145 : RowOk Try.prog cod T 145 ⟨3, 32, .struct [(0, 3), (1, 103)], [.lit (.int .i64 0), .lit (.string ⟨#[]⟩), .lit (.bool false)]⟩ := ⟨_, _, _, Try.type145, rfl, rfl, rfl, by kernel_rfl, by kernel_rfl, Try.underlying145, by kernel_rfl, ⟨_, rfl, by kernel_rfl, by kernel_rfl, by kernel_rfl, by kernel_rfl, by kernel_rfl⟩⟩
theorem row150 : RowOk Try.prog cod T 150 ⟨4, 40, .struct [(0, 103), (2, 4), (3, 3)], [.lit (.string ⟨#[]⟩), .lit (.bool false), .lit (.bool false), .lit (.int .i64 0)]⟩ := ⟨_, _, _, Try.type150, rfl, rfl, rfl, by kernel_rfl, by kernel_rfl, Try.underlying150, by kernel_rfl, ⟨_, rfl, by kernel_rfl, by kernel_rfl, by kernel_rfl, by kernel_rfl, by kernel_rfl⟩⟩
theorem row163 : RowOk Try.prog cod T 163 ⟨1, 4, .int .u32, [.lit (.int .u32 0)]⟩ := ⟨_, _, _, Try.type163, rfl, rfl, rfl, by kernel_rfl, by kernel_rfl, Try.underlying163, by kernel_rfl, rfl⟩
theorem row167 : RowOk Try.prog cod T 167 ⟨1, 8, .other, [.lit (.pointer none)]⟩ := ⟨_, _, _, Try.type167, rfl, rfl, rfl, by kernel_rfl, by kernel_rfl, Try.underlying167, by kernel_rfl, trivial⟩
theorem rows : ∀ e ∈ tbl, RowOk Try.prog cod T e.1 e.2 :=
  all_cons row2 (all_cons row3 (all_cons row4 (all_cons row5 (all_cons row9 (all_cons row12 (all_cons row21 (all_cons row22 (all_cons row24 (all_cons row27 (all_cons row34 (all_cons row40 (all_cons row45 (all_cons row47 (all_cons row50 (all_cons row52 (all_cons row60 (all_cons row63 (all_cons row65 (all_cons row67 (all_cons row69 (all_cons row78 (all_cons row85 (all_cons row94 (all_cons row103 (all_cons row107 (all_cons row117 (all_cons row130 (all_cons row137 (all_cons row138 (all_cons row139 (all_cons row142 (all_cons row145 (all_cons row150 (all_cons row163 (all_cons row167 (all_nil))))))))))))))))))))))))))))))))))))
theorem tok : TOk Try.prog cod T := TOk.of rows
theorem eok : EOk Try.prog cod T := EOk.of rows
theorem mixed : Try.prog.follows .mixedOrders = true := by kernel_rfl
end Km.X
namespace Km.X
open Go Km Go.Proofs
set_option linter.unusedVariables false
set_option linter.unusedSimpArgs false
set_option maxRecDepth 100000
theorem eq_DPart (x y : DPart) (h : x.Text = y.Text ∧ x.Last = y.Last) : x = y := by
  obtain ⟨_, _⟩ := x
  obtain ⟨_, _⟩ := y
  simp_all
theorem eq_DItem (x y : DItem) (h : x.Part.Text = y.Part.Text ∧ x.Part.Last = y.Part.Last ∧ x.Has = y.Has ∧ x.Since = y.Since) : x = y := by
  obtain ⟨⟨_, _⟩, _, _⟩ := x
  obtain ⟨⟨_, _⟩, _, _⟩ := y
  simp_all
theorem eq_DSend (x y : DSend) (h : x.Base = y.Base ∧ x.Items = y.Items) : x = y := by
  obtain ⟨_, _⟩ := x
  obtain ⟨_, _⟩ := y
  simp_all
theorem eq_DHeld (x y : DHeld) (h : x.Seq = y.Seq ∧ x.Part.Text = y.Part.Text ∧ x.Part.Last = y.Part.Last) : x = y := by
  obtain ⟨_, ⟨_, _⟩⟩ := x
  obtain ⟨_, ⟨_, _⟩⟩ := y
  simp_all
theorem eq_DTake (x y : DTake) (h : x.Next = y.Next ∧ x.Held = y.Held ∧ x.Open = y.Open ∧ x.Ready = y.Ready) : x = y := by
  obtain ⟨_, _, _, _⟩ := x
  obtain ⟨_, _, _, _⟩ := y
  simp_all
theorem eq_DEnd (x y : DEnd) (h : x.Number = y.Number ∧ x.Up = y.Up ∧ x.Life = y.Life ∧ x.Peer = y.Peer ∧ x.Since = y.Since ∧ x.Owes = y.Owes ∧ x.Send.Base = y.Send.Base ∧ x.Send.Items = y.Send.Items ∧ x.Take.Next = y.Take.Next ∧ x.Take.Held = y.Take.Held ∧ x.Take.Open = y.Take.Open ∧ x.Take.Ready = y.Take.Ready) : x = y := by
  obtain ⟨_, _, _, _, _, _, ⟨_, _⟩, ⟨_, _, _, _⟩⟩ := x
  obtain ⟨_, _, _, _, _, _, ⟨_, _⟩, ⟨_, _, _, _⟩⟩ := y
  simp_all
theorem eq_DL1Rd (x y : DL1Rd) (h : x.b = y.b ∧ x.p = y.p) : x = y := by
  obtain ⟨_, _⟩ := x
  obtain ⟨_, _⟩ := y
  simp_all
theorem eq_DPacket (x y : DPacket) (h : x.Kind = y.Kind ∧ x.From = y.From ∧ x.Mine = y.Mine ∧ x.Yours = y.Yours ∧ x.Next = y.Next ∧ x.Mask = y.Mask ∧ x.Seq = y.Seq ∧ x.Last = y.Last ∧ x.Part = y.Part) : x = y := by
  obtain ⟨_, _, _, _, _, _, _, _, _⟩ := x
  obtain ⟨_, _, _, _, _, _, _, _, _⟩ := y
  simp_all
theorem list2 {α : Type} {l : List α} (h : l.length = 2) : ∃ a0 a1, l = [a0, a1] := by
  match l, h with
  | [a0, a1], _ => exact ⟨a0, a1, rfl⟩
theorem list3 {α : Type} {l : List α} (h : l.length = 3) : ∃ a0 a1 a2, l = [a0, a1, a2] := by
  match l, h with
  | [a0, a1, a2], _ => exact ⟨a0, a1, a2, rfl⟩
theorem list4 {α : Type} {l : List α} (h : l.length = 4) : ∃ a0 a1 a2 a3, l = [a0, a1, a2, a3] := by
  match l, h with
  | [a0, a1, a2, a3], _ => exact ⟨a0, a1, a2, a3, rfl⟩
theorem list9 {α : Type} {l : List α} (h : l.length = 9) : ∃ a0 a1 a2 a3 a4 a5 a6 a7 a8, l = [a0, a1, a2, a3, a4, a5, a6, a7, a8] := by
  match l, h with
  | [a0, a1, a2, a3, a4, a5, a6, a7, a8], _ => exact ⟨a0, a1, a2, a3, a4, a5, a6, a7, a8, rfl⟩
theorem list12 {α : Type} {l : List α} (h : l.length = 12) : ∃ a0 a1 a2 a3 a4 a5 a6 a7 a8 a9 a10 a11, l = [a0, a1, a2, a3, a4, a5, a6, a7, a8, a9, a10, a11] := by
  match l, h with
  | [a0, a1, a2, a3, a4, a5, a6, a7, a8, a9, a10, a11], _ => exact ⟨a0, a1, a2, a3, a4, a5, a6, a7, a8, a9, a10, a11, rfl⟩
theorem sh2 {n : Nat} {avs : List V} (h : shaped cod T n 2 avs) : ∃ x : Int, avs = [.lit (.int .i64 x)] ∧ (Lit.int .i64 x).wf = true := by
  cases n with
  | zero => exact h.elim
  | succ n =>
    exact h
theorem sh3 {n : Nat} {avs : List V} (h : shaped cod T n 3 avs) : ∃ x : Int, avs = [.lit (.int .i64 x)] ∧ (Lit.int .i64 x).wf = true := by
  cases n with
  | zero => exact h.elim
  | succ n =>
    exact h
theorem sh4 {n : Nat} {avs : List V} (h : shaped cod T n 4 avs) : ∃ x : Bool, avs = [.lit (.bool x)] ∧ True := by
  cases n with
  | zero => exact h.elim
  | succ n =>
    obtain ⟨b, h⟩ := (h : ∃ b, avs = [.lit (.bool b)])
    exact ⟨b, h, trivial⟩
theorem sh5 {n : Nat} {avs : List V} (h : shaped cod T n 5 avs) : ∃ x : Int, avs = [.lit (.int .u8 x)] ∧ (Lit.int .u8 x).wf = true := by
  cases n with
  | zero => exact h.elim
  | succ n =>
    exact h
theorem sh9 {n : Nat} {avs : List V} (h : shaped cod T n 9 avs) : ∃ x : ByteArray, avs = [.lit (.string x)] ∧ x.size ≤ maxLen := by
  cases n with
  | zero => exact h.elim
  | succ n =>
    exact h
theorem sh12 {n : Nat} {avs : List V} (h : shaped cod T n 12 avs) : ∃ x : Int, avs = [.lit (.int .u64 x)] ∧ (Lit.int .u64 x).wf = true := by
  cases n with
  | zero => exact h.elim
  | succ n =>
    exact h
theorem sh21 {n : Nat} {avs : List V} (h : shaped cod T n 21 avs) : ∃ x : Int, avs = [.lit (.int .i32 x)] ∧ (Lit.int .i32 x).wf = true := by
  cases n with
  | zero => exact h.elim
  | succ n =>
    exact h
theorem sh103 {n : Nat} {avs : List V} (h : shaped cod T n 103 avs) : ∃ x : DPart, avs = [.lit (.string x.Text), .lit (.bool x.Last)] ∧ wfDPart x := by
  cases n with
  | zero => exact h.elim
  | succ n =>
    obtain ⟨hl, hf⟩ := (h : avs.length = 2 ∧ ∀ f ∈ ([(0, 9), (1, 4)] : List (Nat × TypeId)), ∃ tf, T f.2 = some tf ∧ shaped cod T n f.2 ((avs.drop f.1).take tf.size))
    obtain ⟨a0, a1, rfl⟩ := list2 hl
    obtain ⟨t0, ht0, g0⟩ := hf (0, 9) (by simp)
    obtain rfl := Option.some.inj ht0
    obtain ⟨x0, e0, w0⟩ := sh9 (show shaped cod T n 9 [a0] from g0)
    simp only [List.cons.injEq, and_true] at e0
    obtain ⟨t1, ht1, g1⟩ := hf (1, 4) (by simp)
    obtain rfl := Option.some.inj ht1
    obtain ⟨x1, e1, w1⟩ := sh4 (show shaped cod T n 4 [a1] from g1)
    simp only [List.cons.injEq, and_true] at e1
    obtain rfl := e0
    obtain rfl := e1
    exact ⟨⟨x0, x1⟩, rfl, w0, w1⟩
theorem sh22 {n : Nat} {avs : List V} (h : shaped cod T n 22 avs) : ∃ x : List DPart, avs = [.inl false .part x] ∧ (x.length ≤ maxLen ∧ ∀ y ∈ x, wf_part y) := by
  cases n with
  | zero => exact h.elim
  | succ n =>
    obtain ⟨xs, h1, h2, h3⟩ := (h : ∃ xs : List (TyK .part), avs = [.inl false .part xs] ∧ xs.length ≤ maxLen ∧ ∀ x ∈ xs, shaped cod T n 103 (kenc .part x))
    refine ⟨xs, h1, h2, fun y hy => ?_⟩
    obtain ⟨z, hz, hw⟩ := sh103 (h3 y hy)
    have hz : ([.lit (.string y.Text), .lit (.bool y.Last)] : List V) = [.lit (.string z.Text), .lit (.bool z.Last)] := hz
    have : y = z := by
      simp only [List.cons.injEq, AV.lit.injEq, AV.inl.injEq, Value.int.injEq, Value.string.injEq, Value.bool.injEq, true_and, and_true, heq_eq_eq] at hz
      exact eq_DPart y z hz
    subst this
    exact hw
theorem sh24 {n : Nat} {avs : List V} (h : shaped cod T n 24 avs) : ∃ x : List ByteArray, avs = [.inl false .str x] ∧ (x.length ≤ maxLen ∧ ∀ y ∈ x, wf_str y) := by
  cases n with
  | zero => exact h.elim
  | succ n =>
    obtain ⟨xs, h1, h2, h3⟩ := (h : ∃ xs : List (TyK .str), avs = [.inl false .str xs] ∧ xs.length ≤ maxLen ∧ ∀ x ∈ xs, shaped cod T n 9 (kenc .str x))
    refine ⟨xs, h1, h2, fun y hy => ?_⟩
    obtain ⟨z, hz, hw⟩ := sh9 (h3 y hy)
    have hz : ([.lit (.string y)] : List V) = [.lit (.string z)] := hz
    have : y = z := by
      simp only [List.cons.injEq, AV.lit.injEq, AV.inl.injEq, Value.int.injEq, Value.string.injEq, Value.bool.injEq, true_and, and_true, heq_eq_eq] at hz
      exact hz
    subst this
    exact hw
theorem sh60 {n : Nat} {avs : List V} (h : shaped cod T n 60 avs) : ∃ x : DPart, avs = [.lit (.string x.Text), .lit (.bool x.Last)] ∧ wfDPart x := by
  cases n with
  | zero => exact h.elim
  | succ n =>
    obtain ⟨hl, hf⟩ := (h : avs.length = 2 ∧ ∀ f ∈ ([(0, 9), (1, 4)] : List (Nat × TypeId)), ∃ tf, T f.2 = some tf ∧ shaped cod T n f.2 ((avs.drop f.1).take tf.size))
    obtain ⟨a0, a1, rfl⟩ := list2 hl
    obtain ⟨t0, ht0, g0⟩ := hf (0, 9) (by simp)
    obtain rfl := Option.some.inj ht0
    obtain ⟨x0, e0, w0⟩ := sh9 (show shaped cod T n 9 [a0] from g0)
    simp only [List.cons.injEq, and_true] at e0
    obtain ⟨t1, ht1, g1⟩ := hf (1, 4) (by simp)
    obtain rfl := Option.some.inj ht1
    obtain ⟨x1, e1, w1⟩ := sh4 (show shaped cod T n 4 [a1] from g1)
    simp only [List.cons.injEq, and_true] at e1
    obtain rfl := e0
    obtain rfl := e1
    exact ⟨⟨x0, x1⟩, rfl, w0, w1⟩
theorem sh27 {n : Nat} {avs : List V} (h : shaped cod T n 27 avs) : ∃ x : List DPart, avs = [.inl false .part x] ∧ (x.length ≤ maxLen ∧ ∀ y ∈ x, wf_part y) := by
  cases n with
  | zero => exact h.elim
  | succ n =>
    obtain ⟨xs, h1, h2, h3⟩ := (h : ∃ xs : List (TyK .part), avs = [.inl false .part xs] ∧ xs.length ≤ maxLen ∧ ∀ x ∈ xs, shaped cod T n 60 (kenc .part x))
    refine ⟨xs, h1, h2, fun y hy => ?_⟩
    obtain ⟨z, hz, hw⟩ := sh60 (h3 y hy)
    have hz : ([.lit (.string y.Text), .lit (.bool y.Last)] : List V) = [.lit (.string z.Text), .lit (.bool z.Last)] := hz
    have : y = z := by
      simp only [List.cons.injEq, AV.lit.injEq, AV.inl.injEq, Value.int.injEq, Value.string.injEq, Value.bool.injEq, true_and, and_true, heq_eq_eq] at hz
      exact eq_DPart y z hz
    subst this
    exact hw
theorem sh34 {n : Nat} {avs : List V} (h : shaped cod T n 34 avs) : ∃ x : List Int, avs = [.inl false .byte x] ∧ (x.length ≤ maxLen ∧ ∀ y ∈ x, wf_byte y) := by
  cases n with
  | zero => exact h.elim
  | succ n =>
    obtain ⟨xs, h1, h2, h3⟩ := (h : ∃ xs : List (TyK .byte), avs = [.inl false .byte xs] ∧ xs.length ≤ maxLen ∧ ∀ x ∈ xs, shaped cod T n 5 (kenc .byte x))
    refine ⟨xs, h1, h2, fun y hy => ?_⟩
    obtain ⟨z, hz, hw⟩ := sh5 (h3 y hy)
    have hz : ([.lit (.int .u8 y)] : List V) = [.lit (.int .u8 z)] := hz
    have : y = z := by
      simp only [List.cons.injEq, AV.lit.injEq, AV.inl.injEq, Value.int.injEq, Value.string.injEq, Value.bool.injEq, true_and, and_true, heq_eq_eq] at hz
      exact hz
    subst this
    exact hw
theorem sh40 {n : Nat} {avs : List V} (h : shaped cod T n 40 avs) : ∃ x : DPacket, avs = [.lit (.int .i64 x.Kind), .lit (.int .i64 x.From), .lit (.int .i64 x.Mine), .lit (.int .i64 x.Yours), .lit (.int .i64 x.Next), .lit (.int .i64 x.Mask), .lit (.int .i64 x.Seq), .lit (.bool x.Last), .lit (.string x.Part)] ∧ wfDPacket x := by
  cases n with
  | zero => exact h.elim
  | succ n =>
    obtain ⟨hl, hf⟩ := (h : avs.length = 9 ∧ ∀ f ∈ ([(0, 3), (1, 3), (2, 3), (3, 3), (4, 3), (5, 3), (6, 3), (7, 4), (8, 9)] : List (Nat × TypeId)), ∃ tf, T f.2 = some tf ∧ shaped cod T n f.2 ((avs.drop f.1).take tf.size))
    obtain ⟨a0, a1, a2, a3, a4, a5, a6, a7, a8, rfl⟩ := list9 hl
    obtain ⟨t0, ht0, g0⟩ := hf (0, 3) (by simp)
    obtain rfl := Option.some.inj ht0
    obtain ⟨x0, e0, w0⟩ := sh3 (show shaped cod T n 3 [a0] from g0)
    simp only [List.cons.injEq, and_true] at e0
    obtain ⟨t1, ht1, g1⟩ := hf (1, 3) (by simp)
    obtain rfl := Option.some.inj ht1
    obtain ⟨x1, e1, w1⟩ := sh3 (show shaped cod T n 3 [a1] from g1)
    simp only [List.cons.injEq, and_true] at e1
    obtain ⟨t2, ht2, g2⟩ := hf (2, 3) (by simp)
    obtain rfl := Option.some.inj ht2
    obtain ⟨x2, e2, w2⟩ := sh3 (show shaped cod T n 3 [a2] from g2)
    simp only [List.cons.injEq, and_true] at e2
    obtain ⟨t3, ht3, g3⟩ := hf (3, 3) (by simp)
    obtain rfl := Option.some.inj ht3
    obtain ⟨x3, e3, w3⟩ := sh3 (show shaped cod T n 3 [a3] from g3)
    simp only [List.cons.injEq, and_true] at e3
    obtain ⟨t4, ht4, g4⟩ := hf (4, 3) (by simp)
    obtain rfl := Option.some.inj ht4
    obtain ⟨x4, e4, w4⟩ := sh3 (show shaped cod T n 3 [a4] from g4)
    simp only [List.cons.injEq, and_true] at e4
    obtain ⟨t5, ht5, g5⟩ := hf (5, 3) (by simp)
    obtain rfl := Option.some.inj ht5
    obtain ⟨x5, e5, w5⟩ := sh3 (show shaped cod T n 3 [a5] from g5)
    simp only [List.cons.injEq, and_true] at e5
    obtain ⟨t6, ht6, g6⟩ := hf (6, 3) (by simp)
    obtain rfl := Option.some.inj ht6
    obtain ⟨x6, e6, w6⟩ := sh3 (show shaped cod T n 3 [a6] from g6)
    simp only [List.cons.injEq, and_true] at e6
    obtain ⟨t7, ht7, g7⟩ := hf (7, 4) (by simp)
    obtain rfl := Option.some.inj ht7
    obtain ⟨x7, e7, w7⟩ := sh4 (show shaped cod T n 4 [a7] from g7)
    simp only [List.cons.injEq, and_true] at e7
    obtain ⟨t8, ht8, g8⟩ := hf (8, 9) (by simp)
    obtain rfl := Option.some.inj ht8
    obtain ⟨x8, e8, w8⟩ := sh9 (show shaped cod T n 9 [a8] from g8)
    simp only [List.cons.injEq, and_true] at e8
    obtain rfl := e0
    obtain rfl := e1
    obtain rfl := e2
    obtain rfl := e3
    obtain rfl := e4
    obtain rfl := e5
    obtain rfl := e6
    obtain rfl := e7
    obtain rfl := e8
    exact ⟨⟨x0, x1, x2, x3, x4, x5, x6, x7, x8⟩, rfl, w0, w1, w2, w3, w4, w5, w6, w7, w8⟩
theorem sh145 {n : Nat} {avs : List V} (h : shaped cod T n 145 avs) : ∃ x : DHeld, avs = [.lit (.int .i64 x.Seq), .lit (.string x.Part.Text), .lit (.bool x.Part.Last)] ∧ wfDHeld x := by
  cases n with
  | zero => exact h.elim
  | succ n =>
    obtain ⟨hl, hf⟩ := (h : avs.length = 3 ∧ ∀ f ∈ ([(0, 3), (1, 103)] : List (Nat × TypeId)), ∃ tf, T f.2 = some tf ∧ shaped cod T n f.2 ((avs.drop f.1).take tf.size))
    obtain ⟨a0, a1, a2, rfl⟩ := list3 hl
    obtain ⟨t0, ht0, g0⟩ := hf (0, 3) (by simp)
    obtain rfl := Option.some.inj ht0
    obtain ⟨x0, e0, w0⟩ := sh3 (show shaped cod T n 3 [a0] from g0)
    simp only [List.cons.injEq, and_true] at e0
    obtain ⟨t1, ht1, g1⟩ := hf (1, 103) (by simp)
    obtain rfl := Option.some.inj ht1
    obtain ⟨x1, e1, w1⟩ := sh103 (show shaped cod T n 103 [a1, a2] from g1)
    simp only [List.cons.injEq, and_true] at e1
    obtain rfl := e0
    obtain ⟨rfl, rfl⟩ := e1
    exact ⟨⟨x0, x1⟩, rfl, w0, w1⟩
theorem sh45 {n : Nat} {avs : List V} (h : shaped cod T n 45 avs) : ∃ x : List DHeld, avs = [.inl false .held x] ∧ (x.length ≤ maxLen ∧ ∀ y ∈ x, wf_held y) := by
  cases n with
  | zero => exact h.elim
  | succ n =>
    obtain ⟨xs, h1, h2, h3⟩ := (h : ∃ xs : List (TyK .held), avs = [.inl false .held xs] ∧ xs.length ≤ maxLen ∧ ∀ x ∈ xs, shaped cod T n 145 (kenc .held x))
    refine ⟨xs, h1, h2, fun y hy => ?_⟩
    obtain ⟨z, hz, hw⟩ := sh145 (h3 y hy)
    have hz : ([.lit (.int .i64 y.Seq), .lit (.string y.Part.Text), .lit (.bool y.Part.Last)] : List V) = [.lit (.int .i64 z.Seq), .lit (.string z.Part.Text), .lit (.bool z.Part.Last)] := hz
    have : y = z := by
      simp only [List.cons.injEq, AV.lit.injEq, AV.inl.injEq, Value.int.injEq, Value.string.injEq, Value.bool.injEq, true_and, and_true, heq_eq_eq] at hz
      exact eq_DHeld y z hz
    subst this
    exact hw
theorem sh47 {n : Nat} {avs : List V} (h : shaped cod T n 47 avs) : ∃ x : DTake, avs = [.lit (.int .i64 x.Next), .inl false .held x.Held, .lit (.string x.Open), .inl false .str x.Ready] ∧ wfDTake x := by
  cases n with
  | zero => exact h.elim
  | succ n =>
    obtain ⟨hl, hf⟩ := (h : avs.length = 4 ∧ ∀ f ∈ ([(0, 3), (1, 45), (2, 9), (3, 24)] : List (Nat × TypeId)), ∃ tf, T f.2 = some tf ∧ shaped cod T n f.2 ((avs.drop f.1).take tf.size))
    obtain ⟨a0, a1, a2, a3, rfl⟩ := list4 hl
    obtain ⟨t0, ht0, g0⟩ := hf (0, 3) (by simp)
    obtain rfl := Option.some.inj ht0
    obtain ⟨x0, e0, w0⟩ := sh3 (show shaped cod T n 3 [a0] from g0)
    simp only [List.cons.injEq, and_true] at e0
    obtain ⟨t1, ht1, g1⟩ := hf (1, 45) (by simp)
    obtain rfl := Option.some.inj ht1
    obtain ⟨x1, e1, w1⟩ := sh45 (show shaped cod T n 45 [a1] from g1)
    simp only [List.cons.injEq, and_true] at e1
    obtain ⟨t2, ht2, g2⟩ := hf (2, 9) (by simp)
    obtain rfl := Option.some.inj ht2
    obtain ⟨x2, e2, w2⟩ := sh9 (show shaped cod T n 9 [a2] from g2)
    simp only [List.cons.injEq, and_true] at e2
    obtain ⟨t3, ht3, g3⟩ := hf (3, 24) (by simp)
    obtain rfl := Option.some.inj ht3
    obtain ⟨x3, e3, w3⟩ := sh24 (show shaped cod T n 24 [a3] from g3)
    simp only [List.cons.injEq, and_true] at e3
    obtain rfl := e0
    obtain rfl := e1
    obtain rfl := e2
    obtain rfl := e3
    exact ⟨⟨x0, x1, x2, x3⟩, rfl, w0, w1, w2, w3⟩
theorem sh117 {n : Nat} {avs : List V} (h : shaped cod T n 117 avs) : ∃ x : DHeld, avs = [.lit (.int .i64 x.Seq), .lit (.string x.Part.Text), .lit (.bool x.Part.Last)] ∧ wfDHeld x := by
  cases n with
  | zero => exact h.elim
  | succ n =>
    obtain ⟨hl, hf⟩ := (h : avs.length = 3 ∧ ∀ f ∈ ([(0, 3), (1, 60)] : List (Nat × TypeId)), ∃ tf, T f.2 = some tf ∧ shaped cod T n f.2 ((avs.drop f.1).take tf.size))
    obtain ⟨a0, a1, a2, rfl⟩ := list3 hl
    obtain ⟨t0, ht0, g0⟩ := hf (0, 3) (by simp)
    obtain rfl := Option.some.inj ht0
    obtain ⟨x0, e0, w0⟩ := sh3 (show shaped cod T n 3 [a0] from g0)
    simp only [List.cons.injEq, and_true] at e0
    obtain ⟨t1, ht1, g1⟩ := hf (1, 60) (by simp)
    obtain rfl := Option.some.inj ht1
    obtain ⟨x1, e1, w1⟩ := sh60 (show shaped cod T n 60 [a1, a2] from g1)
    simp only [List.cons.injEq, and_true] at e1
    obtain rfl := e0
    obtain ⟨rfl, rfl⟩ := e1
    exact ⟨⟨x0, x1⟩, rfl, w0, w1⟩
theorem sh50 {n : Nat} {avs : List V} (h : shaped cod T n 50 avs) : ∃ x : List DHeld, avs = [.inl false .held x] ∧ (x.length ≤ maxLen ∧ ∀ y ∈ x, wf_held y) := by
  cases n with
  | zero => exact h.elim
  | succ n =>
    obtain ⟨xs, h1, h2, h3⟩ := (h : ∃ xs : List (TyK .held), avs = [.inl false .held xs] ∧ xs.length ≤ maxLen ∧ ∀ x ∈ xs, shaped cod T n 117 (kenc .held x))
    refine ⟨xs, h1, h2, fun y hy => ?_⟩
    obtain ⟨z, hz, hw⟩ := sh117 (h3 y hy)
    have hz : ([.lit (.int .i64 y.Seq), .lit (.string y.Part.Text), .lit (.bool y.Part.Last)] : List V) = [.lit (.int .i64 z.Seq), .lit (.string z.Part.Text), .lit (.bool z.Part.Last)] := hz
    have : y = z := by
      simp only [List.cons.injEq, AV.lit.injEq, AV.inl.injEq, Value.int.injEq, Value.string.injEq, Value.bool.injEq, true_and, and_true, heq_eq_eq] at hz
      exact eq_DHeld y z hz
    subst this
    exact hw
theorem sh52 {n : Nat} {avs : List V} (h : shaped cod T n 52 avs) : ∃ x : DTake, avs = [.lit (.int .i64 x.Next), .inl false .held x.Held, .lit (.string x.Open), .inl false .str x.Ready] ∧ wfDTake x := by
  cases n with
  | zero => exact h.elim
  | succ n =>
    obtain ⟨hl, hf⟩ := (h : avs.length = 4 ∧ ∀ f ∈ ([(0, 3), (1, 50), (2, 9), (3, 24)] : List (Nat × TypeId)), ∃ tf, T f.2 = some tf ∧ shaped cod T n f.2 ((avs.drop f.1).take tf.size))
    obtain ⟨a0, a1, a2, a3, rfl⟩ := list4 hl
    obtain ⟨t0, ht0, g0⟩ := hf (0, 3) (by simp)
    obtain rfl := Option.some.inj ht0
    obtain ⟨x0, e0, w0⟩ := sh3 (show shaped cod T n 3 [a0] from g0)
    simp only [List.cons.injEq, and_true] at e0
    obtain ⟨t1, ht1, g1⟩ := hf (1, 50) (by simp)
    obtain rfl := Option.some.inj ht1
    obtain ⟨x1, e1, w1⟩ := sh50 (show shaped cod T n 50 [a1] from g1)
    simp only [List.cons.injEq, and_true] at e1
    obtain ⟨t2, ht2, g2⟩ := hf (2, 9) (by simp)
    obtain rfl := Option.some.inj ht2
    obtain ⟨x2, e2, w2⟩ := sh9 (show shaped cod T n 9 [a2] from g2)
    simp only [List.cons.injEq, and_true] at e2
    obtain ⟨t3, ht3, g3⟩ := hf (3, 24) (by simp)
    obtain rfl := Option.some.inj ht3
    obtain ⟨x3, e3, w3⟩ := sh24 (show shaped cod T n 24 [a3] from g3)
    simp only [List.cons.injEq, and_true] at e3
    obtain rfl := e0
    obtain rfl := e1
    obtain rfl := e2
    obtain rfl := e3
    exact ⟨⟨x0, x1, x2, x3⟩, rfl, w0, w1, w2, w3⟩
theorem sh150 {n : Nat} {avs : List V} (h : shaped cod T n 150 avs) : ∃ x : DItem, avs = [.lit (.string x.Part.Text), .lit (.bool x.Part.Last), .lit (.bool x.Has), .lit (.int .i64 x.Since)] ∧ wfDItem x := by
  cases n with
  | zero => exact h.elim
  | succ n =>
    obtain ⟨hl, hf⟩ := (h : avs.length = 4 ∧ ∀ f ∈ ([(0, 103), (2, 4), (3, 3)] : List (Nat × TypeId)), ∃ tf, T f.2 = some tf ∧ shaped cod T n f.2 ((avs.drop f.1).take tf.size))
    obtain ⟨a0, a1, a2, a3, rfl⟩ := list4 hl
    obtain ⟨t0, ht0, g0⟩ := hf (0, 103) (by simp)
    obtain rfl := Option.some.inj ht0
    obtain ⟨x0, e0, w0⟩ := sh103 (show shaped cod T n 103 [a0, a1] from g0)
    simp only [List.cons.injEq, and_true] at e0
    obtain ⟨t1, ht1, g1⟩ := hf (2, 4) (by simp)
    obtain rfl := Option.some.inj ht1
    obtain ⟨x1, e1, w1⟩ := sh4 (show shaped cod T n 4 [a2] from g1)
    simp only [List.cons.injEq, and_true] at e1
    obtain ⟨t2, ht2, g2⟩ := hf (3, 3) (by simp)
    obtain rfl := Option.some.inj ht2
    obtain ⟨x2, e2, w2⟩ := sh3 (show shaped cod T n 3 [a3] from g2)
    simp only [List.cons.injEq, and_true] at e2
    obtain ⟨rfl, rfl⟩ := e0
    obtain rfl := e1
    obtain rfl := e2
    exact ⟨⟨x0, x1, x2⟩, rfl, w0, w1, w2⟩
theorem sh63 {n : Nat} {avs : List V} (h : shaped cod T n 63 avs) : ∃ x : List DItem, avs = [.inl false .item x] ∧ (x.length ≤ maxLen ∧ ∀ y ∈ x, wf_item y) := by
  cases n with
  | zero => exact h.elim
  | succ n =>
    obtain ⟨xs, h1, h2, h3⟩ := (h : ∃ xs : List (TyK .item), avs = [.inl false .item xs] ∧ xs.length ≤ maxLen ∧ ∀ x ∈ xs, shaped cod T n 150 (kenc .item x))
    refine ⟨xs, h1, h2, fun y hy => ?_⟩
    obtain ⟨z, hz, hw⟩ := sh150 (h3 y hy)
    have hz : ([.lit (.string y.Part.Text), .lit (.bool y.Part.Last), .lit (.bool y.Has), .lit (.int .i64 y.Since)] : List V) = [.lit (.string z.Part.Text), .lit (.bool z.Part.Last), .lit (.bool z.Has), .lit (.int .i64 z.Since)] := hz
    have : y = z := by
      simp only [List.cons.injEq, AV.lit.injEq, AV.inl.injEq, Value.int.injEq, Value.string.injEq, Value.bool.injEq, true_and, and_true, heq_eq_eq] at hz
      exact eq_DItem y z hz
    subst this
    exact hw
theorem sh65 {n : Nat} {avs : List V} (h : shaped cod T n 65 avs) : ∃ x : DSend, avs = [.lit (.int .i64 x.Base), .inl false .item x.Items] ∧ wfDSend x := by
  cases n with
  | zero => exact h.elim
  | succ n =>
    obtain ⟨hl, hf⟩ := (h : avs.length = 2 ∧ ∀ f ∈ ([(0, 3), (1, 63)] : List (Nat × TypeId)), ∃ tf, T f.2 = some tf ∧ shaped cod T n f.2 ((avs.drop f.1).take tf.size))
    obtain ⟨a0, a1, rfl⟩ := list2 hl
    obtain ⟨t0, ht0, g0⟩ := hf (0, 3) (by simp)
    obtain rfl := Option.some.inj ht0
    obtain ⟨x0, e0, w0⟩ := sh3 (show shaped cod T n 3 [a0] from g0)
    simp only [List.cons.injEq, and_true] at e0
    obtain ⟨t1, ht1, g1⟩ := hf (1, 63) (by simp)
    obtain rfl := Option.some.inj ht1
    obtain ⟨x1, e1, w1⟩ := sh63 (show shaped cod T n 63 [a1] from g1)
    simp only [List.cons.injEq, and_true] at e1
    obtain rfl := e0
    obtain rfl := e1
    exact ⟨⟨x0, x1⟩, rfl, w0, w1⟩
theorem sh94 {n : Nat} {avs : List V} (h : shaped cod T n 94 avs) : ∃ x : DItem, avs = [.lit (.string x.Part.Text), .lit (.bool x.Part.Last), .lit (.bool x.Has), .lit (.int .i64 x.Since)] ∧ wfDItem x := by
  cases n with
  | zero => exact h.elim
  | succ n =>
    obtain ⟨hl, hf⟩ := (h : avs.length = 4 ∧ ∀ f ∈ ([(0, 60), (2, 4), (3, 3)] : List (Nat × TypeId)), ∃ tf, T f.2 = some tf ∧ shaped cod T n f.2 ((avs.drop f.1).take tf.size))
    obtain ⟨a0, a1, a2, a3, rfl⟩ := list4 hl
    obtain ⟨t0, ht0, g0⟩ := hf (0, 60) (by simp)
    obtain rfl := Option.some.inj ht0
    obtain ⟨x0, e0, w0⟩ := sh60 (show shaped cod T n 60 [a0, a1] from g0)
    simp only [List.cons.injEq, and_true] at e0
    obtain ⟨t1, ht1, g1⟩ := hf (2, 4) (by simp)
    obtain rfl := Option.some.inj ht1
    obtain ⟨x1, e1, w1⟩ := sh4 (show shaped cod T n 4 [a2] from g1)
    simp only [List.cons.injEq, and_true] at e1
    obtain ⟨t2, ht2, g2⟩ := hf (3, 3) (by simp)
    obtain rfl := Option.some.inj ht2
    obtain ⟨x2, e2, w2⟩ := sh3 (show shaped cod T n 3 [a3] from g2)
    simp only [List.cons.injEq, and_true] at e2
    obtain ⟨rfl, rfl⟩ := e0
    obtain rfl := e1
    obtain rfl := e2
    exact ⟨⟨x0, x1, x2⟩, rfl, w0, w1, w2⟩
theorem sh67 {n : Nat} {avs : List V} (h : shaped cod T n 67 avs) : ∃ x : List DItem, avs = [.inl false .item x] ∧ (x.length ≤ maxLen ∧ ∀ y ∈ x, wf_item y) := by
  cases n with
  | zero => exact h.elim
  | succ n =>
    obtain ⟨xs, h1, h2, h3⟩ := (h : ∃ xs : List (TyK .item), avs = [.inl false .item xs] ∧ xs.length ≤ maxLen ∧ ∀ x ∈ xs, shaped cod T n 94 (kenc .item x))
    refine ⟨xs, h1, h2, fun y hy => ?_⟩
    obtain ⟨z, hz, hw⟩ := sh94 (h3 y hy)
    have hz : ([.lit (.string y.Part.Text), .lit (.bool y.Part.Last), .lit (.bool y.Has), .lit (.int .i64 y.Since)] : List V) = [.lit (.string z.Part.Text), .lit (.bool z.Part.Last), .lit (.bool z.Has), .lit (.int .i64 z.Since)] := hz
    have : y = z := by
      simp only [List.cons.injEq, AV.lit.injEq, AV.inl.injEq, Value.int.injEq, Value.string.injEq, Value.bool.injEq, true_and, and_true, heq_eq_eq] at hz
      exact eq_DItem y z hz
    subst this
    exact hw
theorem sh69 {n : Nat} {avs : List V} (h : shaped cod T n 69 avs) : ∃ x : DSend, avs = [.lit (.int .i64 x.Base), .inl false .item x.Items] ∧ wfDSend x := by
  cases n with
  | zero => exact h.elim
  | succ n =>
    obtain ⟨hl, hf⟩ := (h : avs.length = 2 ∧ ∀ f ∈ ([(0, 3), (1, 67)] : List (Nat × TypeId)), ∃ tf, T f.2 = some tf ∧ shaped cod T n f.2 ((avs.drop f.1).take tf.size))
    obtain ⟨a0, a1, rfl⟩ := list2 hl
    obtain ⟨t0, ht0, g0⟩ := hf (0, 3) (by simp)
    obtain rfl := Option.some.inj ht0
    obtain ⟨x0, e0, w0⟩ := sh3 (show shaped cod T n 3 [a0] from g0)
    simp only [List.cons.injEq, and_true] at e0
    obtain ⟨t1, ht1, g1⟩ := hf (1, 67) (by simp)
    obtain rfl := Option.some.inj ht1
    obtain ⟨x1, e1, w1⟩ := sh67 (show shaped cod T n 67 [a1] from g1)
    simp only [List.cons.injEq, and_true] at e1
    obtain rfl := e0
    obtain rfl := e1
    exact ⟨⟨x0, x1⟩, rfl, w0, w1⟩
theorem sh78 {n : Nat} {avs : List V} (h : shaped cod T n 78 avs) : ∃ x : List Int, avs = [.inl false .int x] ∧ (x.length ≤ maxLen ∧ ∀ y ∈ x, wf_int y) := by
  cases n with
  | zero => exact h.elim
  | succ n =>
    obtain ⟨xs, h1, h2, h3⟩ := (h : ∃ xs : List (TyK .int), avs = [.inl false .int xs] ∧ xs.length ≤ maxLen ∧ ∀ x ∈ xs, shaped cod T n 3 (kenc .int x))
    refine ⟨xs, h1, h2, fun y hy => ?_⟩
    obtain ⟨z, hz, hw⟩ := sh3 (h3 y hy)
    have hz : ([.lit (.int .i64 y)] : List V) = [.lit (.int .i64 z)] := hz
    have : y = z := by
      simp only [List.cons.injEq, AV.lit.injEq, AV.inl.injEq, Value.int.injEq, Value.string.injEq, Value.bool.injEq, true_and, and_true, heq_eq_eq] at hz
      exact hz
    subst this
    exact hw
theorem sh85 {n : Nat} {avs : List V} (h : shaped cod T n 85 avs) : ∃ x : DEnd, avs = [.lit (.int .i64 x.Number), .lit (.bool x.Up), .lit (.int .i64 x.Life), .lit (.int .i64 x.Peer), .lit (.int .i64 x.Since), .lit (.bool x.Owes), .lit (.int .i64 x.Send.Base), .inl false .item x.Send.Items, .lit (.int .i64 x.Take.Next), .inl false .held x.Take.Held, .lit (.string x.Take.Open), .inl false .str x.Take.Ready] ∧ wfDEnd x := by
  cases n with
  | zero => exact h.elim
  | succ n =>
    obtain ⟨hl, hf⟩ := (h : avs.length = 12 ∧ ∀ f ∈ ([(0, 3), (1, 4), (2, 3), (3, 3), (4, 3), (5, 4), (6, 69), (8, 52)] : List (Nat × TypeId)), ∃ tf, T f.2 = some tf ∧ shaped cod T n f.2 ((avs.drop f.1).take tf.size))
    obtain ⟨a0, a1, a2, a3, a4, a5, a6, a7, a8, a9, a10, a11, rfl⟩ := list12 hl
    obtain ⟨t0, ht0, g0⟩ := hf (0, 3) (by simp)
    obtain rfl := Option.some.inj ht0
    obtain ⟨x0, e0, w0⟩ := sh3 (show shaped cod T n 3 [a0] from g0)
    simp only [List.cons.injEq, and_true] at e0
    obtain ⟨t1, ht1, g1⟩ := hf (1, 4) (by simp)
    obtain rfl := Option.some.inj ht1
    obtain ⟨x1, e1, w1⟩ := sh4 (show shaped cod T n 4 [a1] from g1)
    simp only [List.cons.injEq, and_true] at e1
    obtain ⟨t2, ht2, g2⟩ := hf (2, 3) (by simp)
    obtain rfl := Option.some.inj ht2
    obtain ⟨x2, e2, w2⟩ := sh3 (show shaped cod T n 3 [a2] from g2)
    simp only [List.cons.injEq, and_true] at e2
    obtain ⟨t3, ht3, g3⟩ := hf (3, 3) (by simp)
    obtain rfl := Option.some.inj ht3
    obtain ⟨x3, e3, w3⟩ := sh3 (show shaped cod T n 3 [a3] from g3)
    simp only [List.cons.injEq, and_true] at e3
    obtain ⟨t4, ht4, g4⟩ := hf (4, 3) (by simp)
    obtain rfl := Option.some.inj ht4
    obtain ⟨x4, e4, w4⟩ := sh3 (show shaped cod T n 3 [a4] from g4)
    simp only [List.cons.injEq, and_true] at e4
    obtain ⟨t5, ht5, g5⟩ := hf (5, 4) (by simp)
    obtain rfl := Option.some.inj ht5
    obtain ⟨x5, e5, w5⟩ := sh4 (show shaped cod T n 4 [a5] from g5)
    simp only [List.cons.injEq, and_true] at e5
    obtain ⟨t6, ht6, g6⟩ := hf (6, 69) (by simp)
    obtain rfl := Option.some.inj ht6
    obtain ⟨x6, e6, w6⟩ := sh69 (show shaped cod T n 69 [a6, a7] from g6)
    simp only [List.cons.injEq, and_true] at e6
    obtain ⟨t7, ht7, g7⟩ := hf (8, 52) (by simp)
    obtain rfl := Option.some.inj ht7
    obtain ⟨x7, e7, w7⟩ := sh52 (show shaped cod T n 52 [a8, a9, a10, a11] from g7)
    simp only [List.cons.injEq, and_true] at e7
    obtain rfl := e0
    obtain rfl := e1
    obtain rfl := e2
    obtain rfl := e3
    obtain rfl := e4
    obtain rfl := e5
    obtain ⟨rfl, rfl⟩ := e6
    obtain ⟨rfl, rfl, rfl, rfl⟩ := e7
    exact ⟨⟨x0, x1, x2, x3, x4, x5, x6, x7⟩, rfl, w0, w1, w2, w3, w4, w5, w6, w7⟩
theorem sh137 {n : Nat} {avs : List V} (h : shaped cod T n 137 avs) : ∃ x : Int, avs = [.lit (.int .u64 x)] ∧ (Lit.int .u64 x).wf = true := by
  cases n with
  | zero => exact h.elim
  | succ n =>
    exact h
theorem sh139 {n : Nat} {avs : List V} (h : shaped cod T n 139 avs) : ∃ x : Int, avs = [.lit (.int .u64 x)] ∧ (Lit.int .u64 x).wf = true := by
  cases n with
  | zero => exact h.elim
  | succ n =>
    exact h
theorem sh142 {n : Nat} {avs : List V} (h : shaped cod T n 142 avs) : ∃ x : DL1Rd, avs = [.inl false .byte x.b, .lit (.int .i64 x.p)] ∧ wfDL1Rd x := by
  cases n with
  | zero => exact h.elim
  | succ n =>
    obtain ⟨hl, hf⟩ := (h : avs.length = 2 ∧ ∀ f ∈ ([(0, 34), (1, 3)] : List (Nat × TypeId)), ∃ tf, T f.2 = some tf ∧ shaped cod T n f.2 ((avs.drop f.1).take tf.size))
    obtain ⟨a0, a1, rfl⟩ := list2 hl
    obtain ⟨t0, ht0, g0⟩ := hf (0, 34) (by simp)
    obtain rfl := Option.some.inj ht0
    obtain ⟨x0, e0, w0⟩ := sh34 (show shaped cod T n 34 [a0] from g0)
    simp only [List.cons.injEq, and_true] at e0
    obtain ⟨t1, ht1, g1⟩ := hf (1, 3) (by simp)
    obtain rfl := Option.some.inj ht1
    obtain ⟨x1, e1, w1⟩ := sh3 (show shaped cod T n 3 [a1] from g1)
    simp only [List.cons.injEq, and_true] at e1
    obtain rfl := e0
    obtain rfl := e1
    exact ⟨⟨x0, x1⟩, rfl, w0, w1⟩
theorem sh163 {n : Nat} {avs : List V} (h : shaped cod T n 163 avs) : ∃ x : Int, avs = [.lit (.int .u32 x)] ∧ (Lit.int .u32 x).wf = true := by
  cases n with
  | zero => exact h.elim
  | succ n =>
    exact h
def rowFull (e : Nat × TI K TyK) : Prop := ∀ e2 s n avs, e.2.shp = .slice e2 s → cod.bor s = false → shaped cod T n e2 avs → ∃ x, cod.enc s x = avs
theorem rowsFull : ∀ e ∈ tbl, rowFull e :=
  all_cons (fun e s n avs h hb => by cases h) (
  all_cons (fun e s n avs h hb => by cases h) (
  all_cons (fun e s n avs h hb => by cases h) (
  all_cons (fun e s n avs h hb => by cases h) (
  all_cons (fun e s n avs h hb => by cases h) (
  all_cons (fun e s n avs h hb => by cases h) (
  all_cons (fun e s n avs h hb => by cases h) (
  all_cons (fun e s n avs h hb hs => by cases h; obtain ⟨x, hx, _⟩ := sh103 hs; exact ⟨x, hx.symm⟩) (
  all_cons (fun e s n avs h hb hs => by cases h; obtain ⟨x, hx, _⟩ := sh9 hs; exact ⟨x, hx.symm⟩) (
  all_cons (fun e s n avs h hb hs => by cases h; obtain ⟨x, hx, _⟩ := sh60 hs; exact ⟨x, hx.symm⟩) (
  all_cons (fun e s n avs h hb hs => by cases h; obtain ⟨x, hx, _⟩ := sh5 hs; exact ⟨x, hx.symm⟩) (
  all_cons (fun e s n avs h hb => by cases h) (
  all_cons (fun e s n avs h hb hs => by cases h; obtain ⟨x, hx, _⟩ := sh145 hs; exact ⟨x, hx.symm⟩) (
  all_cons (fun e s n avs h hb => by cases h) (
  all_cons (fun e s n avs h hb hs => by cases h; obtain ⟨x, hx, _⟩ := sh117 hs; exact ⟨x, hx.symm⟩) (
  all_cons (fun e s n avs h hb => by cases h) (
  all_cons (fun e s n avs h hb => by cases h) (
  all_cons (fun e s n avs h hb hs => by cases h; obtain ⟨x, hx, _⟩ := sh150 hs; exact ⟨x, hx.symm⟩) (
  all_cons (fun e s n avs h hb => by cases h) (
  all_cons (fun e s n avs h hb hs => by cases h; obtain ⟨x, hx, _⟩ := sh94 hs; exact ⟨x, hx.symm⟩) (
  all_cons (fun e s n avs h hb => by cases h) (
  all_cons (fun e s n avs h hb hs => by cases h; obtain ⟨x, hx, _⟩ := sh3 hs; exact ⟨x, hx.symm⟩) (
  all_cons (fun e s n avs h hb => by cases h) (
  all_cons (fun e s n avs h hb => by cases h) (
  all_cons (fun e s n avs h hb => by cases h) (
  all_cons (fun e s n avs h hb => by cases h) (
  all_cons (fun e s n avs h hb => by cases h) (
  all_cons (fun e s n avs h hb => by cases h) (
  all_cons (fun e s n avs h hb => by cases h) (
  all_cons (fun e s n avs h hb => by cases h) (
  all_cons (fun e s n avs h hb => by cases h) (
  all_cons (fun e s n avs h hb => by cases h) (
  all_cons (fun e s n avs h hb => by cases h) (
  all_cons (fun e s n avs h hb => by cases h) (
  all_cons (fun e s n avs h hb => by cases h) (
  all_cons (fun e s n avs h hb => by cases h) (all_nil))))))))))))))))))))))))))))))))))))
theorem fullC : FullC cod T := FullC.of (by kernel_rfl) (fun e he => rowsFull e he) (fun s => by cases s <;> decide) trivial
end Km.X
